/- Mul, both. -/
import Derived.Test.YtflgmookgadodaaN3
namespace Go.Fx.Try
open Go Go.Fx Go.Fx.Num
set_option linter.unusedVariables false
set_option linter.unusedSimpArgs false

theorem mul_bound {x y : Int} (hx : 0 ≤ x ∧ x < 4294967296) (hy : 0 ≤ y ∧ y < 4294967296) : 0 ≤ x * y ∧ x * y ≤ 18446744065119617025 := by
  refine ⟨Int.mul_nonneg hx.1 hy.1, ?_⟩
  have h1 : x * y ≤ 4294967295 * y := Int.mul_le_mul_of_nonneg_right (by omega) hy.1
  have h2 : 4294967295 * y ≤ 4294967295 * 4294967295 := Int.mul_le_mul_of_nonneg_left (by omega) (by decide)
  omega
theorem i64_2 {i k : Nat} (h : i + k < 4611686018427387904) : IntKind.i64.wrap ((i : Int) + (k : Int)) = ((i + k : Nat) : Int) := by rw [IntWalk.i64_in _ (by omega)]; omega

/-- What a row of a product's loop keeps: k of the second's limbs are taken. -/
def MulInv (c0 : List Int) (x : Int) (b : List Int) (n i k : Nat) (c : List Int) (q : Int) : Prop :=
  c.length = n ∧ Limbs c ∧ (0 ≤ q ∧ q < 4294967296) ∧ (∀ j, i + b.length ≤ j → c.getD j 0 = 0) ∧ val c + q * pw (i + k) = val c0 + x * val (b.take k) * pw i
theorem MulInv.next {c0 : List Int} {x : Int} {b : List Int} {n i k : Nat} {c : List Int} {q : Int} (h : MulInv c0 x b n i k c q) (hx : 0 ≤ x ∧ x < 4294967296) (hb : Limbs b) (hk : k < b.length) (hn : i + b.length < n) :
    let t := x * b.getD k 0 + c.getD (i + k) 0 + q
    (0 ≤ t ∧ t < 18446744073709551616) ∧ MulInv c0 x b n i (k + 1) (c.set (i + k) (t % 4294967296)) (t / 4294967296) := by
  obtain ⟨h1, h2, h3, h4, h5⟩ := h
  have g1 := hb.get k
  have g2 := h2.get (i + k)
  have g3 := mul_bound hx g1
  intro t
  have ht : t = x * b.getD k 0 + c.getD (i + k) 0 + q := rfl
  refine ⟨by omega, by simpa using h1, h2.set _ (by omega), by omega, fun j hj => ?_, ?_⟩
  · rw [getD_set (by omega), if_neg (by omega)]; exact h4 j hj
  · rw [← Nat.add_assoc, carry_step (x := x * b.getD k 0) (by omega) (by omega) h5, val_take_next, pw_add, Int.mul_add, Int.add_mul]
    have : x * b.getD k 0 * (pw i * pw k) = x * (b.getD k 0 * pw k) * pw i := by
      rw [Int.mul_comm (pw i), Int.mul_assoc, Int.mul_assoc, Int.mul_assoc]
    omega
theorem MulInv.last {c0 : List Int} {x : Int} {b : List Int} {n i : Nat} {c : List Int} {q : Int} (h : MulInv c0 x b n i b.length c q) (hn : i + b.length < n) :
    (c.set (i + b.length) q).length = n ∧ Limbs (c.set (i + b.length) q) ∧ (∀ j, (i + 1) + b.length ≤ j → (c.set (i + b.length) q).getD j 0 = 0) ∧ val (c.set (i + b.length) q) = val c0 + x * val b * pw i := by
  obtain ⟨h1, h2, h3, h4, h5⟩ := h
  refine ⟨by simpa using h1, h2.set _ h3, fun j hj => ?_, ?_⟩
  · rw [getD_set (by omega), if_neg (by omega)]; exact h4 j (by omega)
  · rw [val_set q (by omega), h4 _ (Nat.le_refl _), Int.sub_zero, h5, List.take_length]
theorem mul_next (a b : List Int) (i : Nat) : val (a.take i) * val b + a.getD i 0 * val b * pw i = val (a.take (i + 1)) * val b := by
  rw [val_take_next, Int.add_mul, Int.mul_assoc, Int.mul_comm (val b), ← Int.mul_assoc]

theorem rMul_F {a b : List Int} (ha : Limbs a) (hb : Limbs b) (hl : a.length + b.length ≤ 70368744177664) : fulcrumref01_Mul.F (a, b, ()) = some (canon (val a * val b), ()) := by
  obtain ⟨j, hj⟩ := up (fun k (s : Nat × List Int) => fulcrumref01_Mul.L3 k a b s.2 (s.1 : Int)) (canon (val a * val b), ()) (fun i c => c.length = a.length + b.length ∧ Limbs c ∧ (∀ j, i + b.length ≤ j → c.getD j 0 = 0) ∧ val c = val (a.take i) * val b) a.length (fun i c hi ⟨h1, h2, h3, h4⟩ => by
      obtain ⟨t, ht, j, hj⟩ := upTo (fun k (s : Nat × List Int × Int) => fulcrumref01_Mul.L7 k a b s.2.1 i s.2.2 (s.1 : Int)) (fun k (c : List Int) => fulcrumref01_Mul.L3 k a b c ((i + 1 : Nat) : Int)) (fun k s => MulInv c (a.getD i 0) b (a.length + b.length) i k s.1 s.2)
        (fun c' => c'.length = a.length + b.length ∧ Limbs c' ∧ (∀ j, (i + 1) + b.length ≤ j → c'.getD j 0 = 0) ∧ val c' = val (a.take (i + 1)) * val b) b.length
        (fun k s hk hs => by
          obtain ⟨c', q⟩ := s
          obtain ⟨ht, hn⟩ := MulInv.next hs (ha.get i) hb hk (by omega)
          obtain ⟨h1, h2, h3, h4, h5⟩ := hs
          simp only at h1 h2 h3 h4 h5 ht
          have g0 := ha.get i
          have g1 := hb.get k
          have g2 := h2.get (i + k)
          have g3 := mul_bound g0 g1
          refine ⟨(c'.set (i + k) ((a.getD i 0 * b.getD k 0 + c'.getD (i + k) 0 + q) % 4294967296), (a.getD i 0 * b.getD k 0 + c'.getD (i + k) 0 + q) / 4294967296), hn, 1, fun m => ?_⟩
          simp (disch := omega) only [c_dec, c_beq, c_bne, c_and, c_or, c_not, blt_dec, up1, dn1, if_t, if_f, if_true, if_false, Int.toNat_natCast, Option.bind_some, ne_eq, not_true_eq_false, not_false_eq_true, true_and, and_true, fulcrumref01_Mul.L7_succ, fulcrumref01_Mul.b7, IntWalk.u64_in, i64_2, w32, shr64_32])
        (fun s hs => by
          obtain ⟨c', q⟩ := s
          have hn := MulInv.last hs (by omega)
          obtain ⟨h1, h2, h3, h4', h5⟩ := hs
          simp only at h1 h3
          refine ⟨c'.set (i + b.length) q, ⟨hn.1, hn.2.1, hn.2.2.1, by rw [hn.2.2.2, h4, mul_next]⟩, 1, fun m => ?_⟩
          simp (disch := omega) only [c_dec, c_beq, c_bne, c_and, c_or, c_not, blt_dec, up1, dn1, if_t, if_f, if_true, if_false, Int.toNat_natCast, Option.bind_some, ne_eq, not_true_eq_false, not_false_eq_true, true_and, and_true, fulcrumref01_Mul.L7_succ, fulcrumref01_Mul.b7, i64_2, IntWalk.u32_in]) 0 (c, 0) (Nat.zero_le _) ⟨h1, h2, by simp, h3, by simp [val_nil]⟩
      refine ⟨t, ht, j + 1, fun k => ?_⟩
      rw [← Nat.add_assoc]
      simp (disch := omega) only [c_dec, c_beq, c_bne, c_and, c_or, c_not, blt_dec, up1, dn1, if_t, if_f, if_true, if_false, Int.toNat_natCast, Option.bind_some, ne_eq, not_true_eq_false, not_false_eq_true, true_and, and_true, fulcrumref01_Mul.L3_succ, fulcrumref01_Mul.b3]
      exact hj k) (fun c ⟨h1, h2, h3, h4⟩ => by
      refine ⟨1, fun k => ?_⟩
      rw [List.take_length] at h4
      simp (disch := omega) only [c_dec, c_beq, c_bne, c_and, c_or, c_not, blt_dec, up1, dn1, if_t, if_f, if_true, if_false, Int.toNat_natCast, Option.bind_some, ne_eq, not_true_eq_false, not_false_eq_true, true_and, and_true, fulcrumref01_Mul.L3_succ, fulcrumref01_Mul.b3, rNorm_F h2 (by omega), h4]) 0 (List.replicate (a.length + b.length) 0) (Nat.zero_le _) ⟨by simp, Limbs.zeros _, fun j _ => getD_zeros _ _, by simp [val_zeros, val_nil]⟩
  refine fulcrumref01_Mul.of (0 + j) a b ?_
  simp (disch := omega) only [c_dec, c_beq, c_bne, c_and, c_or, c_not, blt_dec, up1, dn1, if_t, if_f, if_true, if_false, Int.toNat_natCast, Option.bind_some, ne_eq, not_true_eq_false, not_false_eq_true, true_and, and_true, fulcrumref01_Mul.e, i64_2]
  exact hj 0

theorem Mul_F {x y : List Int} (hx : Limbs x) (hy : Limbs y) (hl : x.length + y.length ≤ 70368744177664) : nat_Mul.F (x, y, ()) = some (canon (val x * val y), ()) := by
  have na := canon_val_len hx
  have nb := canon_val_len hy
  have va := val_canon (val_nonneg hx)
  have vb := val_canon (val_nonneg hy)
  have ha := canon_limbs (val x)
  have hb := canon_limbs (val y)
  suffices h : ∃ k, nat_Mul.e (nat_Mul.L4 k) (nat_Mul.L8 k) x y = some (canon (val x * val y), ()) by obtain ⟨k, hk⟩ := h; exact nat_Mul.of k x y hk
  simp only [nat_Mul.e, trim_F hx (by omega), trim_F hy (by omega), Option.bind_some]
  rw [← va, ← vb, va, vb]
  generalize canon (val x) = a at na va ha ⊢
  generalize canon (val y) = b at nb vb hb ⊢
  rw [← va, ← vb]
  obtain ⟨j, hj⟩ := up (fun k (s : Nat × List Int) => nat_Mul.L4 k a b s.2 a.length (s.1 : Int)) (canon (val a * val b), ()) (fun i c => c.length = a.length + b.length ∧ Limbs c ∧ (∀ j, i + b.length ≤ j → c.getD j 0 = 0) ∧ val c = val (a.take i) * val b) a.length (fun i c hi ⟨h1, h2, h3, h4⟩ => by
      obtain ⟨t, ht, j, hj⟩ := upTo (fun k (s : Nat × List Int × Int) => nat_Mul.L8 k a b s.2.1 i s.2.2 a.length i b.length (s.1 : Int)) (fun k (c : List Int) => nat_Mul.L4 k a b c a.length ((i + 1 : Nat) : Int)) (fun k s => MulInv c (a.getD i 0) b (a.length + b.length) i k s.1 s.2)
        (fun c' => c'.length = a.length + b.length ∧ Limbs c' ∧ (∀ j, (i + 1) + b.length ≤ j → c'.getD j 0 = 0) ∧ val c' = val (a.take (i + 1)) * val b) b.length
        (fun k s hk hs => by
          obtain ⟨c', q⟩ := s
          obtain ⟨ht, hn⟩ := MulInv.next hs (ha.get i) hb hk (by omega)
          obtain ⟨h1, h2, h3, h4, h5⟩ := hs
          simp only at h1 h2 h3 h4 h5 ht
          have g0 := ha.get i
          have g1 := hb.get k
          have g2 := h2.get (i + k)
          have g3 := mul_bound g0 g1
          refine ⟨(c'.set (i + k) ((a.getD i 0 * b.getD k 0 + c'.getD (i + k) 0 + q) % 4294967296), (a.getD i 0 * b.getD k 0 + c'.getD (i + k) 0 + q) / 4294967296), hn, 1, fun m => ?_⟩
          simp (disch := omega) only [c_dec, c_beq, c_bne, c_and, c_or, c_not, blt_dec, up1, dn1, if_t, if_f, if_true, if_false, Int.toNat_natCast, Option.bind_some, ne_eq, not_true_eq_false, not_false_eq_true, true_and, and_true, nat_Mul.L8_succ, nat_Mul.b8, IntWalk.u64_in, i64_2, w32, shr64_32])
        (fun s hs => by
          obtain ⟨c', q⟩ := s
          have hn := MulInv.last hs (by omega)
          obtain ⟨h1, h2, h3, h4', h5⟩ := hs
          simp only at h1 h3
          refine ⟨c'.set (i + b.length) q, ⟨hn.1, hn.2.1, hn.2.2.1, by rw [hn.2.2.2, h4, mul_next]⟩, 1, fun m => ?_⟩
          simp (disch := omega) only [c_dec, c_beq, c_bne, c_and, c_or, c_not, blt_dec, up1, dn1, if_t, if_f, if_true, if_false, Int.toNat_natCast, Option.bind_some, ne_eq, not_true_eq_false, not_false_eq_true, true_and, and_true, nat_Mul.L8_succ, nat_Mul.b8, i64_2, IntWalk.u32_in]) 0 (c, 0) (Nat.zero_le _) ⟨h1, h2, by simp, h3, by simp [val_nil]⟩
      refine ⟨t, ht, j + 1, fun k => ?_⟩
      rw [← Nat.add_assoc]
      simp (disch := omega) only [c_dec, c_beq, c_bne, c_and, c_or, c_not, blt_dec, up1, dn1, if_t, if_f, if_true, if_false, Int.toNat_natCast, Option.bind_some, ne_eq, not_true_eq_false, not_false_eq_true, true_and, and_true, nat_Mul.L4_succ, nat_Mul.b4]
      exact hj k) (fun c ⟨h1, h2, h3, h4⟩ => by
      refine ⟨1, fun k => ?_⟩
      rw [List.take_length] at h4
      simp (disch := omega) only [c_dec, c_beq, c_bne, c_and, c_or, c_not, blt_dec, up1, dn1, if_t, if_f, if_true, if_false, Int.toNat_natCast, Option.bind_some, ne_eq, not_true_eq_false, not_false_eq_true, true_and, and_true, nat_Mul.L4_succ, nat_Mul.b4, own_F h2 (by omega), h4]) 0 (List.replicate (a.length + b.length) 0) (Nat.zero_le _) ⟨by simp, Limbs.zeros _, fun j _ => getD_zeros _ _, by simp [val_zeros, val_nil]⟩
  refine ⟨0 + j, ?_⟩
  simp (disch := omega) only [c_dec, c_beq, c_bne, c_and, c_or, c_not, blt_dec, up1, dn1, if_t, if_f, if_true, if_false, Int.toNat_natCast, Option.bind_some, ne_eq, not_true_eq_false, not_false_eq_true, true_and, and_true, i64_2]
  exact hj 0
end Go.Fx.Try
