/- moved: a number times a power of two below a limb's. -/
import Derived.Test.YtjhbcpnliiegoaaNC
import Derived.Test.YtjhbcpnliiegoaaNB
namespace Go.Fx.Try
open Go Go.Fx Go.Fx.Num
set_option linter.unusedVariables false
set_option linter.unusedSimpArgs false

theorem two_nat (n : Nat) : ((2 ^ n : Nat) : Int) = 2 ^ n := by push_cast; rfl
theorem two_split {u : Nat} (h : u ≤ 32) : (4294967296 : Int) = 2 ^ u * 2 ^ (32 - u) := by
  rw [← Int.pow_add, show u + (32 - u) = 32 by omega]; decide
theorem shift_parts {x : Int} {u : Nat} (hx : 0 ≤ x ∧ x < 4294967296) (hu : u < 32) :
    (x * 2 ^ u) % 4294967296 + 4294967296 * (x / 2 ^ (32 - u)) = x * 2 ^ u ∧ 0 ≤ x / 2 ^ (32 - u) ∧ x / 2 ^ (32 - u) < 2 ^ u ∧ ∃ z, 0 ≤ z ∧ (x * 2 ^ u) % 4294967296 = 2 ^ u * z := by
  have hB := two_split (u := u) (by omega)
  have p1 := two_pos u
  have p2 := two_pos (32 - u)
  have e : x * 2 ^ u / 4294967296 = x / 2 ^ (32 - u) := by
    rw [hB, Int.mul_comm x, Int.mul_ediv_mul_of_pos _ _ p1]
  refine ⟨by have := Int.emod_add_mul_ediv (x * 2 ^ u) 4294967296; rw [e] at this; exact this, Int.ediv_nonneg hx.1 (Int.le_of_lt p2), ?_, x % 2 ^ (32 - u), Int.emod_nonneg _ (by omega), ?_⟩
  · rw [Int.ediv_lt_iff_lt_mul p2, ← hB]; exact hx.2
  · rw [hB, Int.mul_comm x, Int.mul_emod_mul_of_pos _ _ p1]

theorem moved_F {a : List Int} {up : Nat} (ha : Limbs a) (la : a.length < 70368744177664) (hu : up < 32) :
    ∃ c, nat_moved.F (a, (up : Int), ()) = some (c, ()) ∧ Limbs c ∧ c.length = a.length + 1 ∧ val c = val a * 2 ^ up := by
  have p1 := two_pos up
  have p32 : (2 : Int) ^ up < 4294967296 := by
    have : (2 : Nat) ^ up < 2 ^ 32 := Nat.pow_lt_pow_right (by decide) hu
    have h := two_nat up
    omega
  obtain ⟨c, ⟨h1, h2, h3⟩, j, hj⟩ := upTo (fun k (s : Nat × List Int) => nat_moved.L3 k a up s.2 a.length (s.1 : Int)) (fun k (c : List Int) => some (c, ()))
    (fun i c => c.length = a.length + 1 ∧ Limbs c ∧ (∀ j, i < j → c.getD j 0 = 0) ∧ c.getD i 0 < 2 ^ up ∧ val c = val (a.take i) * 2 ^ up) (fun c => Limbs c ∧ c.length = a.length + 1 ∧ val c = val a * 2 ^ up) a.length
    (fun i c hi ⟨h1, h2, h3, h4, h5⟩ => by
      have ga := ha.get i
      have gc := h2.get i
      obtain ⟨s1, s2, s3, z, s4, s5⟩ := shift_parts ga hu
      have e1 : shlI .u32 (a.getD i 0) up = (a.getD i 0 * 2 ^ up) % 4294967296 := by rw [shl_eq .u32 _ up (by show up ≤ 32; omega), w32]
      have e2 : bitsOp .or .u32 (c.getD i 0) ((a.getD i 0 * 2 ^ up) % 4294967296) = (a.getD i 0 * 2 ^ up) % 4294967296 + c.getD i 0 :=
        or32_add' up z s5 s4 ⟨gc.1, h4⟩ (by
          have hm : (a.getD i 0 * 2 ^ up) % 4294967296 ≤ 4294967296 - 2 ^ up := by
            rw [s5]
            have hB := two_split (u := up) (by omega)
            have hlt : 2 ^ up * z < 2 ^ up * 2 ^ (32 - up) := by rw [← hB, ← s5]; omega
            have := Int.lt_of_mul_lt_mul_left hlt (Int.le_of_lt p1)
            have h8 : 2 ^ up * z ≤ 2 ^ up * (2 ^ (32 - up) - 1) := Int.mul_le_mul_of_nonneg_left (by omega) (Int.le_of_lt p1)
            rw [Int.mul_sub, ← hB, Int.mul_one] at h8
            exact h8
          omega)
      have e3 : (32 : Int) - (up : Int) = ((32 - up : Nat) : Int) := by omega
      have e4 : shrI .u64 (a.getD i 0) ((32 - up : Nat) : Int) = a.getD i 0 / 2 ^ (32 - up) := shr_eq .u64 _ _ (by show 32 - up ≤ 64; omega)
      have hb : (a.getD i 0 * 2 ^ up) % 4294967296 + c.getD i 0 < 4294967296 := by
        have h0 := s1
        have hm : 0 ≤ (a.getD i 0 * 2 ^ up) % 4294967296 := Int.emod_nonneg _ (by decide)
        have hB := two_split (u := up) (by omega)
        have hlt : 2 ^ up * z < 2 ^ up * 2 ^ (32 - up) := by rw [← hB, ← s5]; omega
        have := Int.lt_of_mul_lt_mul_left hlt (Int.le_of_lt p1)
        have h8 : 2 ^ up * z ≤ 2 ^ up * (2 ^ (32 - up) - 1) := Int.mul_le_mul_of_nonneg_left (by omega) (Int.le_of_lt p1)
        rw [Int.mul_sub, ← hB, Int.mul_one] at h8
        omega
      have hm : 0 ≤ (a.getD i 0 * 2 ^ up) % 4294967296 := Int.emod_nonneg _ (by decide)
      refine ⟨(c.set i ((a.getD i 0 * 2 ^ up) % 4294967296 + c.getD i 0)).set (i + 1) (a.getD i 0 / 2 ^ (32 - up)), ⟨by simpa using h1, (h2.set i ⟨by omega, hb⟩).set (i + 1) (by omega), fun j hj => ?_, ?_, ?_⟩, 1, fun k => ?_⟩
      · rw [getD_set (by simp; omega), if_neg (by omega), getD_set (by omega), if_neg (by omega)]; exact h3 j (by omega)
      · rw [getD_set (by simp; omega), if_pos rfl]; exact s3
      · have hn := carry_step (c := c) (i := i) (v := (a.getD i 0 * 2 ^ up) % 4294967296 + c.getD i 0) (carry := 0) (carry' := a.getD i 0 / 2 ^ (32 - up)) (x := a.getD i 0 * 2 ^ up) (S := val c) (by omega) (by omega) (by omega)
        rw [val_set _ (by simp; omega), getD_set (by omega), if_neg (by omega), h3 (i + 1) (by omega), Int.sub_zero, hn, h5, val_take_next, Int.add_mul, Int.mul_assoc, Int.mul_comm (2 ^ up), Int.mul_assoc]
      · simp (disch := omega) only [c_dec, c_beq, c_bne, c_and, c_or, c_not, blt_dec, up1, dn1, if_t, if_f, if_true, if_false, Int.toNat_natCast, Option.bind_some, ne_eq, not_true_eq_false, not_false_eq_true, true_and, and_true, nat_moved.L3_succ, nat_moved.b3, e1, e2, e3, e4, IntWalk.i64_in, IntWalk.u64_in, IntWalk.u32_in, List.length_set, Int.toNat_natCast]
        rw [show (i : Int) + 1 = ((i + 1 : Nat) : Int) by omega, Int.toNat_natCast])
    (fun c ⟨h1, h2, h3, h4, h5⟩ => by
      rw [List.take_length] at h5
      refine ⟨c, ⟨h2, h1, h5⟩, 1, fun k => ?_⟩
      simp (disch := omega) only [c_dec, c_beq, c_bne, c_and, c_or, c_not, blt_dec, up1, dn1, if_t, if_f, if_true, if_false, Int.toNat_natCast, Option.bind_some, ne_eq, not_true_eq_false, not_false_eq_true, true_and, and_true, nat_moved.L3_succ, nat_moved.b3]) 0 (List.replicate (a.length + 1) 0) (Nat.zero_le _) ⟨by simp, Limbs.zeros _, fun j _ => getD_zeros _ _, by rw [getD_zeros]; exact p1, by simp [val_zeros, val_nil]⟩
  refine ⟨c, nat_moved.of (0 + j) a up ?_, h1, h2, h3⟩
  simp (disch := omega) only [c_dec, c_beq, c_bne, c_and, c_or, c_not, blt_dec, up1, dn1, if_t, if_f, if_true, if_false, Int.toNat_natCast, Option.bind_some, ne_eq, not_true_eq_false, not_false_eq_true, true_and, and_true, nat_moved.e]
  exact hj 0
end Go.Fx.Try

namespace Go.Fx.Try
open Go Go.Fx Go.Fx.Num
set_option linter.unusedVariables false
set_option linter.unusedSimpArgs false

/-- A divisor V of two limbs at least, what is divided (U), and the quotient's digit q. -/
structure Guess (v1 v2 vl u2 ul top P1 P2 V U q : Int) : Prop where
  hV : V = v1 * P1 + v2 * P2 + vl
  hU : U = top * P1 + u2 * P2 + ul
  hP : P1 = 4294967296 * P2
  p2 : 0 < P2
  v1 : 2147483648 ≤ v1 ∧ v1 < 4294967296
  v2 : 0 ≤ v2 ∧ v2 < 4294967296
  vl : 0 ≤ vl ∧ vl < P2
  u2 : 0 ≤ u2 ∧ u2 < 4294967296
  ul : 0 ≤ ul ∧ ul < P2
  lo : q * V ≤ U
  hi : U < (q + 1) * V
  q : 0 ≤ q ∧ q < 4294967296
  top : 0 ≤ top

section
variable {v1 v2 vl u2 ul top P1 P2 V U q : Int}

theorem Guess.vpos (h : Guess v1 v2 vl u2 ul top P1 P2 V U q) : 0 < V := by
  have h1 := h.hV
  have hP := h.hP
  have p2 := h.p2
  have a1 : 1 * P1 ≤ v1 * P1 := Int.mul_le_mul_of_nonneg_right (by have := h.v1; omega) (by omega)
  have a2 : 0 ≤ v2 * P2 := Int.mul_nonneg h.v2.1 (by omega)
  have := h.vl
  omega
theorem Guess.le_of {g : Int} (h : Guess v1 v2 vl u2 ul top P1 P2 V U q) (hg : g * V ≤ U) : g ≤ q := by
  have hv := h.vpos
  by_cases hc : g ≤ q
  · exact hc
  · have : (q + 1) * V ≤ g * V := Int.mul_le_mul_of_nonneg_right (by omega) (by omega)
    have := h.hi
    omega
theorem Guess.expand (h : Guess v1 v2 vl u2 ul top P1 P2 V U q) (g : Int) : g * V = (g * v1) * P1 + (g * v2) * P2 + g * vl := by
  rw [h.hV, Int.mul_add, Int.mul_add, ← Int.mul_assoc, ← Int.mul_assoc]
theorem Guess.top_le (h : Guess v1 v2 vl u2 ul top P1 P2 V U q) : top * P1 ≤ U := by
  have := h.hU
  have := h.ul
  have := Int.mul_nonneg h.u2.1 (Int.le_of_lt h.p2)
  omega
/-- The first guess is not too small. -/
theorem Guess.first (h : Guess v1 v2 vl u2 ul top P1 P2 V U q) : q ≤ top / v1 := by
  have hP := h.hP
  have p2 := h.p2
  have v1p := h.v1
  refine (Int.le_ediv_iff_mul_le (by omega)).2 ?_
  have e := h.expand q
  have a1 : 0 ≤ (q * v2) * P2 := Int.mul_nonneg (Int.mul_nonneg h.q.1 h.v2.1) (by omega)
  have a2 : 0 ≤ q * vl := Int.mul_nonneg h.q.1 h.vl.1
  have lo := h.lo
  have hU := h.hU
  have ul := h.ul
  have b1 : u2 * P2 ≤ 4294967295 * P2 := Int.mul_le_mul_of_nonneg_right (by have := h.u2; omega) (by omega)
  have b2 : (q * v1) * P1 < (top + 1) * P1 := by rw [Int.add_mul]; omega
  have := Int.lt_of_mul_lt_mul_right b2 (by omega)
  omega
theorem Guess.down {g rest : Int} (h : Guess v1 v2 vl u2 ul top P1 P2 V U q) (hg : 0 ≤ g) (ht : g * v1 + rest = top) (hc : rest * 4294967296 + u2 < g * v2) : q < g := by
  by_cases hle : g ≤ q
  · exfalso
    have hv := h.vpos
    have hP := h.hP
    have p2 := h.p2
    have a0 : g * V ≤ q * V := Int.mul_le_mul_of_nonneg_right hle (by omega)
    have e := h.expand g
    have a1 : (rest * 4294967296 + u2 + 1) * P2 ≤ (g * v2) * P2 := Int.mul_le_mul_of_nonneg_right (by omega) (by omega)
    have a2 : 0 ≤ g * vl := Int.mul_nonneg hg h.vl.1
    have lo := h.lo
    have hU := h.hU
    have ul := h.ul
    have e2 : top * P1 = (g * v1) * P1 + rest * P1 := by rw [← ht, Int.add_mul]
    have e3 : rest * P1 = 4294967296 * (rest * P2) := by rw [hP, Int.mul_left_comm]
    have e4 : (rest * 4294967296 + u2 + 1) * P2 = 4294967296 * (rest * P2) + u2 * P2 + P2 := by rw [Int.add_mul, Int.add_mul, Int.mul_assoc, Int.mul_left_comm, Int.one_mul]
    omega
  · omega
theorem Guess.stop {g rest : Int} (h : Guess v1 v2 vl u2 ul top P1 P2 V U q) (hg : 0 ≤ g ∧ g < 4294967296) (ht : g * v1 + rest = top) (hc : g * v2 ≤ rest * 4294967296 + u2) : g ≤ q + 1 := by
  have hv := h.vpos
  have hP := h.hP
  have p2 := h.p2
  have e := h.expand g
  have a1 : (g * v2) * P2 ≤ (rest * 4294967296 + u2) * P2 := Int.mul_le_mul_of_nonneg_right hc (by omega)
  have a2 : g * vl ≤ 4294967295 * vl := Int.mul_le_mul_of_nonneg_right (by omega) h.vl.1
  have a3 : 1 * P1 ≤ v1 * P1 := Int.mul_le_mul_of_nonneg_right (by have := h.v1; omega) (by omega)
  have a4 : 0 ≤ v2 * P2 := Int.mul_nonneg h.v2.1 (by omega)
  have hU := h.hU
  have hV := h.hV
  have ul := h.ul
  have vl := h.vl
  have e2 : top * P1 = (g * v1) * P1 + rest * P1 := by rw [← ht, Int.add_mul]
  have e3 : rest * P1 = 4294967296 * (rest * P2) := by rw [hP, Int.mul_left_comm]
  have e4 : (rest * 4294967296 + u2) * P2 = 4294967296 * (rest * P2) + u2 * P2 := by rw [Int.add_mul, Int.mul_assoc, Int.mul_left_comm]
  have : (g - 1) * V ≤ U := by rw [Int.sub_mul, Int.one_mul]; omega
  have := h.le_of this
  omega
theorem Guess.great {g rest : Int} (h : Guess v1 v2 vl u2 ul top P1 P2 V U q) (hg : 0 ≤ g ∧ g ≤ 4294967296) (ht : g * v1 + rest = top) (hc : 4294967296 ≤ rest) : g ≤ q := by
  have hv := h.vpos
  have hP := h.hP
  have p2 := h.p2
  have e := h.expand g
  refine h.le_of ?_
  have a1 : v2 * P2 ≤ 4294967295 * P2 := Int.mul_le_mul_of_nonneg_right (by have := h.v2; omega) (by omega)
  have hvl := h.vl
  have a2 : g * (v2 * P2 + vl) ≤ g * P1 := Int.mul_le_mul_of_nonneg_left (by omega) hg.1
  have a3 : g * P1 ≤ 4294967296 * P1 := Int.mul_le_mul_of_nonneg_right hg.2 (by omega)
  have a4 : 4294967296 * P1 ≤ rest * P1 := Int.mul_le_mul_of_nonneg_right hc (by omega)
  have e2 : top * P1 = (g * v1) * P1 + rest * P1 := by rw [← ht, Int.add_mul]
  have e3 : g * (v2 * P2 + vl) = (g * v2) * P2 + g * vl := by rw [Int.mul_add, ← Int.mul_assoc]
  have ht := h.top_le
  omega
end
end Go.Fx.Try

namespace Go.Fx.Try
open Go Go.Fx Go.Fx.Num
set_option linter.unusedVariables false
set_option linter.unusedSimpArgs false

theorem getD_mid {pre u post : List Int} {i : Nat} (h : i < u.length) : (pre ++ u ++ post).getD (pre.length + i) 0 = u.getD i 0 := by
  simp only [List.getD, List.append_assoc]
  rw [List.getElem?_append_right (by omega), Nat.add_sub_cancel_left, List.getElem?_append_left h]
theorem set_mid {pre u post : List Int} {i : Nat} {x : Int} (h : i < u.length) : (pre ++ u ++ post).set (pre.length + i) x = pre ++ u.set i x ++ post := by
  rw [List.append_assoc, List.set_append_right _ _ (by omega), Nat.add_sub_cancel_left, List.set_append_left _ _ h, List.append_assoc]

/-- What taking a multiple away keeps: i limbs are done. -/
def TakeInv (u0 v : List Int) (g : Int) (i : Nat) (u : List Int) (b c : Int) : Prop :=
  u.length = u0.length ∧ Limbs u ∧ (0 ≤ b ∧ b ≤ 1) ∧ (0 ≤ c ∧ c < 4294967296) ∧ val u = val u0 - g * val (v.take i) + (c + b) * pw i
theorem TakeInv.next {u0 v : List Int} {g : Int} {i : Nat} {u : List Int} {b c : Int} (h : TakeInv u0 v g i u b c) (hg : 0 ≤ g ∧ g < 4294967296) (hv : Limbs v) (hi : i < u0.length) :
    let t := g * v.getD i 0 + c
    (0 ≤ t ∧ t < 18446744073709551616) ∧ TakeInv u0 v g (i + 1) (u.set i ((u.getD i 0 - t % 4294967296 - b) % 4294967296)) (if u.getD i 0 < t % 4294967296 + b then 1 else 0) (t / 4294967296) := by
  obtain ⟨h1, h2, h3, h4, h5⟩ := h
  have gv := hv.get i
  have gu := h2.get i
  have gm := mul_bound hg gv
  intro t
  have ht : t = g * v.getD i 0 + c := rfl
  refine ⟨by omega, by simpa using h1, h2.set i (by omega), by split <;> omega, by omega, ?_⟩
  have hb : ∃ b', b' = (if u.getD i 0 < t % 4294967296 + b then (1 : Int) else 0) ∧ (u.getD i 0 - t % 4294967296 - b) % 4294967296 = u.getD i 0 - t % 4294967296 - b + 4294967296 * b' := ⟨_, rfl, by split <;> omega⟩
  obtain ⟨b', hb', e⟩ := hb
  rw [← hb', val_set _ (by omega), e, h5, val_take_next, pw_succ]
  have e2 : u.getD i 0 - t % 4294967296 - b + 4294967296 * b' - u.getD i 0 = -(g * v.getD i 0) - (c + b) + (t / 4294967296 + b') * 4294967296 := by omega
  rw [e2, Int.mul_add g, Int.add_mul (-(g * v.getD i 0) - (c + b)), Int.sub_mul (-(g * v.getD i 0)), Int.neg_mul, Int.mul_assoc g, Int.mul_assoc (t / 4294967296 + b')]
  omega

/-- So many limbs of a number. -/
def pad : Nat → Int → List Int
  | 0, _ => []
  | n + 1, x => (x % 4294967296) :: pad n (x / 4294967296)
theorem pad_of {a : List Int} (h : Limbs a) : pad a.length (val a) = a := by
  induction a with
  | nil => rfl
  | cons x r ih =>
    have hx := h.head
    have e1 : (x + 4294967296 * val r) % 4294967296 = x := by omega
    have e2 : (x + 4294967296 * val r) / 4294967296 = val r := by omega
    rw [List.length_cons, val_cons, pad, e1, e2, ih h.tail]
theorem pad_spec : ∀ (n : Nat) (x : Int), 0 ≤ x → x < pw n → Limbs (pad n x) ∧ (pad n x).length = n ∧ val (pad n x) = x
  | 0, x, h, h' => ⟨Limbs.nil, rfl, by rw [pw_zero] at h'; rw [show pad 0 x = [] from rfl, val_nil]; omega⟩
  | n + 1, x, h, h' => by
    rw [pw_succ] at h'
    obtain ⟨h1, h2, h3⟩ := pad_spec n (x / 4294967296) (by omega) (by omega)
    rw [pad]
    exact ⟨Limbs.cons (by omega) h1, by rw [List.length_cons, h2], by rw [val_cons, h3]; omega⟩

theorem digit_F {pre u post v : List Int} {m : Nat} (hu : Limbs u) (hv : Limbs v) (lv : v.length = m + 2) (lu : u.length = m + 3) (hm : m < 70368744177664) (hn : 2147483648 ≤ v.getD (m + 1) 0) (hlt : val u < 4294967296 * val v) :
    nat_digit.F (pre ++ u ++ post) pre.length (m + 3) (v, ()) = some ((val u / val v, ()), pre ++ pad (m + 3) (val u % val v) ++ post) := by
  have g0 := hu.get m
  have g1 := hu.get (m + 1)
  have g2 := hu.get (m + 2)
  have k0 := hv.get m
  have k1 := hv.get (m + 1)
  have eV : val v = v.getD (m + 1) 0 * pw (m + 1) + v.getD m 0 * pw m + val (v.take m) := by
    have e1 := val_take_succ (a := v) (i := m + 1) (by omega)
    have e2 := val_take_succ (a := v) (i := m) (by omega)
    rw [show m + 1 + 1 = v.length by omega, List.take_length] at e1
    omega
  have eU : val u = (u.getD (m + 1) 0 + 4294967296 * u.getD (m + 2) 0) * pw (m + 1) + u.getD m 0 * pw m + val (u.take m) := by
    have e1 := val_take_succ (a := u) (i := m + 2) (by omega)
    have e2 := val_take_succ (a := u) (i := m + 1) (by omega)
    have e3 := val_take_succ (a := u) (i := m) (by omega)
    rw [show m + 2 + 1 = u.length by omega, List.take_length, pw_succ (m + 1)] at e1
    have e4 : u.getD (m + 2) 0 * (4294967296 * pw (m + 1)) = 4294967296 * (u.getD (m + 2) 0 * pw (m + 1)) := Int.mul_left_comm _ _ _
    rw [show m + 1 + 1 = m + 2 from rfl] at e2
    rw [Int.add_mul, Int.mul_assoc]
    omega
  have lvt : (v.take m).length = m := by simp; omega
  have lut : (u.take m).length = m := by simp; omega
  have hvt := val_lt (hv.take m)
  have hut := val_lt (hu.take m)
  rw [lvt] at hvt
  rw [lut] at hut
  have hV0 : 0 < val v := by
    have p1 := pw_pos (m + 1)
    have : 1 * pw (m + 1) ≤ v.getD (m + 1) 0 * pw (m + 1) := Int.mul_le_mul_of_nonneg_right (by omega) (by omega)
    have : 0 ≤ v.getD m 0 * pw m := Int.mul_nonneg k0.1 (Int.le_of_lt (pw_pos m))
    have := val_nonneg (hv.take m)
    omega
  have hU0 := val_nonneg hu
  have hq0 := Int.ediv_nonneg hU0 (Int.le_of_lt hV0)
  have hq1 : val u / val v < 4294967296 := by rw [Int.ediv_lt_iff_lt_mul hV0]; exact hlt
  have hdm := Int.mul_ediv_add_emod (val u) (val v)
  have hr0 := Int.emod_nonneg (val u) (b := val v) (by omega)
  have hr1 := Int.emod_lt_of_pos (val u) hV0
  have G : Guess (v.getD (m + 1) 0) (v.getD m 0) (val (v.take m)) (u.getD m 0) (val (u.take m)) (u.getD (m + 1) 0 + 4294967296 * u.getD (m + 2) 0) (pw (m + 1)) (pw m) (val v) (val u) (val u / val v) :=
    ⟨eV, eU, pw_succ m, pw_pos m, ⟨hn, k1.2⟩, k0, ⟨val_nonneg (hv.take m), hvt⟩, g0, ⟨val_nonneg (hu.take m), hut⟩, by rw [Int.mul_comm]; omega, by rw [Int.add_mul, Int.one_mul, Int.mul_comm]; omega, ⟨hq0, hq1⟩, by omega⟩
  generalize hQ : val u / val v = q at G hq0 hq1 hdm ⊢
  generalize hR : val u % val v = r at hr0 hr1 hdm ⊢
  have hmx : (m + 2 : Nat) < 4611686018427387904 := by omega
  have hUv : val u = q * val v + r := by rw [Int.mul_comm]; omega
  have hvl := val_lt hv
  rw [lv] at hvl
  refine nat_digit.of (pre ++ u ++ post) pre.length (m + 3) v (q, ()) _ fun g => ?_
  -- behind the guess: if one more is taken away, it is given back
  have back : ∀ w : List Int, w.length = m + 3 → Limbs w → val w = val u - (q + 1) * val v + pw (m + 3) → ∃ j, ∀ k, nat_digit.L21 (k + j) (pre ++ w ++ post) pre.length (m + 3) g v ((m + 2 : Nat) : Int) q 0 ((m + 2 : Nat) : Int) 0 = some ((q, ()), pre ++ pad (m + 3) r ++ post, g) := by
    intro w lw hw ew
    refine up (fun k (s : Nat × List Int × Int) => nat_digit.L21 k (pre ++ s.2.1 ++ post) pre.length (m + 3) g v ((m + 2 : Nat) : Int) q s.2.2 ((m + 2 : Nat) : Int) (s.1 : Int)) _ (fun i s => s.1.length = m + 3 ∧ Limbs s.1 ∧ (0 ≤ s.2 ∧ s.2 ≤ 1) ∧ val s.1 + s.2 * pw i = val w + val (v.take i)) (m + 2)
      (fun i s hi ⟨h1, h2, h3, h4⟩ => ?_) (fun s ⟨h1, h2, h3, h4⟩ => ?_) 0 (w, 0) (Nat.zero_le _) ⟨lw, hw, by simp only; omega, by simp [val_nil]⟩
    · obtain ⟨x, c⟩ := s
      simp only at h1 h2 h3 h4
      have gx := h2.get i
      have gv := hv.get i
      refine ⟨(x.set i ((x.getD i 0 + v.getD i 0 + c) % 4294967296), (x.getD i 0 + v.getD i 0 + c) / 4294967296), ⟨by simpa using h1, h2.set i (by omega), by simp only; omega, ?_⟩, 1, fun k => ?_⟩
      · rw [carry_step (x := v.getD i 0) (by omega) (by omega) h4, val_take_next]; omega
      · simp (disch := omega) only [c_dec, c_beq, c_bne, c_and, c_or, c_not, blt_dec, up1, dn1, if_t, if_f, if_true, if_false, Int.toNat_natCast, Option.bind_some, ne_eq, not_true_eq_false, not_false_eq_true, true_and, and_true, nat_digit.L21_succ, nat_digit.b21, getD_mid (show i < x.length by omega), set_mid (show i < x.length by omega), Add32_F gx gv h3]
    · obtain ⟨x, c⟩ := s
      simp only at h1 h2 h3 h4
      have gx := h2.get (m + 2)
      have e1 := val_take_succ (a := x) (i := m + 2) (by omega)
      rw [show m + 2 + 1 = x.length by omega, List.take_length] at e1
      have hxt := val_lt (h2.take (m + 2))
      have hx0 := val_nonneg (h2.take (m + 2))
      rw [show (x.take (m + 2)).length = m + 2 by simp; omega] at hxt
      have p2 := pw_pos (m + 2)
      rw [show v.take (m + 2) = v by rw [← lv, List.take_length], ew, pw_succ (m + 2), hUv, Int.add_mul, Int.one_mul] at h4
      -- low limbs are r, and the highest with the carry is a whole word
      have h5 : val (x.take (m + 2)) + (x.getD (m + 2) 0 + c) * pw (m + 2) = r + 4294967296 * pw (m + 2) := by rw [Int.add_mul]; omega
      have h6 : x.getD (m + 2) 0 + c = 4294967296 := by
        rcases Int.lt_trichotomy (x.getD (m + 2) 0 + c) 4294967296 with hlt | he | hgt
        · exfalso
          have : (x.getD (m + 2) 0 + c) * pw (m + 2) ≤ 4294967295 * pw (m + 2) := Int.mul_le_mul_of_nonneg_right (by omega) (by omega)
          omega
        · exact he
        · omega
      rw [h6] at h5
      have h7 : val (x.set (m + 2) 0) = r := by rw [val_set _ (by omega), Int.sub_mul, Int.zero_mul]; omega
      have h8 := pad_of (h2.set (m + 2) (v := 0) (by decide))
      rw [h7, List.length_set, h1] at h8
      have e7 : IntKind.u32.wrap (x.getD (m + 2) 0 + c) = 0 := by rw [w32, h6]; rfl
      refine ⟨1, fun k => ?_⟩
      simp (disch := omega) only [c_dec, c_beq, c_bne, c_and, c_or, c_not, blt_dec, up1, dn1, if_t, if_f, if_true, if_false, Int.toNat_natCast, Option.bind_some, ne_eq, not_true_eq_false, not_false_eq_true, true_and, and_true, nat_digit.L21_succ, nat_digit.b21, getD_mid (show m + 2 < x.length by omega), set_mid (show m + 2 < x.length by omega), e7, h8, IntWalk.u32_in, cond_true]
  -- a multiple is taken away
  have take : ∀ t : Int, (t = q ∨ t = q + 1) → 0 ≤ t ∧ t < 4294967296 → ∃ j, ∀ k, nat_digit.L10 (k + j) (pre ++ u ++ post) pre.length (m + 3) g v ((m + 2 : Nat) : Int) t 0 0 ((m + 2 : Nat) : Int) 0 = some ((q, ()), pre ++ pad (m + 3) r ++ post, g) := by
    intro t ht htb
    refine up (fun k (s : Nat × List Int × Int × Int) => nat_digit.L10 k (pre ++ s.2.1 ++ post) pre.length (m + 3) g v ((m + 2 : Nat) : Int) t s.2.2.1 s.2.2.2 ((m + 2 : Nat) : Int) (s.1 : Int)) _ (fun i s => TakeInv u v t i s.1 s.2.1 s.2.2) (m + 2)
      (fun i s hi hs => ?_) (fun s hs => ?_) 0 (u, 0, 0) (Nat.zero_le _) ⟨rfl, hu, by simp only; omega, by simp only; omega, by simp [val_nil]⟩
    · obtain ⟨x, b, c⟩ := s
      obtain ⟨hT, hn⟩ := TakeInv.next hs htb hv (by omega)
      obtain ⟨h1, h2, h3, h4, h5⟩ := hs
      simp only at h1 h2 h3 h4 hT
      have gx := h2.get i
      have gm := mul_bound htb (hv.get i)
      have gv := hv.get i
      refine ⟨(x.set i ((x.getD i 0 - (t * v.getD i 0 + c) % 4294967296 - b) % 4294967296), (if x.getD i 0 < (t * v.getD i 0 + c) % 4294967296 + b then 1 else 0), (t * v.getD i 0 + c) / 4294967296), hn, 1, fun k => ?_⟩
      have hS := Sub32_F gx (show 0 ≤ (t * v.getD i 0 + c) % 4294967296 ∧ (t * v.getD i 0 + c) % 4294967296 < 4294967296 by omega) h3
      simp (disch := omega) only [c_dec, c_beq, c_bne, c_and, c_or, c_not, blt_dec, up1, dn1, if_t, if_f, if_true, if_false, Int.toNat_natCast, Option.bind_some, ne_eq, not_true_eq_false, not_false_eq_true, true_and, and_true, nat_digit.L10_succ, nat_digit.b10, getD_mid (show i < x.length by omega), set_mid (show i < x.length by omega), IntWalk.u64_in, w32, shr64_32, hS]
    · obtain ⟨x, b, c⟩ := s
      obtain ⟨h1, h2, h3, h4, h5⟩ := hs
      simp only at h1 h2 h3 h4 h5
      rw [show v.take (m + 2) = v by rw [← lv, List.take_length]] at h5
      have gx := h2.get (m + 2)
      have hS := Sub32_F gx h4 h3
      have hl := h2.set (m + 2) (v := (x.getD (m + 2) 0 - c - b) % 4294967296) (by omega)
      have hv2 : val (x.set (m + 2) ((x.getD (m + 2) 0 - c - b) % 4294967296)) = val u - t * val v + (if x.getD (m + 2) 0 < c + b then 1 else 0) * pw (m + 3) := by
        have hb : ∃ b', b' = (if x.getD (m + 2) 0 < c + b then (1 : Int) else 0) ∧ (x.getD (m + 2) 0 - c - b) % 4294967296 = x.getD (m + 2) 0 - c - b + 4294967296 * b' := ⟨_, rfl, by split <;> omega⟩
        obtain ⟨b', hb', e⟩ := hb
        rw [← hb', val_set _ (by omega), e, h5, pw_succ (m + 2)]
        have e2 : x.getD (m + 2) 0 - c - b + 4294967296 * b' - x.getD (m + 2) 0 = -(c + b) + b' * 4294967296 := by omega
        rw [e2, Int.add_mul (-(c + b)), Int.neg_mul, Int.mul_assoc b']
        omega
      have hvn := val_nonneg hl
      have hvx := val_lt hl
      rw [List.length_set, h1, lu] at hvx
      have hp3 : pw (m + 3) = 4294967296 * pw (m + 2) := pw_succ (m + 2)
      have p2 := pw_pos (m + 2)
      by_cases hb : x.getD (m + 2) 0 < c + b
      · rw [if_pos hb, Int.one_mul] at hv2
        have htq : t = q + 1 := by
          rcases ht with h | h
          · exfalso
            rw [h] at hv2
            omega
          · exact h
        subst htq
        obtain ⟨j, hj⟩ := back _ (by rw [List.length_set, h1, lu]) hl hv2
        refine ⟨j + 1, fun k => ?_⟩
        rw [← Nat.add_assoc]
        simp (disch := omega) only [c_dec, c_beq, c_bne, c_and, c_or, c_not, blt_dec, up1, dn1, if_t, if_f, if_true, if_false, Int.toNat_natCast, Option.bind_some, ne_eq, not_true_eq_false, not_false_eq_true, true_and, and_true, nat_digit.L10_succ, nat_digit.b10, getD_mid (show m + 2 < x.length by omega), set_mid (show m + 2 < x.length by omega), IntWalk.u32_in, hS, c_t]
        rw [show IntKind.u64.wrap (q + 1 - 1) = q by rw [IntWalk.u64_in _ (by omega)]; omega]
        exact hj k
      · rw [if_neg hb, Int.zero_mul, Int.add_zero] at hv2
        have htq : t = q := by
          rcases ht with h | h
          · exact h
          · exfalso
            rw [h, Int.add_mul, Int.one_mul] at hv2
            omega
        subst htq
        have h8 := pad_of hl
        rw [hv2, List.length_set, h1, lu, show val u - t * val v = r by omega] at h8
        refine ⟨1, fun k => ?_⟩
        simp (disch := omega) only [c_dec, c_beq, c_bne, c_and, c_or, c_not, blt_dec, up1, dn1, if_t, if_f, if_true, if_false, Int.toNat_natCast, Option.bind_some, ne_eq, not_true_eq_false, not_false_eq_true, true_and, and_true, nat_digit.L10_succ, nat_digit.b10, getD_mid (show m + 2 < x.length by omega), set_mid (show m + 2 < x.length by omega), IntWalk.u32_in, hS, h8, cond_true]
  -- the guess
  have guess : ∀ s : Int × Int, (q ≤ s.1 ∧ s.1 ≤ 4294967297) ∧ (0 ≤ s.2 ∧ s.2 < 4294967296) ∧ s.1 * v.getD (m + 1) 0 + s.2 = u.getD (m + 1) 0 + 4294967296 * u.getD (m + 2) 0 → ∃ j, ∀ k, nat_digit.L4 (k + j) (pre ++ u ++ post) pre.length (m + 3) g v ((m + 2 : Nat) : Int) s.1 s.2 = some ((q, ()), pre ++ pad (m + 3) r ++ post, g) := by
    refine ends (fun k (s : Int × Int) => nat_digit.L4 k (pre ++ u ++ post) pre.length (m + 3) g v ((m + 2 : Nat) : Int) s.1 s.2) _ _ (fun s => s.1.toNat) (fun s ⟨h1, h2, h3⟩ => ?_)
    obtain ⟨x, y⟩ := s
    simp only at h1 h2 h3
    have e1 : ((m + 2 : Nat) : Int) - 1 = ((m + 1 : Nat) : Int) := by omega
    have e2 : ((m + 2 : Nat) : Int) - 2 = (m : Int) := by omega
    have hor := or64_lo g0 h2
    rw [← shl64_32] at hor
    -- one less
    have less : q < x → (∀ k, nat_digit.L4 (k + 1) (pre ++ u ++ post) pre.length (m + 3) g v ((m + 2 : Nat) : Int) x y = (if y + v.getD (m + 1) 0 < 4294967296 then nat_digit.L4 k (pre ++ u ++ post) pre.length (m + 3) g v ((m + 2 : Nat) : Int) (x - 1) (y + v.getD (m + 1) 0) else nat_digit.L10 k (pre ++ u ++ post) pre.length (m + 3) g v ((m + 2 : Nat) : Int) (x - 1) 0 0 ((m + 2 : Nat) : Int) 0)) →
        (∃ s' : Int × Int, ((q ≤ s'.1 ∧ s'.1 ≤ 4294967297) ∧ (0 ≤ s'.2 ∧ s'.2 < 4294967296) ∧ s'.1 * v.getD (m + 1) 0 + s'.2 = u.getD (m + 1) 0 + 4294967296 * u.getD (m + 2) 0) ∧ s'.1.toNat < x.toNat ∧ ∃ j, ∀ k, nat_digit.L4 (k + j) (pre ++ u ++ post) pre.length (m + 3) g v ((m + 2 : Nat) : Int) x y = nat_digit.L4 k (pre ++ u ++ post) pre.length (m + 3) g v ((m + 2 : Nat) : Int) s'.1 s'.2) ∨
        ∃ j, ∀ k, nat_digit.L4 (k + j) (pre ++ u ++ post) pre.length (m + 3) g v ((m + 2 : Nat) : Int) x y = some ((q, ()), pre ++ pad (m + 3) r ++ post, g) := by
      intro hq hL
      have h4 : (x - 1) * v.getD (m + 1) 0 + (y + v.getD (m + 1) 0) = u.getD (m + 1) 0 + 4294967296 * u.getD (m + 2) 0 := by rw [Int.sub_mul, Int.one_mul]; omega
      by_cases hy : y + v.getD (m + 1) 0 < 4294967296
      · exact .inl ⟨(x - 1, y + v.getD (m + 1) 0), ⟨by simp only; omega, by simp only; omega, h4⟩, by simp only; omega, 1, fun k => by rw [hL k, if_pos hy]⟩
      · have := G.great (g := x - 1) (rest := y + v.getD (m + 1) 0) (by omega) h4 (by omega)
        obtain ⟨j, hj⟩ := take (x - 1) (by omega) (by omega)
        exact .inr ⟨j + 1, fun k => by rw [← Nat.add_assoc, hL, if_neg hy]; exact hj k⟩
    by_cases hx : 4294967296 ≤ x
    · refine less (by omega) fun k => ?_
      by_cases hy : y + v.getD (m + 1) 0 < 4294967296
      · simp (disch := omega) only [c_dec, c_beq, c_bne, c_and, c_or, c_not, blt_dec, up1, dn1, if_t, if_f, if_true, if_false, Int.toNat_natCast, Option.bind_some, ne_eq, not_true_eq_false, not_false_eq_true, true_and, and_true, nat_digit.L4_succ, nat_digit.b4, shr64_32, IntWalk.u64_in, IntWalk.i64_in, e1]
      · simp (disch := omega) only [c_dec, c_beq, c_bne, c_and, c_or, c_not, blt_dec, up1, dn1, if_t, if_f, if_true, if_false, Int.toNat_natCast, Option.bind_some, ne_eq, not_true_eq_false, not_false_eq_true, true_and, and_true, nat_digit.L4_succ, nat_digit.b4, shr64_32, IntWalk.u64_in, IntWalk.i64_in, e1]
    · have gm := mul_bound (show 0 ≤ x ∧ x < 4294967296 by omega) k0
      by_cases hc : y * 4294967296 + u.getD m 0 < x * v.getD m 0
      · have hqx := G.down (g := x) (rest := y) (by omega) h3 hc
        refine less hqx fun k => ?_
        by_cases hy : y + v.getD (m + 1) 0 < 4294967296
        · simp (disch := omega) only [c_dec, c_beq, c_bne, c_and, c_or, c_not, blt_dec, up1, dn1, if_t, if_f, if_true, if_false, Int.toNat_natCast, Option.bind_some, ne_eq, not_true_eq_false, not_false_eq_true, true_and, and_true, nat_digit.L4_succ, nat_digit.b4, shr64_32, IntWalk.u64_in, IntWalk.i64_in, e1, e2, getD_mid (show m < u.length by omega), hor]
        · simp (disch := omega) only [c_dec, c_beq, c_bne, c_and, c_or, c_not, blt_dec, up1, dn1, if_t, if_f, if_true, if_false, Int.toNat_natCast, Option.bind_some, ne_eq, not_true_eq_false, not_false_eq_true, true_and, and_true, nat_digit.L4_succ, nat_digit.b4, shr64_32, IntWalk.u64_in, IntWalk.i64_in, e1, e2, getD_mid (show m < u.length by omega), hor]
      · have := G.stop (g := x) (rest := y) (by omega) h3 (by omega)
        obtain ⟨j, hj⟩ := take x (by omega) (by omega)
        refine .inr ⟨j + 1, fun k => ?_⟩
        rw [← Nat.add_assoc]
        simp (disch := omega) only [c_dec, c_beq, c_bne, c_and, c_or, c_not, blt_dec, up1, dn1, if_t, if_f, if_true, if_false, Int.toNat_natCast, Option.bind_some, ne_eq, not_true_eq_false, not_false_eq_true, true_and, and_true, nat_digit.L4_succ, nat_digit.b4, shr64_32, IntWalk.u64_in, IntWalk.i64_in, e1, e2, getD_mid (show m < u.length by omega), hor]
        exact hj k
  have hf := G.first
  have hun : u.getD (m + 2) 0 ≤ v.getD (m + 1) 0 := by
    by_cases hc : u.getD (m + 2) 0 ≤ v.getD (m + 1) 0
    · exact hc
    · exfalso
      have a1 : (v.getD (m + 1) 0 + 1) * pw (m + 2) ≤ u.getD (m + 2) 0 * pw (m + 2) := Int.mul_le_mul_of_nonneg_right (by omega) (Int.le_of_lt (pw_pos _))
      have e1 := val_take_succ (a := u) (i := m + 2) (by omega)
      rw [show m + 2 + 1 = u.length by omega, List.take_length] at e1
      have := val_nonneg (hu.take (m + 2))
      have e2 := val_take_succ (a := v) (i := m + 1) (by omega)
      rw [show m + 1 + 1 = v.length by omega, List.take_length] at e2
      have hvt2 := val_lt (hv.take (m + 1))
      rw [show (v.take (m + 1)).length = m + 1 by simp; omega] at hvt2
      rw [Int.add_mul, Int.one_mul, pw_succ (m + 1)] at a1
      have e3 : v.getD (m + 1) 0 * (4294967296 * pw (m + 1)) = 4294967296 * (v.getD (m + 1) 0 * pw (m + 1)) := Int.mul_left_comm _ _ _
      rw [pw_succ (m + 1)] at e1
      omega
  have htop : (u.getD (m + 1) 0 + 4294967296 * u.getD (m + 2) 0) / v.getD (m + 1) 0 ≤ 4294967297 := by
    have h1 : (u.getD (m + 1) 0 + 4294967296 * u.getD (m + 2) 0) / v.getD (m + 1) 0 < 4294967298 := by
      rw [Int.ediv_lt_iff_lt_mul (by omega)]; omega
    omega
  have hmod := Int.mul_ediv_add_emod (u.getD (m + 1) 0 + 4294967296 * u.getD (m + 2) 0) (v.getD (m + 1) 0)
  have hm0 := Int.emod_nonneg (u.getD (m + 1) 0 + 4294967296 * u.getD (m + 2) 0) (b := v.getD (m + 1) 0) (by omega)
  have hm1 := Int.emod_lt_of_pos (u.getD (m + 1) 0 + 4294967296 * u.getD (m + 2) 0) (b := v.getD (m + 1) 0) (by omega)
  obtain ⟨j, hj⟩ := guess ((u.getD (m + 1) 0 + 4294967296 * u.getD (m + 2) 0) / v.getD (m + 1) 0, (u.getD (m + 1) 0 + 4294967296 * u.getD (m + 2) 0) % v.getD (m + 1) 0) ⟨⟨hf, htop⟩, ⟨hm0, by simp only; omega⟩, by simp only; rw [Int.mul_comm]; exact hmod⟩
  refine ⟨0 + j, ?_⟩
  have hor := or64_lo g1 g2
  rw [← shl64_32] at hor
  have e1 : ((m + 2 : Nat) : Int) - 1 = ((m + 1 : Nat) : Int) := by omega
  simp (disch := omega) only [c_dec, c_beq, c_bne, c_and, c_or, c_not, blt_dec, up1, dn1, if_t, if_f, if_true, if_false, Int.toNat_natCast, Option.bind_some, ne_eq, not_true_eq_false, not_false_eq_true, true_and, and_true, nat_digit.e, lv, e1, IntWalk.i64_in, getD_mid (show m + 2 < u.length by omega), getD_mid (show m + 1 < u.length by omega), IntWalk.u64_in, hor, IntWalk.u64_quo, IntWalk.rem_in]
  exact hj 0
end Go.Fx.Try

namespace Go.Fx.Try
open Go Go.Fx Go.Fx.Num
set_option linter.unusedVariables false
set_option linter.unusedSimpArgs false

/-! ### limbs moved down -/
/-- What moving down keeps: i limbs are done. -/
def DownInv (u : List Int) (s n i : Nat) (r : List Int) : Prop :=
  r.length = n ∧ Limbs r ∧ (∀ j, i ≤ j → r.getD j 0 = 0) ∧ val r * 2 ^ s = val (u.take i) - u.getD 0 0 % 2 ^ s + (u.getD i 0 % 2 ^ s) * pw i
theorem DownInv.start {u : List Int} {s n : Nat} : DownInv u s n 0 (List.replicate n 0) :=
  ⟨by simp, Limbs.zeros _, fun j _ => getD_zeros _ _, by rw [val_zeros, List.take_zero, val_nil, pw_zero]; omega⟩
theorem down_limb {x y : Int} {s : Nat} (hx : 0 ≤ x ∧ x < 4294967296) (hy : 0 ≤ y ∧ y < 4294967296) (hs : s < 32) :
    (y * 2 ^ (32 - s)) % 4294967296 = 2 ^ (32 - s) * (y % 2 ^ s) ∧ 0 ≤ y % 2 ^ s ∧ 0 ≤ x / 2 ^ s ∧ x / 2 ^ s < 2 ^ (32 - s) ∧ 2 ^ (32 - s) * (y % 2 ^ s) + x / 2 ^ s < 4294967296 ∧ (2 ^ (32 - s) * (y % 2 ^ s) + x / 2 ^ s) * 2 ^ s = x - x % 2 ^ s + 4294967296 * (y % 2 ^ s) := by
  have hB := two_split (u := s) (by omega)
  have p1 := two_pos s
  have p2 := two_pos (32 - s)
  have hm0 := Int.emod_nonneg y (b := 2 ^ s) (by omega)
  have hm1 := Int.emod_lt_of_pos y p1
  have hd0 := Int.ediv_nonneg hx.1 (Int.le_of_lt p1)
  have hd1 : x / 2 ^ s < 2 ^ (32 - s) := by rw [Int.ediv_lt_iff_lt_mul p1, Int.mul_comm, ← hB]; exact hx.2
  have h8 : 2 ^ (32 - s) * (y % 2 ^ s) ≤ 2 ^ (32 - s) * (2 ^ s - 1) := Int.mul_le_mul_of_nonneg_left (by omega) (Int.le_of_lt p2)
  rw [Int.mul_sub, Int.mul_comm (2 ^ (32 - s)) (2 ^ s), ← hB, Int.mul_one] at h8
  have hxx := Int.mul_ediv_add_emod x (2 ^ s)
  refine ⟨?_, hm0, hd0, hd1, by omega, ?_⟩
  · rw [hB, Int.mul_comm y, Int.mul_comm (2 ^ s) (2 ^ (32 - s)), Int.mul_emod_mul_of_pos _ _ p2]
  · rw [Int.add_mul, Int.mul_right_comm, Int.mul_comm (2 ^ (32 - s)) (2 ^ s), ← hB, Int.mul_comm (x / 2 ^ s)]; omega
theorem DownInv.next {u : List Int} {s n i : Nat} {r : List Int} (hu : Limbs u) (hs : s < 32) (hi : i < n) (h : DownInv u s n i r) :
    DownInv u s n (i + 1) (r.set i (2 ^ (32 - s) * (u.getD (i + 1) 0 % 2 ^ s) + u.getD i 0 / 2 ^ s)) := by
  obtain ⟨h1, h2, h3, h4⟩ := h
  obtain ⟨_, d1, d2, d3, d4, d5⟩ := down_limb (hu.get i) (hu.get (i + 1)) hs
  have p2 := two_pos (32 - s)
  have := Int.mul_nonneg (Int.le_of_lt p2) d1
  refine ⟨by simpa using h1, h2.set i (by omega), fun j hj => ?_, ?_⟩
  · rw [getD_set (by omega), if_neg (by omega)]; exact h3 j (by omega)
  · rw [val_set _ (by omega), h3 i (Nat.le_refl _), Int.sub_zero, Int.add_mul, h4, Int.mul_right_comm, d5, val_take_next, pw_succ]
    rw [Int.add_mul (u.getD i 0 - u.getD i 0 % 2 ^ s), Int.sub_mul (u.getD i 0), Int.mul_assoc 4294967296]
    have e : u.getD (i + 1) 0 % 2 ^ s * (4294967296 * pw i) = 4294967296 * (u.getD (i + 1) 0 % 2 ^ s * pw i) := Int.mul_left_comm _ _ _
    omega
theorem low_mod {u : List Int} {s : Nat} (hs : s < 32) : val u % 2 ^ s = u.getD 0 0 % 2 ^ s := by
  cases u with
  | nil => simp [val_nil]
  | cons x r =>
    have hB := two_split (u := s) (by omega)
    rw [val_cons, hB, Int.mul_assoc, Int.add_mul_emod_self_left]
    rfl
/-- Behind all limbs: divided by the power, rounded down. -/
theorem DownInv.last {u : List Int} {s n : Nat} {r : List Int} (hu : Limbs u) (hs : s < 32) (h : DownInv u s n n r) (hlt : val u < pw n) (hz : u.getD n 0 = 0) : val r = val u / 2 ^ s := by
  obtain ⟨h1, h2, h3, h4⟩ := h
  have p1 := two_pos s
  rw [hz, Int.zero_emod, Int.zero_mul, Int.add_zero, val_take_of_lt hu hlt, ← low_mod hs] at h4
  have := Int.mul_ediv_add_emod (val u) (2 ^ s)
  have h5 : val r * 2 ^ s = (val u / 2 ^ s) * 2 ^ s := by rw [h4, Int.mul_comm (val u / 2 ^ s)]; omega
  exact Int.eq_of_mul_eq_mul_right (by omega) h5

/-! ### the highest limb -/
theorem Lead_F {x : Nat} (hx : x < 4294967296) : bits_LeadingZeros32.F ((x : Int), ()) = some ((32 : Int) - blen x, ()) := by
  have hb : blen x ≤ 32 := by
    by_cases h0 : x = 0
    · subst h0; decide
    · obtain ⟨t, h1, h2, h3⟩ := blen_spec h0
      by_cases ht : t < 32
      · omega
      · have := Nat.pow_le_pow_right (n := 2) (by decide) (show 32 ≤ t by omega)
        omega
  refine bits_LeadingZeros32.of 0 x ?_
  simp (disch := omega) only [c_dec, c_beq, c_bne, c_and, c_or, c_not, blt_dec, up1, dn1, if_t, if_f, if_true, if_false, Int.toNat_natCast, Option.bind_some, ne_eq, not_true_eq_false, not_false_eq_true, true_and, and_true, bits_LeadingZeros32.e, Len32_F hx, IntWalk.i64_in]
theorem lead_spec {x : Int} (hx : 0 < x ∧ x < 4294967296) : ∃ s : Nat, s < 32 ∧ bits_LeadingZeros32.F (x, ()) = some ((s : Int), ()) ∧ 2147483648 ≤ x * 2 ^ s ∧ (x + 1) * 2 ^ s ≤ 4294967296 := by
  obtain ⟨n, rfl⟩ := Int.eq_ofNat_of_zero_le (Int.le_of_lt hx.1)
  obtain ⟨t, h1, h2, h3⟩ := blen_spec (n := n) (by omega)
  have ht : t < 32 := by
    by_cases ht : t < 32
    · exact ht
    · have := Nat.pow_le_pow_right (n := 2) (by decide) (show 32 ≤ t by omega)
      omega
  refine ⟨31 - t, by omega, ?_, ?_, ?_⟩
  · rw [Lead_F (by omega), h1]; congr 2; omega
  · have h4 : 2 ^ t * 2 ^ (31 - t) ≤ n * 2 ^ (31 - t) := Nat.mul_le_mul_right _ h2
    rw [← Nat.pow_add, show t + (31 - t) = 31 by omega] at h4
    have h5 : ((n * 2 ^ (31 - t) : Nat) : Int) = (n : Int) * 2 ^ (31 - t) := by push_cast; rfl
    rw [← h5]; omega
  · have h4 : (n + 1) * 2 ^ (31 - t) ≤ 2 ^ (t + 1) * 2 ^ (31 - t) := Nat.mul_le_mul_right _ h3
    rw [← Nat.pow_add, show t + 1 + (31 - t) = 32 by omega] at h4
    have h5 : (((n + 1) * 2 ^ (31 - t) : Nat) : Int) = ((n : Int) + 1) * 2 ^ (31 - t) := by push_cast; rfl
    rw [← h5]; omega

theorem long_F {a b : List Int} (ha : Limbs a) (hb : Nrm b) (la : a.length < 70368744177664) (lb : 2 ≤ b.length) (hl : b.length ≤ a.length) : nat_long.F (a, b, ()) = some (canon (val a / val b), canon (val a % val b), ()) := by
  obtain ⟨m, hm⟩ : ∃ m, b.length = m + 2 := ⟨b.length - 2, by omega⟩
  have gx := hb.1.get (m + 1)
  have hx0 : b.getD (m + 1) 0 ≠ 0 := by
    have := hb.2.resolve_left (by omega)
    rwa [hm] at this
  obtain ⟨s, hs, hF, hlo, hhi⟩ := lead_spec (x := b.getD (m + 1) 0) (by omega)
  have p1 := two_pos s
  have pm := pw_pos (m + 1)
  obtain ⟨v0, hv1, hv2, hv3, hv4⟩ := moved_F (up := s) hb.1 (by omega) hs
  obtain ⟨u0, hu1, hu2, hu3, hu4⟩ := moved_F (up := s) ha la hs
  -- the divisor, its highest limb great
  have eb := val_take_succ (a := b) (i := m + 1) (by omega)
  rw [show m + 1 + 1 = b.length by omega, List.take_length] at eb
  have hbt := val_lt (hb.1.take (m + 1))
  have hb0 := val_nonneg (hb.1.take (m + 1))
  rw [show (b.take (m + 1)).length = m + 1 by simp; omega] at hbt
  have hVlt : val v0 < pw (m + 2) := by
    rw [hv4]
    have h1 : val b * 2 ^ s < (b.getD (m + 1) 0 + 1) * pw (m + 1) * 2 ^ s := Int.mul_lt_mul_of_pos_right (by rw [Int.add_mul, Int.one_mul]; omega) p1
    have h2 : (b.getD (m + 1) 0 + 1) * 2 ^ s * pw (m + 1) ≤ 4294967296 * pw (m + 1) := Int.mul_le_mul_of_nonneg_right hhi (by omega)
    rw [Int.mul_right_comm] at h1
    rw [pw_succ (m + 1)]; omega
  have hvL := hv2.take (m + 2)
  have hvl : (v0.take (m + 2)).length = m + 2 := by simp; omega
  have hvV := val_take_of_lt hv2 hVlt
  have hV : val (v0.take (m + 2)) = val b * 2 ^ s := by rw [hvV, hv4]
  generalize hvd : v0.take (m + 2) = v at hvL hvl hvV hV
  have ev := val_take_succ (a := v) (i := m + 1) (by omega)
  rw [show m + 1 + 1 = v.length by omega, List.take_length] at ev
  have hvt := val_lt (hvL.take (m + 1))
  have hv0 := val_nonneg (hvL.take (m + 1))
  rw [show (v.take (m + 1)).length = m + 1 by simp; omega] at hvt
  have hn : 2147483648 ≤ v.getD (m + 1) 0 := by
    have h1 : b.getD (m + 1) 0 * pw (m + 1) * 2 ^ s ≤ val b * 2 ^ s := Int.mul_le_mul_of_nonneg_right (by omega) (Int.le_of_lt p1)
    have h2 : 2147483648 * pw (m + 1) ≤ b.getD (m + 1) 0 * 2 ^ s * pw (m + 1) := Int.mul_le_mul_of_nonneg_right hlo (by omega)
    rw [Int.mul_right_comm] at h1
    by_cases hc : 2147483648 ≤ v.getD (m + 1) 0
    · exact hc
    · exfalso
      have : v.getD (m + 1) 0 * pw (m + 1) ≤ 2147483647 * pw (m + 1) := Int.mul_le_mul_of_nonneg_right (by omega) (by omega)
      omega
  have hVp : 2147483648 * pw (m + 1) ≤ val v := by
    have : 2147483648 * pw (m + 1) ≤ v.getD (m + 1) 0 * pw (m + 1) := Int.mul_le_mul_of_nonneg_right hn (by omega)
    omega
  have hV0 : 0 < val v := by omega
  have hVlt' : val v < pw (m + 2) := by rw [hvV]; exact hVlt
  -- what is divided: its highest limbs are below the divisor
  have hul : val (u0.drop (a.length + 1 - (m + 2))) < val v := by
    have e1 := val_take_drop (u0.drop (a.length + 1 - (m + 2))) (m + 1) (by simp; omega)
    rw [List.drop_drop, show a.length + 1 - (m + 2) + (m + 1) = a.length by omega] at e1
    have e2 := val_take_drop u0 a.length (by omega)
    have h1 := val_lt ((hu2.drop (a.length + 1 - (m + 2))).take (m + 1))
    rw [show ((u0.drop (a.length + 1 - (m + 2))).take (m + 1)).length = m + 1 by simp; omega] at h1
    have h2 := val_nonneg (hu2.take a.length)
    have h3 := val_lt ha
    have pa := pw_pos a.length
    have h4 : val a * 2 ^ s < pw a.length * 2 ^ s := Int.mul_lt_mul_of_pos_right h3 p1
    have h5 : val (u0.drop a.length) < 2 ^ s := by
      have : pw a.length * val (u0.drop a.length) < pw a.length * 2 ^ s := by omega
      exact Int.lt_of_mul_lt_mul_left this (Int.le_of_lt pa)
    have h6 : (2 : Int) ^ s ≤ 2147483648 := by
      have : (2 : Nat) ^ s ≤ 2 ^ 31 := Nat.pow_le_pow_right (by decide) (by omega)
      have h := two_nat s
      omega
    have h7 : pw (m + 1) * val (u0.drop a.length) ≤ pw (m + 1) * 2147483647 := Int.mul_le_mul_of_nonneg_left (by omega) (by omega)
    omega
  -- behind the digits: what is left is moved down again
  have down : ∀ u q : List Int, Limbs u → u.length = a.length + 1 → Limbs q → q.length ≤ a.length → val u < val v → val u + val q * val v = val a * 2 ^ s →
      ∃ j, ∀ k, nat_long.L12 (k + j) (s : Int) u q (List.replicate (m + 2) 0) ((m + 2 : Nat) : Int) 0 = some (canon (val a / val b), canon (val a % val b), ()) := by
    intro u q hu lu hq lq hlt he
    have hd := div_unique (x := val a * 2 ^ s) (q := val q) (b := val v) (r := val u) (by omega) (val_nonneg hu) hlt
    rw [hV, Int.mul_comm (val a), Int.mul_comm (val b), Int.mul_ediv_mul_of_pos _ _ p1, Int.mul_emod_mul_of_pos _ _ p1] at hd
    have hun : u.getD (m + 2) 0 = 0 := by
      have e1 := val_take_drop u (m + 2) (by omega)
      have e2 := val_nonneg (hu.take (m + 2))
      have e3 := val_nonneg (hu.drop (m + 2))
      have e4 : val (u.drop (m + 2)) = 0 := by
        by_cases h0 : val (u.drop (m + 2)) = 0
        · exact h0
        · have : pw (m + 2) * 1 ≤ pw (m + 2) * val (u.drop (m + 2)) := Int.mul_le_mul_of_nonneg_left (by omega) (Int.le_of_lt (pw_pos _))
          omega
      by_cases h5 : m + 2 < u.length
      · rw [n_drop_next h5, val_cons] at e4
        have := hu.get (m + 2)
        have := val_nonneg (hu.drop (m + 2 + 1))
        omega
      · exact getD_out (by omega)
    refine up (fun k (x : Nat × List Int) => nat_long.L12 k (s : Int) u q x.2 ((m + 2 : Nat) : Int) (x.1 : Int)) _ (fun i r => DownInv u s (m + 2) i r) (m + 2) (fun i r hi hr => ?_) (fun r hr => ?_) 0 _ (Nat.zero_le _) DownInv.start
    · have hnx := hr.next hu hs hi
      obtain ⟨h1, h2, h3, h4⟩ := hr
      have g1 := hu.get i
      have g2 := hu.get (i + 1)
      obtain ⟨d0, d1, d2, d3, d4, d5⟩ := down_limb g1 g2 hs
      have p2 := two_pos (32 - s)
      have e1 : shrI .u32 (u.getD i 0) (s : Int) = u.getD i 0 / 2 ^ s := shr32 _ s (by omega)
      have e2 : (32 : Int) - (s : Int) = ((32 - s : Nat) : Int) := by omega
      have e3 : IntKind.u32.wrap (shlI .u64 (u.getD (i + 1) 0) ((32 - s : Nat) : Int)) = 2 ^ (32 - s) * (u.getD (i + 1) 0 % 2 ^ s) := by
        rw [shl_eq .u64 _ (32 - s) (by show 32 - s ≤ 64; omega), w64, w32, ← d0, Int.emod_emod_of_dvd _ (by decide)]
      have e4 : bitsOp .or .u32 (u.getD i 0 / 2 ^ s) (2 ^ (32 - s) * (u.getD (i + 1) 0 % 2 ^ s)) = 2 ^ (32 - s) * (u.getD (i + 1) 0 % 2 ^ s) + u.getD i 0 / 2 ^ s := or32_add' (32 - s) (u.getD (i + 1) 0 % 2 ^ s) rfl d1 ⟨d2, d3⟩ d4
      refine ⟨_, hnx, 1, fun k => ?_⟩
      simp (disch := omega) only [c_dec, c_beq, c_bne, c_and, c_or, c_not, blt_dec, up1, dn1, if_t, if_f, if_true, if_false, Int.toNat_natCast, Option.bind_some, ne_eq, not_true_eq_false, not_false_eq_true, true_and, and_true, nat_long.L12_succ, nat_long.b12, e1, e2, e3, e4, IntWalk.i64_in, IntWalk.u64_in]
      rw [show (i : Int) + 1 = ((i + 1 : Nat) : Int) by omega]
      simp (disch := omega) only [c_dec, c_beq, c_bne, c_and, c_or, c_not, blt_dec, up1, dn1, if_t, if_f, if_true, if_false, Int.toNat_natCast, Option.bind_some, ne_eq, not_true_eq_false, not_false_eq_true, true_and, and_true, IntWalk.u64_in, e3, e4]
    · have hrv := hr.last hu hs (by omega) hun
      obtain ⟨h1, h2, h3, h4⟩ := hr
      have e5 : val r = val a % val b := by
        rw [hrv, ← hd.2, Int.mul_ediv_cancel_left _ (by omega)]
      refine ⟨1, fun k => ?_⟩
      simp (disch := omega) only [c_dec, c_beq, c_bne, c_and, c_or, c_not, blt_dec, up1, dn1, if_t, if_f, if_true, if_false, Int.toNat_natCast, Option.bind_some, ne_eq, not_true_eq_false, not_false_eq_true, true_and, and_true, nat_long.L12_succ, nat_long.b12, own_F hq (by omega), own_F h2 (by omega), e5, ← hd.1]
  -- digit by digit
  obtain ⟨j, hj⟩ := ends (fun k (x : Nat × List Int × List Int) => nat_long.L7 k (s : Int) v x.2.1 ((m + 2 : Nat) : Int) x.2.2 ((x.1 : Int) - 1)) (canon (val a / val b), canon (val a % val b), ())
    (fun x => x.2.1.length = a.length + 1 ∧ Limbs x.2.1 ∧ x.2.2.length = a.length + 1 - (m + 2) ∧ Limbs x.2.2 ∧ x.1 ≤ a.length + 1 - (m + 2) ∧ (∀ j, j < x.1 → x.2.2.getD j 0 = 0) ∧ val x.2.1 + val x.2.2 * val v = val a * 2 ^ s ∧ val (x.2.1.drop x.1) < val v) (fun x => x.1) (fun x hx => by
      obtain ⟨K, u, q⟩ := x
      obtain ⟨h1, h2, h3, h4, h5, h6, h7, h8⟩ := hx
      simp only at h1 h2 h3 h4 h5 h6 h7 h8
      rcases K with _ | k
      · obtain ⟨j, hj⟩ := down u q h2 h1 h4 (by omega) (by simpa using h8) h7
        refine .inr ⟨j + 1, fun k => ?_⟩
        rw [← Nat.add_assoc]
        simp (disch := omega) only [c_dec, c_beq, c_bne, c_and, c_or, c_not, blt_dec, up1, dn1, if_t, if_f, if_true, if_false, Int.toNat_natCast, Option.bind_some, ne_eq, not_true_eq_false, not_false_eq_true, true_and, and_true, nat_long.L7_succ, nat_long.b7, sub0]
        exact hj k
      · have hk : k < u.length := by omega
        have gu := h2.get k
        have hd := n_drop_next hk
        have hdl : Limbs (u.drop k) := h2.drop k
        have hvd : val (u.drop k) = u.getD k 0 + 4294967296 * val (u.drop (k + 1)) := by rw [hd, val_cons]
        have hp3 : pw (m + 3) = 4294967296 * pw (m + 2) := pw_succ (m + 2)
        have hsub := val_take_of_lt (n := m + 3) hdl (by omega)
        have hsl : ((u.drop k).take (m + 3)).length = m + 3 := by simp; omega
        have hsL := hdl.take (m + 3)
        have hparts : u = u.take k ++ (u.drop k).take (m + 3) ++ u.drop (k + (m + 3)) := by
          rw [List.append_assoc, ← List.drop_drop, List.take_append_drop, List.take_append_drop]
        have hpl : (u.take k).length = k := by simp; omega
        have hpost : val (u.drop (k + (m + 3))) = 0 := by
          have e1 := val_take_drop (u.drop k) (m + 3) (by simp; omega)
          rw [hsub, List.drop_drop] at e1
          have := pw_pos (m + 3)
          have e2 : pw (m + 3) * val (u.drop (k + (m + 3))) = 0 := by omega
          rcases Int.mul_eq_zero.1 e2 with h | h
          · omega
          · exact h
        have hD := digit_F (pre := u.take k) (u := (u.drop k).take (m + 3)) (post := u.drop (k + (m + 3))) hsL hvL hvl hsl (by omega) hn (by rw [hsub]; omega)
        rw [← hparts, hpl, hsub] at hD
        have hr0 := Int.emod_nonneg (val (u.drop k)) (b := val v) (by omega)
        have hr1 := Int.emod_lt_of_pos (val (u.drop k)) hV0
        have hdm := Int.mul_ediv_add_emod (val (u.drop k)) (val v)
        have hd0 := Int.ediv_nonneg (val_nonneg hdl) (Int.le_of_lt hV0)
        have hd1 : val (u.drop k) / val v < 4294967296 := by rw [Int.ediv_lt_iff_lt_mul hV0]; omega
        obtain ⟨w1, w2, w3⟩ := pad_spec (m + 3) (val (u.drop k) % val v) hr0 (by omega)
        generalize hQ : val (u.drop k) / val v = d at hD hd0 hd1 hdm
        generalize hR : val (u.drop k) % val v = r at hD hr0 hr1 hdm w1 w2 w3
        have hlen' : (u.take k ++ pad (m + 3) r ++ u.drop (k + (m + 3))).length = a.length + 1 := by
          rw [List.length_append, List.length_append, hpl, w2, List.length_drop]; omega
        have ev1 : val u = val (u.take k) + pw k * val (u.drop k) := val_take_drop u k (by omega)
        have ev2 : val (u.take k ++ pad (m + 3) r ++ u.drop (k + (m + 3))) = val (u.take k) + pw k * r := by
          rw [List.append_assoc, val_append, val_append, w3, hpost, hpl]; simp
        have ev3 : val ((u.take k ++ pad (m + 3) r ++ u.drop (k + (m + 3))).drop k) = r := by
          rw [List.append_assoc, List.drop_append_of_le_length (by omega), List.drop_of_length_le (by omega), List.nil_append, val_append, w3, hpost]; simp
        have e1 : ((k + 1 : Nat) : Int) - 1 = (k : Int) := sub1 k
        have e2 : (k : Int) + ((m + 2 : Nat) : Int) + 1 = ((k + (m + 3) : Nat) : Int) := by omega
        have e3 : ((k + (m + 3) : Nat) : Int) - (k : Int) = ((m + 3 : Nat) : Int) := by omega
        have hlen2 : Nat.beq (u.take k ++ pad (m + 3) r ++ u.drop (k + (m + 3))).length u.length = true := by
          rw [hlen', h1]; exact Nat.beq_refl _
        refine .inl ⟨(k, u.take k ++ pad (m + 3) r ++ u.drop (k + (m + 3)), q.set k d), ⟨hlen', ((h2.take k).app w1).app (h2.drop _), by simpa using h3, h4.set k ⟨hd0, hd1⟩, by simp only; omega, fun j hj => ?_, ?_, ?_⟩, Nat.lt_succ_self k, 1, fun i => ?_⟩
        · simp only at hj ⊢
          rw [getD_set (by omega), if_neg (by omega)]; exact h6 j (by omega)
        · simp only
          rw [ev2, val_set d (by omega), h6 k (Nat.lt_succ_self k), Int.sub_zero, Int.add_mul, Int.mul_right_comm, Int.mul_comm d (val v)]
          have e4 : pw k * val (u.drop k) = val v * d * pw k + pw k * r := by rw [← hdm, Int.mul_add, Int.mul_comm (pw k) (val v * d)]
          omega
        · simp only
          rw [ev3]; exact hr1
        · simp (disch := omega) only [c_dec, c_beq, c_bne, c_and, c_or, c_not, blt_dec, up1, dn1, if_t, if_f, if_true, if_false, Int.toNat_natCast, Option.bind_some, ne_eq, not_true_eq_false, not_false_eq_true, true_and, and_true, nat_long.L7_succ, nat_long.b7, e1, e2, e3, IntWalk.i64_in, cond_true, hD, hlen2]) (a.length + 1 - (m + 2), u0, List.replicate (a.length + 1 - (m + 2)) 0) ⟨hu3, hu2, by simp, Limbs.zeros _, Nat.le_refl _, fun j _ => getD_zeros _ _, by simp only; rw [val_zeros, hu4]; omega, hul⟩
  refine nat_long.of (0 + j) a b ?_
  have e1 : ((m + 2 : Nat) : Int) - 1 = ((m + 1 : Nat) : Int) := by omega
  have e2 : ((a.length + 1 : Nat) : Int) - ((m + 2 : Nat) : Int) = ((a.length + 1 - (m + 2) : Nat) : Int) := by omega
  simp (disch := omega) only [c_dec, c_beq, c_bne, c_and, c_or, c_not, blt_dec, up1, dn1, if_t, if_f, if_true, if_false, Int.toNat_natCast, Option.bind_some, ne_eq, not_true_eq_false, not_false_eq_true, true_and, and_true, nat_long.e, hm, e1, IntWalk.i64_in, hF, hv1, hu1, hvd, hvl, hu3, hv3, e2]
  exact hj 0

/-! ### Div -/
def divI (x y : Int) : List Int × List Int × Int × Unit := if y = 0 then ([], [], 11, ()) else (canon (x / y), canon (x % y), 0, ())
theorem Div_F {a b : List Int} (ha : Limbs a) (hb : Limbs b) (la : a.length < 70368744177664) (lb : b.length < 70368744177664) : nat_Div.F (a, b, ()) = some (divI (val a) (val b)) := by
  have ca := canon_nrm (val a)
  have cb := canon_nrm (val b)
  have ha0 := val_nonneg ha
  have hb0 := val_nonneg hb
  have va := val_canon ha0
  have vb := val_canon hb0
  have na := canon_val_len ha
  have nb := canon_val_len hb
  have hz := canon_len_zero hb0
  refine nat_Div.of 0 a b ?_
  simp only [nat_Div.e, trim_F ha (Nat.le_of_lt la), trim_F hb (Nat.le_of_lt lb), Option.bind_some]
  unfold divI
  by_cases h0 : val b = 0
  · have := hz.2 h0
    rw [if_pos h0]
    simp (disch := omega) only [c_dec, c_beq, c_bne, c_and, c_or, c_not, blt_dec, up1, dn1, if_t, if_f, if_true, if_false, Int.toNat_natCast, Option.bind_some, ne_eq, not_true_eq_false, not_false_eq_true, true_and, and_true]
  · have h1 : (canon (val b)).length ≠ 0 := fun h => h0 (hz.1 h)
    rw [if_neg h0]
    have hC := Cmp_F ca.1 cb.1 (by omega) (by omega)
    rw [va, vb] at hC
    by_cases hlt : val a < val b
    · have hO := own_F ca.1 (by omega)
      rw [va] at hO
      simp (disch := omega) only [c_dec, c_beq, c_bne, c_and, c_or, c_not, blt_dec, up1, dn1, if_t, if_f, if_true, if_false, Int.toNat_natCast, Option.bind_some, ne_eq, not_true_eq_false, not_false_eq_true, true_and, and_true, hC, cmpI_lt hlt, hO]
      rw [Int.ediv_eq_zero_of_lt ha0 hlt, Int.emod_eq_of_lt ha0 hlt, canon_zero]
    · have hc : 0 ≤ cmpI (val a) (val b) := by unfold cmpI; rw [if_neg hlt]; split <;> decide
      by_cases h2 : (canon (val b)).length = 1
      · obtain ⟨y, hy⟩ : ∃ y, canon (val b) = [y] := by
          match hcb : canon (val b), h2 with
          | [y], _ => exact ⟨y, rfl⟩
        have hyv : y = val b := by rw [← vb, hy, val1]
        have hyl : 0 < y ∧ y < 4294967296 := by
          have := cb.1.get 0
          rw [hy] at this
          simp at this
          omega
        obtain ⟨q, q1, q2, q3, q4⟩ := short_F (b := y) ca.1 (by omega) hyl
        rw [va] at q1 q4
        have hr0 := Int.emod_nonneg (val a) (b := y) (by omega)
        have hr1 := Int.emod_lt_of_pos (val a) (b := y) (by omega)
        have hO1 := own_F q2 (by omega)
        have hO2 := own_F (limbs1 (x := val a % y) (by omega)) (by simp)
        rw [q4] at hO1
        rw [val1] at hO2
        rw [hy] at hC ⊢
        simp (disch := omega) only [c_dec, c_beq, c_bne, c_and, c_or, c_not, blt_dec, up1, dn1, if_t, if_f, if_true, if_false, Int.toNat_natCast, Option.bind_some, ne_eq, not_true_eq_false, not_false_eq_true, true_and, and_true, hC, List.length_cons, List.length_nil, show List.getD [y] (Int.toNat 0) 0 = y from rfl, q1, hO1, hO2]
        rw [hyv]
      · have hle : (canon (val b)).length ≤ (canon (val a)).length := by
          by_cases hh : (canon (val b)).length ≤ (canon (val a)).length
          · exact hh
          · exfalso
            have h3 := canon_len_lt ha0
            have h4 := nrm_pos cb h1
            have h5 := pw_mono (m := (canon (val a)).length) (n := (canon (val b)).length - 1) (by omega)
            omega
        have hL := long_F ca.1 cb (by omega) (by omega) hle
        rw [va, vb] at hL
        simp (disch := omega) only [c_dec, c_beq, c_bne, c_and, c_or, c_not, blt_dec, up1, dn1, if_t, if_f, if_true, if_false, Int.toNat_natCast, Option.bind_some, ne_eq, not_true_eq_false, not_false_eq_true, true_and, and_true, hC, hL]
end Go.Fx.Try

namespace Go.Fx.Try
open Go Go.Fx Go.Fx.Num
set_option linter.unusedVariables false
set_option linter.unusedSimpArgs false

theorem twice_F {a : List Int} (ha : Limbs a) (la : a.length < 70368744177664) (d : Bool) : fulcrumref01_twice.F (a, d, ()) = some (canon (2 * val a + (if d = true then 1 else 0)), ()) := by
  have key : ∀ t : Int, 0 ≤ t ∧ t ≤ 1 → ∃ j, ∀ k, fulcrumref01_twice.L6 (k + j) a (List.replicate (a.length + 1) 0) t 0 = some (canon (2 * val a + t), ()) := by
    intro t ht
    refine up (fun k (s : Nat × List Int × Int) => fulcrumref01_twice.L6 k a s.2.1 s.2.2 (s.1 : Int)) _ (fun i s => s.1.length = a.length + 1 ∧ Limbs s.1 ∧ (0 ≤ s.2 ∧ s.2 ≤ 1) ∧ (∀ j, i ≤ j → s.1.getD j 0 = 0) ∧ val s.1 + s.2 * pw i = 2 * val (a.take i) + t) a.length (fun i s hi ⟨h1, h2, h3, h4, h5⟩ => ?_) (fun s ⟨h1, h2, h3, h4, h5⟩ => ?_) 0 (List.replicate (a.length + 1) 0, t) (Nat.zero_le _)
      ⟨by simp, Limbs.zeros _, by simp only; omega, fun j _ => getD_zeros _ _, by simp [val_zeros, val_nil, pw_zero]⟩
    · obtain ⟨c, q⟩ := s
      simp only at h1 h2 h3 h4 h5
      have g := ha.get i
      have g3 := h4 i (Nat.le_refl i)
      have e1 : shlI .u32 (a.getD i 0) 1 = (a.getD i 0 * 2) % 4294967296 := (shl_eq .u32 _ 1 (by decide)).trans (w32 _)
      have e2 : bitsOp .or .u32 ((a.getD i 0 * 2) % 4294967296) q = (a.getD i 0 * 2) % 4294967296 + q := or32_add 1 ((a.getD i 0 * 2) % 4294967296 / 2) (by omega) (by omega) (by omega) (by omega)
      have e3 : shrI .u32 (a.getD i 0) 31 = a.getD i 0 / 2147483648 := shr32 _ 31 (by decide)
      refine ⟨(c.set i ((a.getD i 0 * 2) % 4294967296 + q), a.getD i 0 / 2147483648), ⟨by simpa using h1, h2.set i (by omega), by simp only; omega, fun j hj => ?_, ?_⟩, 1, fun k => ?_⟩
      · rw [getD_set (by omega), if_neg (by omega)]; exact h4 j (by omega)
      · rw [carry_step (x := a.getD i 0 * 2) (by omega) (by omega) h5, val_take_next, Int.mul_add, Int.mul_right_comm, Int.mul_comm (a.getD i 0 * pw i)]; omega
      · simp (disch := omega) only [c_dec, c_beq, c_bne, c_and, c_or, c_not, blt_dec, up1, dn1, if_t, if_f, if_true, if_false, Int.toNat_natCast, Option.bind_some, ne_eq, not_true_eq_false, not_false_eq_true, true_and, and_true, fulcrumref01_twice.L6_succ, fulcrumref01_twice.b6, e1, e2, e3]
    · obtain ⟨c, q⟩ := s
      simp only at h1 h2 h3 h4 h5
      rw [List.take_length] at h5
      have h6 := h2.set a.length (v := q) (by omega)
      have h7 : val (c.set a.length q) = 2 * val a + t := by rw [val_set q (by omega), h4 a.length (Nat.le_refl _), Int.sub_zero, h5]
      refine ⟨1, fun k => ?_⟩
      simp (disch := omega) only [c_dec, c_beq, c_bne, c_and, c_or, c_not, blt_dec, up1, dn1, if_t, if_f, if_true, if_false, Int.toNat_natCast, Option.bind_some, ne_eq, not_true_eq_false, not_false_eq_true, true_and, and_true, fulcrumref01_twice.L6_succ, fulcrumref01_twice.b6, rNorm_F h6 (by simp; omega), h7]
  cases d
  · obtain ⟨j, hj⟩ := key 0 (by omega)
    refine fulcrumref01_twice.of (0 + j) a false ?_
    simp (disch := omega) only [c_dec, c_beq, c_bne, c_and, c_or, c_not, blt_dec, up1, dn1, if_t, if_f, if_true, if_false, Int.toNat_natCast, Option.bind_some, ne_eq, not_true_eq_false, not_false_eq_true, true_and, and_true, fulcrumref01_twice.e, cond_false]
    exact hj 0
  · obtain ⟨j, hj⟩ := key 1 (by omega)
    refine fulcrumref01_twice.of (0 + j) a true ?_
    simp (disch := omega) only [c_dec, c_beq, c_bne, c_and, c_or, c_not, blt_dec, up1, dn1, if_t, if_f, if_true, if_false, Int.toNat_natCast, Option.bind_some, ne_eq, not_true_eq_false, not_false_eq_true, true_and, and_true, fulcrumref01_twice.e, cond_true]
    exact hj 0

theorem bit_step (x : Int) (k : Nat) : x / 2 ^ k = 2 * (x / 2 ^ (k + 1)) + (x / 2 ^ k) % 2 := by
  have p := two_pos k
  rw [Int.pow_succ, ← Int.ediv_ediv_of_nonneg (Int.le_of_lt p)]
  omega
theorem bitI_eq (x : Int) (k : Nat) : (if bitI x (k : Int) = true then (1 : Int) else 0) = (x / 2 ^ k) % 2 := by
  unfold bitI
  rw [Int.toNat_natCast]
  have := Int.emod_two_eq (x / 2 ^ k)
  by_cases h : (x / 2 ^ k) % 2 = 1
  · rw [if_pos (by simpa using h), h]
  · rw [if_neg (by simpa using h)]; omega
/-- A digit set where none is. -/
theorem set_bit {q : List Int} {k : Nat} {Q : Int} (hq : Limbs q) (hQ : 0 ≤ Q) (h : val q = Q * 2 ^ (k + 1)) (hk : k / 32 < q.length) :
    bitsOp .or .u32 (q.getD (k / 32) 0) (2 ^ (k % 32)) = q.getD (k / 32) 0 + 2 ^ (k % 32) ∧ 0 ≤ q.getD (k / 32) 0 + 2 ^ (k % 32) ∧ q.getD (k / 32) 0 + 2 ^ (k % 32) < 4294967296 ∧ val (q.set (k / 32) (q.getD (k / 32) 0 + 2 ^ (k % 32))) = val q + 2 ^ k := by
  have hs : k % 32 < 32 := Nat.mod_lt _ (by decide)
  have g := hq.get (k / 32)
  have p1 := two_pos (k % 32)
  have p2 := two_pos (k % 32 + 1)
  have pj := pw_pos (k / 32)
  have e0 : (2 : Int) ^ (k + 1) = pw (k / 32) * 2 ^ (k % 32 + 1) := by
    rw [pw_two, ← Int.pow_add]; congr 1; omega
  have e1 := val_div hq (Nat.le_of_lt hk)
  rw [h, e0, ← Int.mul_assoc, Int.mul_comm Q, Int.mul_assoc, Int.mul_ediv_cancel_left _ (by omega), n_drop_next hk, val_cons] at e1
  have hB := two_split (u := k % 32 + 1) (by omega)
  have e2 : q.getD (k / 32) 0 = 2 ^ (k % 32 + 1) * (Q - 2 ^ (32 - (k % 32 + 1)) * val (q.drop (k / 32 + 1))) := by
    rw [Int.mul_sub, ← Int.mul_assoc, ← hB, Int.mul_comm _ Q]; omega
  generalize Q - 2 ^ (32 - (k % 32 + 1)) * val (q.drop (k / 32 + 1)) = z at e2
  have hz : 0 ≤ z := by
    by_cases hz : 0 ≤ z
    · exact hz
    · have : 2 ^ (k % 32 + 1) * z ≤ 2 ^ (k % 32 + 1) * (-1) := Int.mul_le_mul_of_nonneg_left (by omega) (Int.le_of_lt p2)
      omega
  have hlt : 2 ^ (k % 32 + 1) * z < 2 ^ (k % 32 + 1) * 2 ^ (32 - (k % 32 + 1)) := by rw [← hB, ← e2]; omega
  have hz2 := Int.lt_of_mul_lt_mul_left hlt (Int.le_of_lt p2)
  have h8 : 2 ^ (k % 32 + 1) * z ≤ 2 ^ (k % 32 + 1) * (2 ^ (32 - (k % 32 + 1)) - 1) := Int.mul_le_mul_of_nonneg_left (by omega) (Int.le_of_lt p2)
  rw [Int.mul_sub, ← hB, Int.mul_one] at h8
  have e3 : (2 : Int) ^ (k % 32 + 1) = 2 * 2 ^ (k % 32) := by rw [Int.pow_succ, Int.mul_comm]
  have hb : q.getD (k / 32) 0 + 2 ^ (k % 32) < 4294967296 := by omega
  refine ⟨or32_add (k % 32 + 1) z e2 hz ⟨by omega, by omega⟩ hb, by omega, hb, ?_⟩
  rw [val_set _ hk, show q.getD (k / 32) 0 + 2 ^ (k % 32) - q.getD (k / 32) 0 = 2 ^ (k % 32) by omega, pw_two, ← Int.pow_add]
  congr 2; omega

theorem rDiv_small {x y q r t : List Int} {k : Nat} {bit : Bool} {c : Int} (hk : k < 4611686018427387904) (hB : fulcrumref01_Bit.F (x, (k : Int), ()) = some (bit, ())) (hT : fulcrumref01_twice.F (r, bit, ()) = some (t, ())) (hC : fulcrumref01_Cmp.F (t, y, ()) = some (c, ())) (hc : c < 0) (i : Nat) :
    fulcrumref01_Div.L11 (i + 1) x y q r (k : Int) = fulcrumref01_Div.L11 i x y q t ((k : Int) - 1) := by
  simp (disch := omega) only [c_dec, c_beq, c_bne, c_and, c_or, c_not, blt_dec, up1, dn1, if_t, if_f, if_true, if_false, Int.toNat_natCast, Option.bind_some, ne_eq, not_true_eq_false, not_false_eq_true, true_and, and_true, fulcrumref01_Div.L11_succ, fulcrumref01_Div.b11, hB, hT, hC, IntWalk.i64_in]
theorem rDiv_great {x y q r t d : List Int} {k : Nat} {bit : Bool} {c e w : Int} (hk : k < 4611686018427387904) (hkq : k / 32 < q.length) (hB : fulcrumref01_Bit.F (x, (k : Int), ()) = some (bit, ())) (hT : fulcrumref01_twice.F (r, bit, ()) = some (t, ())) (hC : fulcrumref01_Cmp.F (t, y, ()) = some (c, ())) (hc : 0 ≤ c)
    (hS : fulcrumref01_Sub.F (t, y, ()) = some (d, e, ())) (hw : bitsOp .or .u32 (q.getD (k / 32) 0) (2 ^ (k % 32)) = w) (i : Nat) :
    fulcrumref01_Div.L11 (i + 1) x y q r (k : Int) = fulcrumref01_Div.L11 i x y (q.set (k / 32) w) d ((k : Int) - 1) := by
  have e2 : (k : Int) / 32 = ((k / 32 : Nat) : Int) := by omega
  have e3 : (k : Int) % 32 = ((k % 32 : Nat) : Int) := by omega
  have e4 : shlI .u32 1 ((k % 32 : Nat) : Int) = 2 ^ (k % 32) := by
    have hlt : (2 : Nat) ^ (k % 32) < 2 ^ 32 := Nat.pow_lt_pow_right (by decide) (by omega)
    have h9 := two_nat (k % 32)
    have p := two_pos (k % 32)
    rw [shl_eq .u32 _ (k % 32) (by show k % 32 ≤ 32; omega), w32, Int.one_mul]; omega
  simp (disch := omega) only [c_dec, c_beq, c_bne, c_and, c_or, c_not, blt_dec, up1, dn1, if_t, if_f, if_true, if_false, Int.toNat_natCast, Option.bind_some, ne_eq, not_true_eq_false, not_false_eq_true, true_and, and_true, fulcrumref01_Div.L11_succ, fulcrumref01_Div.b11, hB, hT, hC, hS, IntWalk.i64_quo, IntWalk.rem_in, IntWalk.u64_in, e2, e3, e4, hw, IntWalk.i64_in]

theorem rDiv_loop {x y : List Int} (hxl : Limbs x) (hyl : Limbs y) (hy0 : 0 < val y) (lx : x.length < 70368744177664) (ly : y.length < 70368744177664) (K : Nat) (q : List Int) (hK : K ≤ 32 * x.length) (lq : q.length = x.length) (hq : Limbs q) (hv : val q = (val x / 2 ^ K / val y) * 2 ^ K) :
    ∃ j, ∀ k, fulcrumref01_Div.L11 (k + j) x y q (canon (val x / 2 ^ K % val y)) ((K : Int) - 1) = some (canon (val x / val y), canon (val x % val y), 0, ()) := by
  have ha0 := val_nonneg hxl
  have hylt := val_lt hyl
  refine ends (fun k (s : Nat × List Int) => fulcrumref01_Div.L11 k x y s.2 (canon (val x / 2 ^ s.1 % val y)) ((s.1 : Int) - 1)) _ (fun s => s.1 ≤ 32 * x.length ∧ s.2.length = x.length ∧ Limbs s.2 ∧ val s.2 = (val x / 2 ^ s.1 / val y) * 2 ^ s.1) (fun s => s.1) (fun s ⟨g1, g2, g3, g4⟩ => ?_) (K, q) ⟨hK, lq, hq, hv⟩
  obtain ⟨K, q⟩ := s
  simp only at g1 g2 g3 g4
  rcases K with _ | k
  · refine .inr ⟨1, fun k => ?_⟩
    simp only [Int.pow_zero, Int.ediv_one, Int.mul_one] at g4
    simp (disch := omega) only [c_dec, c_beq, c_bne, c_and, c_or, c_not, blt_dec, up1, dn1, if_t, if_f, if_true, if_false, Int.toNat_natCast, Option.bind_some, ne_eq, not_true_eq_false, not_false_eq_true, true_and, and_true, fulcrumref01_Div.L11_succ, fulcrumref01_Div.b11, sub0, rNorm_F g3 (by omega), g4, Int.pow_zero, Int.ediv_one]
  · have hk : k / 32 < q.length := by omega
    have pk := two_pos k
    have pk1 := two_pos (k + 1)
    have hN0 : 0 ≤ val x / 2 ^ (k + 1) := Int.ediv_nonneg ha0 (Int.le_of_lt pk1)
    have hR0 := Int.emod_nonneg (val x / 2 ^ (k + 1)) (b := val y) (by omega)
    have hR1 := Int.emod_lt_of_pos (val x / 2 ^ (k + 1)) hy0
    have hQ0 := Int.ediv_nonneg hN0 (Int.le_of_lt hy0)
    have hdm := Int.mul_ediv_add_emod (val x / 2 ^ (k + 1)) (val y)
    have hst := bit_step (val x) k
    have hb2 := Int.emod_two_eq (val x / 2 ^ k)
    have hB := rBit_F (i := (k : Int)) hxl (by omega) (by omega)
    have hrl := canon_limbs (val x / 2 ^ (k + 1) % val y)
    have hrv := val_canon hR0
    have hrn : (canon (val x / 2 ^ (k + 1) % val y)).length ≤ y.length := canon_len_le hR0 (by omega)
    have hT := twice_F hrl (by omega) (bitI (val x) (k : Int))
    rw [hrv, bitI_eq] at hT
    generalize hQ : val x / 2 ^ (k + 1) / val y = Q at g4 hQ0 hdm
    generalize hR : val x / 2 ^ (k + 1) % val y = R at hR0 hR1 hdm hT hrl hrv hrn
    generalize hbit : (val x / 2 ^ k) % 2 = bit at hst hb2 hT
    have hT0 : 0 ≤ 2 * R + bit := by omega
    have htn : (canon (2 * R + bit)).length ≤ y.length + 1 := canon_len_le hT0 (by rw [pw_succ]; omega)
    have hC := rCmp_F (canon_limbs (2 * R + bit)) hyl (by omega) (by omega)
    rw [val_canon hT0] at hC
    have hS := rSub_F (canon_limbs (2 * R + bit)) hyl (by omega) (by omega)
    rw [val_canon hT0] at hS
    have hN : val x / 2 ^ k = (2 * Q) * val y + (2 * R + bit) := by
      rw [hst, ← hdm, Int.mul_assoc, Int.mul_comm Q]; omega
    have hpk : (2 : Int) ^ (k + 1) = 2 * 2 ^ k := by rw [Int.pow_succ, Int.mul_comm]
    by_cases hc : 2 * R + bit < val y
    · have hd := div_unique hN hT0 hc
      refine .inl ⟨(k, q), ⟨by simp only; omega, g2, g3, by simp only; rw [g4, hd.1, hpk, Int.mul_comm 2 Q, Int.mul_assoc]⟩, Nat.lt_succ_self k, 1, fun i => ?_⟩
      simp only [hd.2, hR, sub1]
      exact rDiv_small (by omega) hB hT hC (by rw [cmpI_lt hc]; decide) i
    · have hc' : 0 ≤ cmpI (2 * R + bit) (val y) := by unfold cmpI; rw [if_neg hc]; split <;> decide
      have hd := div_unique (x := val x / 2 ^ k) (q := 2 * Q + 1) (b := val y) (r := 2 * R + bit - val y) (by rw [hN, Int.add_mul (2 * Q)]; omega) (by omega) (by omega)
      obtain ⟨b1, b2, b3, b4⟩ := set_bit g3 hQ0 g4 hk
      rw [if_neg hc] at hS
      refine .inl ⟨(k, q.set (k / 32) (q.getD (k / 32) 0 + 2 ^ (k % 32))), ⟨by simp only; omega, by simpa using g2, g3.set _ ⟨b2, b3⟩, ?_⟩, Nat.lt_succ_self k, 1, fun i => ?_⟩
      · simp only; rw [b4, g4, hd.1, hpk, Int.add_mul, Int.one_mul, Int.mul_comm 2 Q, Int.mul_assoc]
      · simp only [hd.2, hR, sub1]
        exact rDiv_great (by omega) hk hB hT hC hc' hS b1 i

theorem rDiv_F {a b : List Int} (ha : Limbs a) (hb : Limbs b) (la : a.length < 70368744177664) (lb : b.length < 70368744177664) : fulcrumref01_Div.F (a, b, ()) = some (divI (val a) (val b)) := by
  have ca := canon_nrm (val a)
  have cb := canon_nrm (val b)
  have ha0 := val_nonneg ha
  have hb0 := val_nonneg hb
  have va := val_canon ha0
  have vb := val_canon hb0
  have na := canon_val_len ha
  have nb := canon_val_len hb
  have hz := canon_len_zero hb0
  suffices hs : ∃ k, fulcrumref01_Div.e (fulcrumref01_Div.L11 k) a b = some (divI (val a) (val b)) by obtain ⟨k, hk⟩ := hs; exact fulcrumref01_Div.of k a b hk
  simp only [fulcrumref01_Div.e, rNorm_F ha (Nat.le_of_lt la), rNorm_F hb (Nat.le_of_lt lb), Option.bind_some]
  unfold divI
  by_cases h0 : val b = 0
  · have := hz.2 h0
    refine ⟨0, ?_⟩
    rw [if_pos h0]
    simp (disch := omega) only [c_dec, c_beq, c_bne, c_and, c_or, c_not, blt_dec, up1, dn1, if_t, if_f, if_true, if_false, Int.toNat_natCast, Option.bind_some, ne_eq, not_true_eq_false, not_false_eq_true, true_and, and_true]
  · have h1 : (canon (val b)).length ≠ 0 := fun h => h0 (hz.1 h)
    rw [if_neg h0]
    have hbp := nrm_pos cb h1
    rw [← va, ← vb, va, vb]
    generalize canon (val a) = x at ca va na
    generalize canon (val b) = y at cb vb nb h1 hbp
    rw [← va, ← vb]
    rw [← va] at ha0
    rw [← vb] at hb0 h0
    have hxl := ca.1
    have hyl := cb.1
    have hxlt := val_lt hxl
    have start : ∀ h : Nat, h ≤ x.length → h ≤ y.length - 1 → (h = x.length ∨ h = y.length - 1) → ∃ j, ∀ k, fulcrumref01_Div.L11 (k + j) x y (List.replicate x.length 0) (canon (val (x.drop (x.length - h)))) (((32 * (x.length - h) : Nat) : Int) - 1) = some (canon (val x / val y), canon (val x % val y), 0, ()) := by
      intro h hh1 hh2 hh3
      have e1 : val x / 2 ^ (32 * (x.length - h)) = val (x.drop (x.length - h)) := by rw [← pw_two]; exact val_div hxl (by omega)
      have e2 := val_lt (hxl.drop (x.length - h))
      rw [List.length_drop, show x.length - (x.length - h) = h by omega] at e2
      have e3 := val_nonneg (hxl.drop (x.length - h))
      have e4 : pw h ≤ pw (y.length - 1) := pw_mono hh2
      have e5 := Int.ediv_eq_zero_of_lt e3 (show val (x.drop (x.length - h)) < val y by omega)
      have e6 := Int.emod_eq_of_lt e3 (show val (x.drop (x.length - h)) < val y by omega)
      have := rDiv_loop hxl hyl (by omega) (by omega) (by omega) (32 * (x.length - h)) (List.replicate x.length 0) (by omega) (by simp) (Limbs.zeros _) (by rw [e1, e5, val_zeros]; simp)
      rw [e1, e6] at this
      exact this
    by_cases hgt : x.length < y.length - 1
    · obtain ⟨j, hj⟩ := start x.length (Nat.le_refl _) (by omega) (.inl rfl)
      refine ⟨0 + j, ?_⟩
      have hN := rNorm_F (hxl.drop (x.length - x.length)) (by simp; omega)
      have e1 : (x.length : Int) - (x.length : Int) = ((x.length - x.length : Nat) : Int) := by omega
      have e2 : (32 : Int) * ((x.length - x.length : Nat) : Int) - 1 = ((32 * (x.length - x.length) : Nat) : Int) - 1 := by omega
      simp (disch := omega) only [c_dec, c_beq, c_bne, c_and, c_or, c_not, blt_dec, up1, dn1, if_t, if_f, if_true, if_false, Int.toNat_natCast, Option.bind_some, ne_eq, not_true_eq_false, not_false_eq_true, true_and, and_true, IntWalk.i64_in, e1, hN, e2]
      exact hj 0
    · obtain ⟨j, hj⟩ := start (y.length - 1) (by omega) (Nat.le_refl _) (.inr rfl)
      refine ⟨0 + j, ?_⟩
      have hN := rNorm_F (hxl.drop (x.length - (y.length - 1))) (by simp; omega)
      have e0 : (y.length : Int) - 1 = ((y.length - 1 : Nat) : Int) := by omega
      have e1 : (x.length : Int) - ((y.length - 1 : Nat) : Int) = ((x.length - (y.length - 1) : Nat) : Int) := by omega
      have e2 : (32 : Int) * ((x.length - (y.length - 1) : Nat) : Int) - 1 = ((32 * (x.length - (y.length - 1)) : Nat) : Int) - 1 := by omega
      simp (disch := omega) only [c_dec, c_beq, c_bne, c_and, c_or, c_not, blt_dec, up1, dn1, if_t, if_f, if_true, if_false, Int.toNat_natCast, Option.bind_some, ne_eq, not_true_eq_false, not_false_eq_true, true_and, and_true, IntWalk.i64_in, e0, e1, hN, e2]
      exact hj 0
end Go.Fx.Try

namespace Go.Fx.Try
open Go Go.Fx Go.Fx.Num
set_option linter.unusedVariables false
set_option linter.unusedSimpArgs false

theorem Nm.Div_F {a b x y n m} (h : Nm a x n) (g : Nm b y m) (hn : n < 70368744177664) (hm : m < 70368744177664) : nat_Div.F (a, b, ()) = some (divI x y) := by
  rw [Try.Div_F h.limbs g.limbs (Nat.lt_of_le_of_lt h.len hn) (Nat.lt_of_le_of_lt g.len hm), h.val, g.val]
theorem Nm.rDiv_F {a b x y n m} (h : Nm a x n) (g : Nm b y m) (hn : n < 70368744177664) (hm : m < 70368744177664) : fulcrumref01_Div.F (a, b, ()) = some (divI x y) := by
  rw [Try.rDiv_F h.limbs g.limbs (Nat.lt_of_le_of_lt h.len hn) (Nat.lt_of_le_of_lt g.len hm), h.val, g.val]
theorem divI_zero {x y : Int} (h : y = 0) : divI x y = ([], [], 11, ()) := if_pos h
theorem divI_pos {x y : Int} (h : y ≠ 0) : divI x y = (canon (x / y), canon (x % y), 0, ()) := if_neg h
theorem Nm.quo {a b x y n m} (h : Nm a x n) (g : Nm b y m) : Nm (Num.canon (x / y)) (x / y) n := by
  have hx := h.pos
  have hy := g.pos
  have := h.lt
  have := Int.ediv_le_self y hx
  exact .canon (Int.ediv_nonneg hx hy) (by omega)
theorem Nm.rem {a b x y n m} (h : Nm a x n) (g : Nm b y m) (h0 : y ≠ 0) : Nm (Num.canon (x % y)) (x % y) m := by
  have hy := g.pos
  have := g.lt
  have := Int.emod_nonneg x h0
  have := Int.emod_lt_of_pos x (show 0 < y by omega)
  exact .canon (by omega) (by omega)
end Go.Fx.Try
