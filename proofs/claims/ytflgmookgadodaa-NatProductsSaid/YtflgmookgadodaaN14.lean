/- long and Div. -/
import Derived.Test.YtflgmookgadodaaN13
import Derived.Test.YtflgmookgadodaaN5
namespace Go.Fx.Try
open Go Go.Fx Go.Fx.Num
set_option linter.unusedVariables false
set_option linter.unusedSimpArgs false

/-! ### limbs moved down -/
/-- What moving down keeps: i limbs are done. -/
def DownInv (u : List Int) (s n i : Nat) (r : List Int) : Prop :=
  r.length = n ∧ Limbs r ∧ (∀ j, i ≤ j → r.getD j 0 = 0) ∧ val r * 2 ^ s = val (u.take i) - u.getD 0 0 % 2 ^ s + (u.getD i 0 % 2 ^ s) * pw i
theorem DownInv.start {u : List Int} {s n : Nat} : DownInv u s n 0 (List.replicate n 0) :=
  ⟨by simp, Limbs.zeros _, fun j _ => getD_zeros _ _, by rw [val_zeros, List.take_zero, val_nil, pw_zero]; omega⟩
theorem down_limb {x y : Int} {s : Nat} (hx : 0 ≤ x ∧ x < 4294967296) (hy : 0 ≤ y ∧ y < 4294967296) (hs : s < 32) :
    (y * 2 ^ (32 - s)) % 4294967296 = 2 ^ (32 - s) * (y % 2 ^ s) ∧ 0 ≤ y % 2 ^ s ∧ 0 ≤ x / 2 ^ s ∧ x / 2 ^ s < 2 ^ (32 - s) ∧ 2 ^ (32 - s) * (y % 2 ^ s) + x / 2 ^ s < 4294967296 ∧ (2 ^ (32 - s) * (y % 2 ^ s) + x / 2 ^ s) * 2 ^ s = x - x % 2 ^ s + 4294967296 * (y % 2 ^ s) := by
  have hB := two_split (u := s) (by omega)
  have p1 := two_pos s
  have p2 := two_pos (32 - s)
  have hm0 := Int.emod_nonneg y (b := 2 ^ s) (by omega)
  have hm1 := Int.emod_lt_of_pos y p1
  have hd0 := Int.ediv_nonneg hx.1 (Int.le_of_lt p1)
  have hd1 : x / 2 ^ s < 2 ^ (32 - s) := by rw [Int.ediv_lt_iff_lt_mul p1, Int.mul_comm, ← hB]; exact hx.2
  have h8 : 2 ^ (32 - s) * (y % 2 ^ s) ≤ 2 ^ (32 - s) * (2 ^ s - 1) := Int.mul_le_mul_of_nonneg_left (by omega) (Int.le_of_lt p2)
  rw [Int.mul_sub, Int.mul_comm (2 ^ (32 - s)) (2 ^ s), ← hB, Int.mul_one] at h8
  have hxx := Int.mul_ediv_add_emod x (2 ^ s)
  refine ⟨?_, hm0, hd0, hd1, by omega, ?_⟩
  · rw [hB, Int.mul_comm y, Int.mul_comm (2 ^ s) (2 ^ (32 - s)), Int.mul_emod_mul_of_pos _ _ p2]
  · rw [Int.add_mul, Int.mul_right_comm, Int.mul_comm (2 ^ (32 - s)) (2 ^ s), ← hB, Int.mul_comm (x / 2 ^ s)]; omega
theorem DownInv.next {u : List Int} {s n i : Nat} {r : List Int} (hu : Limbs u) (hs : s < 32) (hi : i < n) (h : DownInv u s n i r) :
    DownInv u s n (i + 1) (r.set i (2 ^ (32 - s) * (u.getD (i + 1) 0 % 2 ^ s) + u.getD i 0 / 2 ^ s)) := by
  obtain ⟨h1, h2, h3, h4⟩ := h
  obtain ⟨_, d1, d2, d3, d4, d5⟩ := down_limb (hu.get i) (hu.get (i + 1)) hs
  have p2 := two_pos (32 - s)
  have := Int.mul_nonneg (Int.le_of_lt p2) d1
  refine ⟨by simpa using h1, h2.set i (by omega), fun j hj => ?_, ?_⟩
  · rw [getD_set (by omega), if_neg (by omega)]; exact h3 j (by omega)
  · rw [val_set _ (by omega), h3 i (Nat.le_refl _), Int.sub_zero, Int.add_mul, h4, Int.mul_right_comm, d5, val_take_next, pw_succ]
    rw [Int.add_mul (u.getD i 0 - u.getD i 0 % 2 ^ s), Int.sub_mul (u.getD i 0), Int.mul_assoc 4294967296]
    have e : u.getD (i + 1) 0 % 2 ^ s * (4294967296 * pw i) = 4294967296 * (u.getD (i + 1) 0 % 2 ^ s * pw i) := Int.mul_left_comm _ _ _
    omega
theorem low_mod {u : List Int} {s : Nat} (hs : s < 32) : val u % 2 ^ s = u.getD 0 0 % 2 ^ s := by
  cases u with
  | nil => simp [val_nil]
  | cons x r =>
    have hB := two_split (u := s) (by omega)
    rw [val_cons, hB, Int.mul_assoc, Int.add_mul_emod_self_left]
    rfl
/-- Behind all limbs: divided by the power, rounded down. -/
theorem DownInv.last {u : List Int} {s n : Nat} {r : List Int} (hu : Limbs u) (hs : s < 32) (h : DownInv u s n n r) (hlt : val u < pw n) (hz : u.getD n 0 = 0) : val r = val u / 2 ^ s := by
  obtain ⟨h1, h2, h3, h4⟩ := h
  have p1 := two_pos s
  rw [hz, Int.zero_emod, Int.zero_mul, Int.add_zero, val_take_of_lt hu hlt, ← low_mod hs] at h4
  have := Int.mul_ediv_add_emod (val u) (2 ^ s)
  have h5 : val r * 2 ^ s = (val u / 2 ^ s) * 2 ^ s := by rw [h4, Int.mul_comm (val u / 2 ^ s)]; omega
  exact Int.eq_of_mul_eq_mul_right (by omega) h5

/-! ### the highest limb -/
theorem Lead_F {x : Nat} (hx : x < 4294967296) : bits_LeadingZeros32.F ((x : Int), ()) = some ((32 : Int) - blen x, ()) := by
  have hb : blen x ≤ 32 := by
    by_cases h0 : x = 0
    · subst h0; decide
    · obtain ⟨t, h1, h2, h3⟩ := blen_spec h0
      by_cases ht : t < 32
      · omega
      · have := Nat.pow_le_pow_right (n := 2) (by decide) (show 32 ≤ t by omega)
        omega
  refine bits_LeadingZeros32.of 0 x ?_
  simp (disch := omega) only [c_dec, c_beq, c_bne, c_and, c_or, c_not, blt_dec, up1, dn1, if_t, if_f, if_true, if_false, Int.toNat_natCast, Option.bind_some, ne_eq, not_true_eq_false, not_false_eq_true, true_and, and_true, bits_LeadingZeros32.e, Len32_F hx, IntWalk.i64_in]
theorem lead_spec {x : Int} (hx : 0 < x ∧ x < 4294967296) : ∃ s : Nat, s < 32 ∧ bits_LeadingZeros32.F (x, ()) = some ((s : Int), ()) ∧ 2147483648 ≤ x * 2 ^ s ∧ (x + 1) * 2 ^ s ≤ 4294967296 := by
  obtain ⟨n, rfl⟩ := Int.eq_ofNat_of_zero_le (Int.le_of_lt hx.1)
  obtain ⟨t, h1, h2, h3⟩ := blen_spec (n := n) (by omega)
  have ht : t < 32 := by
    by_cases ht : t < 32
    · exact ht
    · have := Nat.pow_le_pow_right (n := 2) (by decide) (show 32 ≤ t by omega)
      omega
  refine ⟨31 - t, by omega, ?_, ?_, ?_⟩
  · rw [Lead_F (by omega), h1]; congr 2; omega
  · have h4 : 2 ^ t * 2 ^ (31 - t) ≤ n * 2 ^ (31 - t) := Nat.mul_le_mul_right _ h2
    rw [← Nat.pow_add, show t + (31 - t) = 31 by omega] at h4
    have h5 : ((n * 2 ^ (31 - t) : Nat) : Int) = (n : Int) * 2 ^ (31 - t) := by push_cast; rfl
    rw [← h5]; omega
  · have h4 : (n + 1) * 2 ^ (31 - t) ≤ 2 ^ (t + 1) * 2 ^ (31 - t) := Nat.mul_le_mul_right _ h3
    rw [← Nat.pow_add, show t + 1 + (31 - t) = 32 by omega] at h4
    have h5 : (((n + 1) * 2 ^ (31 - t) : Nat) : Int) = ((n : Int) + 1) * 2 ^ (31 - t) := by push_cast; rfl
    rw [← h5]; omega

theorem long_F {a b : List Int} (ha : Limbs a) (hb : Nrm b) (la : a.length < 70368744177664) (lb : 2 ≤ b.length) (hl : b.length ≤ a.length) : nat_long.F (a, b, ()) = some (canon (val a / val b), canon (val a % val b), ()) := by
  obtain ⟨m, hm⟩ : ∃ m, b.length = m + 2 := ⟨b.length - 2, by omega⟩
  have gx := hb.1.get (m + 1)
  have hx0 : b.getD (m + 1) 0 ≠ 0 := by
    have := hb.2.resolve_left (by omega)
    rwa [hm] at this
  obtain ⟨s, hs, hF, hlo, hhi⟩ := lead_spec (x := b.getD (m + 1) 0) (by omega)
  have p1 := two_pos s
  have pm := pw_pos (m + 1)
  obtain ⟨v0, hv1, hv2, hv3, hv4⟩ := moved_F (up := s) hb.1 (by omega) hs
  obtain ⟨u0, hu1, hu2, hu3, hu4⟩ := moved_F (up := s) ha la hs
  -- the divisor, its highest limb great
  have eb := val_take_succ (a := b) (i := m + 1) (by omega)
  rw [show m + 1 + 1 = b.length by omega, List.take_length] at eb
  have hbt := val_lt (hb.1.take (m + 1))
  have hb0 := val_nonneg (hb.1.take (m + 1))
  rw [show (b.take (m + 1)).length = m + 1 by simp; omega] at hbt
  have hVlt : val v0 < pw (m + 2) := by
    rw [hv4]
    have h1 : val b * 2 ^ s < (b.getD (m + 1) 0 + 1) * pw (m + 1) * 2 ^ s := Int.mul_lt_mul_of_pos_right (by rw [Int.add_mul, Int.one_mul]; omega) p1
    have h2 : (b.getD (m + 1) 0 + 1) * 2 ^ s * pw (m + 1) ≤ 4294967296 * pw (m + 1) := Int.mul_le_mul_of_nonneg_right hhi (by omega)
    rw [Int.mul_right_comm] at h1
    rw [pw_succ (m + 1)]; omega
  have hvL := hv2.take (m + 2)
  have hvl : (v0.take (m + 2)).length = m + 2 := by simp; omega
  have hvV := val_take_of_lt hv2 hVlt
  have hV : val (v0.take (m + 2)) = val b * 2 ^ s := by rw [hvV, hv4]
  generalize hvd : v0.take (m + 2) = v at hvL hvl hvV hV
  have ev := val_take_succ (a := v) (i := m + 1) (by omega)
  rw [show m + 1 + 1 = v.length by omega, List.take_length] at ev
  have hvt := val_lt (hvL.take (m + 1))
  have hv0 := val_nonneg (hvL.take (m + 1))
  rw [show (v.take (m + 1)).length = m + 1 by simp; omega] at hvt
  have hn : 2147483648 ≤ v.getD (m + 1) 0 := by
    have h1 : b.getD (m + 1) 0 * pw (m + 1) * 2 ^ s ≤ val b * 2 ^ s := Int.mul_le_mul_of_nonneg_right (by omega) (Int.le_of_lt p1)
    have h2 : 2147483648 * pw (m + 1) ≤ b.getD (m + 1) 0 * 2 ^ s * pw (m + 1) := Int.mul_le_mul_of_nonneg_right hlo (by omega)
    rw [Int.mul_right_comm] at h1
    by_cases hc : 2147483648 ≤ v.getD (m + 1) 0
    · exact hc
    · exfalso
      have : v.getD (m + 1) 0 * pw (m + 1) ≤ 2147483647 * pw (m + 1) := Int.mul_le_mul_of_nonneg_right (by omega) (by omega)
      omega
  have hVp : 2147483648 * pw (m + 1) ≤ val v := by
    have : 2147483648 * pw (m + 1) ≤ v.getD (m + 1) 0 * pw (m + 1) := Int.mul_le_mul_of_nonneg_right hn (by omega)
    omega
  have hV0 : 0 < val v := by omega
  have hVlt' : val v < pw (m + 2) := by rw [hvV]; exact hVlt
  -- what is divided: its highest limbs are below the divisor
  have hul : val (u0.drop (a.length + 1 - (m + 2))) < val v := by
    have e1 := val_take_drop (u0.drop (a.length + 1 - (m + 2))) (m + 1) (by simp; omega)
    rw [List.drop_drop, show a.length + 1 - (m + 2) + (m + 1) = a.length by omega] at e1
    have e2 := val_take_drop u0 a.length (by omega)
    have h1 := val_lt ((hu2.drop (a.length + 1 - (m + 2))).take (m + 1))
    rw [show ((u0.drop (a.length + 1 - (m + 2))).take (m + 1)).length = m + 1 by simp; omega] at h1
    have h2 := val_nonneg (hu2.take a.length)
    have h3 := val_lt ha
    have pa := pw_pos a.length
    have h4 : val a * 2 ^ s < pw a.length * 2 ^ s := Int.mul_lt_mul_of_pos_right h3 p1
    have h5 : val (u0.drop a.length) < 2 ^ s := by
      have : pw a.length * val (u0.drop a.length) < pw a.length * 2 ^ s := by omega
      exact Int.lt_of_mul_lt_mul_left this (Int.le_of_lt pa)
    have h6 : (2 : Int) ^ s ≤ 2147483648 := by
      have : (2 : Nat) ^ s ≤ 2 ^ 31 := Nat.pow_le_pow_right (by decide) (by omega)
      have h := two_nat s
      omega
    have h7 : pw (m + 1) * val (u0.drop a.length) ≤ pw (m + 1) * 2147483647 := Int.mul_le_mul_of_nonneg_left (by omega) (by omega)
    omega
  -- behind the digits: what is left is moved down again
  have down : ∀ u q : List Int, Limbs u → u.length = a.length + 1 → Limbs q → q.length ≤ a.length → val u < val v → val u + val q * val v = val a * 2 ^ s →
      ∃ j, ∀ k, nat_long.L12 (k + j) (s : Int) u q (List.replicate (m + 2) 0) ((m + 2 : Nat) : Int) 0 = some (canon (val a / val b), canon (val a % val b), ()) := by
    intro u q hu lu hq lq hlt he
    have hd := div_unique (x := val a * 2 ^ s) (q := val q) (b := val v) (r := val u) (by omega) (val_nonneg hu) hlt
    rw [hV, Int.mul_comm (val a), Int.mul_comm (val b), Int.mul_ediv_mul_of_pos _ _ p1, Int.mul_emod_mul_of_pos _ _ p1] at hd
    have hun : u.getD (m + 2) 0 = 0 := by
      have e1 := val_take_drop u (m + 2) (by omega)
      have e2 := val_nonneg (hu.take (m + 2))
      have e3 := val_nonneg (hu.drop (m + 2))
      have e4 : val (u.drop (m + 2)) = 0 := by
        by_cases h0 : val (u.drop (m + 2)) = 0
        · exact h0
        · have : pw (m + 2) * 1 ≤ pw (m + 2) * val (u.drop (m + 2)) := Int.mul_le_mul_of_nonneg_left (by omega) (Int.le_of_lt (pw_pos _))
          omega
      by_cases h5 : m + 2 < u.length
      · rw [n_drop_next h5, val_cons] at e4
        have := hu.get (m + 2)
        have := val_nonneg (hu.drop (m + 2 + 1))
        omega
      · exact getD_out (by omega)
    refine up (fun k (x : Nat × List Int) => nat_long.L12 k (s : Int) u q x.2 ((m + 2 : Nat) : Int) (x.1 : Int)) _ (fun i r => DownInv u s (m + 2) i r) (m + 2) (fun i r hi hr => ?_) (fun r hr => ?_) 0 _ (Nat.zero_le _) DownInv.start
    · have hnx := hr.next hu hs hi
      obtain ⟨h1, h2, h3, h4⟩ := hr
      have g1 := hu.get i
      have g2 := hu.get (i + 1)
      obtain ⟨d0, d1, d2, d3, d4, d5⟩ := down_limb g1 g2 hs
      have p2 := two_pos (32 - s)
      have e1 : shrI .u32 (u.getD i 0) (s : Int) = u.getD i 0 / 2 ^ s := shr32 _ s (by omega)
      have e2 : (32 : Int) - (s : Int) = ((32 - s : Nat) : Int) := by omega
      have e3 : IntKind.u32.wrap (shlI .u64 (u.getD (i + 1) 0) ((32 - s : Nat) : Int)) = 2 ^ (32 - s) * (u.getD (i + 1) 0 % 2 ^ s) := by
        rw [shl_eq .u64 _ (32 - s) (by show 32 - s ≤ 64; omega), w64, w32, ← d0, Int.emod_emod_of_dvd _ (by decide)]
      have e4 : bitsOp .or .u32 (u.getD i 0 / 2 ^ s) (2 ^ (32 - s) * (u.getD (i + 1) 0 % 2 ^ s)) = 2 ^ (32 - s) * (u.getD (i + 1) 0 % 2 ^ s) + u.getD i 0 / 2 ^ s := or32_add' (32 - s) (u.getD (i + 1) 0 % 2 ^ s) rfl d1 ⟨d2, d3⟩ d4
      refine ⟨_, hnx, 1, fun k => ?_⟩
      simp (disch := omega) only [c_dec, c_beq, c_bne, c_and, c_or, c_not, blt_dec, up1, dn1, if_t, if_f, if_true, if_false, Int.toNat_natCast, Option.bind_some, ne_eq, not_true_eq_false, not_false_eq_true, true_and, and_true, nat_long.L12_succ, nat_long.b12, e1, e2, e3, e4, IntWalk.i64_in, IntWalk.u64_in]
      rw [show (i : Int) + 1 = ((i + 1 : Nat) : Int) by omega]
      simp (disch := omega) only [c_dec, c_beq, c_bne, c_and, c_or, c_not, blt_dec, up1, dn1, if_t, if_f, if_true, if_false, Int.toNat_natCast, Option.bind_some, ne_eq, not_true_eq_false, not_false_eq_true, true_and, and_true, IntWalk.u64_in, e3, e4]
    · have hrv := hr.last hu hs (by omega) hun
      obtain ⟨h1, h2, h3, h4⟩ := hr
      have e5 : val r = val a % val b := by
        rw [hrv, ← hd.2, Int.mul_ediv_cancel_left _ (by omega)]
      refine ⟨1, fun k => ?_⟩
      simp (disch := omega) only [c_dec, c_beq, c_bne, c_and, c_or, c_not, blt_dec, up1, dn1, if_t, if_f, if_true, if_false, Int.toNat_natCast, Option.bind_some, ne_eq, not_true_eq_false, not_false_eq_true, true_and, and_true, nat_long.L12_succ, nat_long.b12, own_F hq (by omega), own_F h2 (by omega), e5, ← hd.1]
  -- digit by digit
  obtain ⟨j, hj⟩ := ends (fun k (x : Nat × List Int × List Int) => nat_long.L7 k (s : Int) v x.2.1 ((m + 2 : Nat) : Int) x.2.2 ((x.1 : Int) - 1)) (canon (val a / val b), canon (val a % val b), ())
    (fun x => x.2.1.length = a.length + 1 ∧ Limbs x.2.1 ∧ x.2.2.length = a.length + 1 - (m + 2) ∧ Limbs x.2.2 ∧ x.1 ≤ a.length + 1 - (m + 2) ∧ (∀ j, j < x.1 → x.2.2.getD j 0 = 0) ∧ val x.2.1 + val x.2.2 * val v = val a * 2 ^ s ∧ val (x.2.1.drop x.1) < val v) (fun x => x.1) (fun x hx => by
      obtain ⟨K, u, q⟩ := x
      obtain ⟨h1, h2, h3, h4, h5, h6, h7, h8⟩ := hx
      simp only at h1 h2 h3 h4 h5 h6 h7 h8
      rcases K with _ | k
      · obtain ⟨j, hj⟩ := down u q h2 h1 h4 (by omega) (by simpa using h8) h7
        refine .inr ⟨j + 1, fun k => ?_⟩
        rw [← Nat.add_assoc]
        simp (disch := omega) only [c_dec, c_beq, c_bne, c_and, c_or, c_not, blt_dec, up1, dn1, if_t, if_f, if_true, if_false, Int.toNat_natCast, Option.bind_some, ne_eq, not_true_eq_false, not_false_eq_true, true_and, and_true, nat_long.L7_succ, nat_long.b7, sub0]
        exact hj k
      · have hk : k < u.length := by omega
        have gu := h2.get k
        have hd := n_drop_next hk
        have hdl : Limbs (u.drop k) := h2.drop k
        have hvd : val (u.drop k) = u.getD k 0 + 4294967296 * val (u.drop (k + 1)) := by rw [hd, val_cons]
        have hp3 : pw (m + 3) = 4294967296 * pw (m + 2) := pw_succ (m + 2)
        have hsub := val_take_of_lt (n := m + 3) hdl (by omega)
        have hsl : ((u.drop k).take (m + 3)).length = m + 3 := by simp; omega
        have hsL := hdl.take (m + 3)
        have hparts : u = u.take k ++ (u.drop k).take (m + 3) ++ u.drop (k + (m + 3)) := by
          rw [List.append_assoc, ← List.drop_drop, List.take_append_drop, List.take_append_drop]
        have hpl : (u.take k).length = k := by simp; omega
        have hpost : val (u.drop (k + (m + 3))) = 0 := by
          have e1 := val_take_drop (u.drop k) (m + 3) (by simp; omega)
          rw [hsub, List.drop_drop] at e1
          have := pw_pos (m + 3)
          have e2 : pw (m + 3) * val (u.drop (k + (m + 3))) = 0 := by omega
          rcases Int.mul_eq_zero.1 e2 with h | h
          · omega
          · exact h
        have hD := digit_F (pre := u.take k) (u := (u.drop k).take (m + 3)) (post := u.drop (k + (m + 3))) hsL hvL hvl hsl (by omega) hn (by rw [hsub]; omega)
        rw [← hparts, hpl, hsub] at hD
        have hr0 := Int.emod_nonneg (val (u.drop k)) (b := val v) (by omega)
        have hr1 := Int.emod_lt_of_pos (val (u.drop k)) hV0
        have hdm := Int.mul_ediv_add_emod (val (u.drop k)) (val v)
        have hd0 := Int.ediv_nonneg (val_nonneg hdl) (Int.le_of_lt hV0)
        have hd1 : val (u.drop k) / val v < 4294967296 := by rw [Int.ediv_lt_iff_lt_mul hV0]; omega
        obtain ⟨w1, w2, w3⟩ := pad_spec (m + 3) (val (u.drop k) % val v) hr0 (by omega)
        generalize hQ : val (u.drop k) / val v = d at hD hd0 hd1 hdm
        generalize hR : val (u.drop k) % val v = r at hD hr0 hr1 hdm w1 w2 w3
        have hlen' : (u.take k ++ pad (m + 3) r ++ u.drop (k + (m + 3))).length = a.length + 1 := by
          rw [List.length_append, List.length_append, hpl, w2, List.length_drop]; omega
        have ev1 : val u = val (u.take k) + pw k * val (u.drop k) := val_take_drop u k (by omega)
        have ev2 : val (u.take k ++ pad (m + 3) r ++ u.drop (k + (m + 3))) = val (u.take k) + pw k * r := by
          rw [List.append_assoc, val_append, val_append, w3, hpost, hpl]; simp
        have ev3 : val ((u.take k ++ pad (m + 3) r ++ u.drop (k + (m + 3))).drop k) = r := by
          rw [List.append_assoc, List.drop_append_of_le_length (by omega), List.drop_of_length_le (by omega), List.nil_append, val_append, w3, hpost]; simp
        have e1 : ((k + 1 : Nat) : Int) - 1 = (k : Int) := sub1 k
        have e2 : (k : Int) + ((m + 2 : Nat) : Int) + 1 = ((k + (m + 3) : Nat) : Int) := by omega
        have e3 : ((k + (m + 3) : Nat) : Int) - (k : Int) = ((m + 3 : Nat) : Int) := by omega
        have hlen2 : Nat.beq (u.take k ++ pad (m + 3) r ++ u.drop (k + (m + 3))).length u.length = true := by
          rw [hlen', h1]; exact Nat.beq_refl _
        refine .inl ⟨(k, u.take k ++ pad (m + 3) r ++ u.drop (k + (m + 3)), q.set k d), ⟨hlen', ((h2.take k).app w1).app (h2.drop _), by simpa using h3, h4.set k ⟨hd0, hd1⟩, by simp only; omega, fun j hj => ?_, ?_, ?_⟩, Nat.lt_succ_self k, 1, fun i => ?_⟩
        · simp only at hj ⊢
          rw [getD_set (by omega), if_neg (by omega)]; exact h6 j (by omega)
        · simp only
          rw [ev2, val_set d (by omega), h6 k (Nat.lt_succ_self k), Int.sub_zero, Int.add_mul, Int.mul_right_comm, Int.mul_comm d (val v)]
          have e4 : pw k * val (u.drop k) = val v * d * pw k + pw k * r := by rw [← hdm, Int.mul_add, Int.mul_comm (pw k) (val v * d)]
          omega
        · simp only
          rw [ev3]; exact hr1
        · simp (disch := omega) only [c_dec, c_beq, c_bne, c_and, c_or, c_not, blt_dec, up1, dn1, if_t, if_f, if_true, if_false, Int.toNat_natCast, Option.bind_some, ne_eq, not_true_eq_false, not_false_eq_true, true_and, and_true, nat_long.L7_succ, nat_long.b7, e1, e2, e3, IntWalk.i64_in, cond_true, hD, hlen2]) (a.length + 1 - (m + 2), u0, List.replicate (a.length + 1 - (m + 2)) 0) ⟨hu3, hu2, by simp, Limbs.zeros _, Nat.le_refl _, fun j _ => getD_zeros _ _, by simp only; rw [val_zeros, hu4]; omega, hul⟩
  refine nat_long.of (0 + j) a b ?_
  have e1 : ((m + 2 : Nat) : Int) - 1 = ((m + 1 : Nat) : Int) := by omega
  have e2 : ((a.length + 1 : Nat) : Int) - ((m + 2 : Nat) : Int) = ((a.length + 1 - (m + 2) : Nat) : Int) := by omega
  simp (disch := omega) only [c_dec, c_beq, c_bne, c_and, c_or, c_not, blt_dec, up1, dn1, if_t, if_f, if_true, if_false, Int.toNat_natCast, Option.bind_some, ne_eq, not_true_eq_false, not_false_eq_true, true_and, and_true, nat_long.e, hm, e1, IntWalk.i64_in, hF, hv1, hu1, hvd, hvl, hu3, hv3, e2]
  exact hj 0

/-! ### Div -/
def divI (x y : Int) : List Int × List Int × Int × Unit := if y = 0 then ([], [], 11, ()) else (canon (x / y), canon (x % y), 0, ())
theorem Div_F {a b : List Int} (ha : Limbs a) (hb : Limbs b) (la : a.length < 70368744177664) (lb : b.length < 70368744177664) : nat_Div.F (a, b, ()) = some (divI (val a) (val b)) := by
  have ca := canon_nrm (val a)
  have cb := canon_nrm (val b)
  have ha0 := val_nonneg ha
  have hb0 := val_nonneg hb
  have va := val_canon ha0
  have vb := val_canon hb0
  have na := canon_val_len ha
  have nb := canon_val_len hb
  have hz := canon_len_zero hb0
  refine nat_Div.of 0 a b ?_
  simp only [nat_Div.e, trim_F ha (Nat.le_of_lt la), trim_F hb (Nat.le_of_lt lb), Option.bind_some]
  unfold divI
  by_cases h0 : val b = 0
  · have := hz.2 h0
    rw [if_pos h0]
    simp (disch := omega) only [c_dec, c_beq, c_bne, c_and, c_or, c_not, blt_dec, up1, dn1, if_t, if_f, if_true, if_false, Int.toNat_natCast, Option.bind_some, ne_eq, not_true_eq_false, not_false_eq_true, true_and, and_true]
  · have h1 : (canon (val b)).length ≠ 0 := fun h => h0 (hz.1 h)
    rw [if_neg h0]
    have hC := Cmp_F ca.1 cb.1 (by omega) (by omega)
    rw [va, vb] at hC
    by_cases hlt : val a < val b
    · have hO := own_F ca.1 (by omega)
      rw [va] at hO
      simp (disch := omega) only [c_dec, c_beq, c_bne, c_and, c_or, c_not, blt_dec, up1, dn1, if_t, if_f, if_true, if_false, Int.toNat_natCast, Option.bind_some, ne_eq, not_true_eq_false, not_false_eq_true, true_and, and_true, hC, cmpI_lt hlt, hO]
      rw [Int.ediv_eq_zero_of_lt ha0 hlt, Int.emod_eq_of_lt ha0 hlt, canon_zero]
    · have hc : 0 ≤ cmpI (val a) (val b) := by unfold cmpI; rw [if_neg hlt]; split <;> decide
      by_cases h2 : (canon (val b)).length = 1
      · obtain ⟨y, hy⟩ : ∃ y, canon (val b) = [y] := by
          match hcb : canon (val b), h2 with
          | [y], _ => exact ⟨y, rfl⟩
        have hyv : y = val b := by rw [← vb, hy, val1]
        have hyl : 0 < y ∧ y < 4294967296 := by
          have := cb.1.get 0
          rw [hy] at this
          simp at this
          omega
        obtain ⟨q, q1, q2, q3, q4⟩ := short_F (b := y) ca.1 (by omega) hyl
        rw [va] at q1 q4
        have hr0 := Int.emod_nonneg (val a) (b := y) (by omega)
        have hr1 := Int.emod_lt_of_pos (val a) (b := y) (by omega)
        have hO1 := own_F q2 (by omega)
        have hO2 := own_F (limbs1 (x := val a % y) (by omega)) (by simp)
        rw [q4] at hO1
        rw [val1] at hO2
        rw [hy] at hC ⊢
        simp (disch := omega) only [c_dec, c_beq, c_bne, c_and, c_or, c_not, blt_dec, up1, dn1, if_t, if_f, if_true, if_false, Int.toNat_natCast, Option.bind_some, ne_eq, not_true_eq_false, not_false_eq_true, true_and, and_true, hC, List.length_cons, List.length_nil, show List.getD [y] (Int.toNat 0) 0 = y from rfl, q1, hO1, hO2]
        rw [hyv]
      · have hle : (canon (val b)).length ≤ (canon (val a)).length := by
          by_cases hh : (canon (val b)).length ≤ (canon (val a)).length
          · exact hh
          · exfalso
            have h3 := canon_len_lt ha0
            have h4 := nrm_pos cb h1
            have h5 := pw_mono (m := (canon (val a)).length) (n := (canon (val b)).length - 1) (by omega)
            omega
        have hL := long_F ca.1 cb (by omega) (by omega) hle
        rw [va, vb] at hL
        simp (disch := omega) only [c_dec, c_beq, c_bne, c_and, c_or, c_not, blt_dec, up1, dn1, if_t, if_f, if_true, if_false, Int.toNat_natCast, Option.bind_some, ne_eq, not_true_eq_false, not_false_eq_true, true_and, and_true, hC, hL]
end Go.Fx.Try
