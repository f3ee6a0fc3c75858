/- long and Div. -/
import Derived.Test.YtjhbcpnliiegoaaNB
namespace Go.Fx.Try
open Go Go.Fx Go.Fx.Num
set_option linter.unusedVariables false
set_option linter.unusedSimpArgs false
/-- What moving down keeps: i limbs are done. -/
def DownInv (u : List Int) (s n i : Nat) (r : List Int) : Prop :=
  r.length = n ∧ Limbs r ∧ (∀ j, i ≤ j → r.getD j 0 = 0) ∧ val r * 2 ^ s = val (u.take i) - u.getD 0 0 % 2 ^ s + (u.getD i 0 % 2 ^ s) * pw i
theorem DownInv.start {u : List Int} {s n : Nat} : DownInv u s n 0 (List.replicate n 0) :=
  ⟨by simp, Limbs.zeros _, fun j _ => getD_zeros _ _, by rw [val_zeros, List.take_zero, val_nil, pw_zero]; omega⟩
theorem down_limb {x y : Int} {s : Nat} (hx : 0 ≤ x ∧ x < 4294967296) (hy : 0 ≤ y ∧ y < 4294967296) (hs : s < 32) :
    (y * 2 ^ (32 - s)) % 4294967296 = 2 ^ (32 - s) * (y % 2 ^ s) ∧ 0 ≤ y % 2 ^ s ∧ 0 ≤ x / 2 ^ s ∧ x / 2 ^ s < 2 ^ (32 - s) ∧ 2 ^ (32 - s) * (y % 2 ^ s) + x / 2 ^ s < 4294967296 ∧ (2 ^ (32 - s) * (y % 2 ^ s) + x / 2 ^ s) * 2 ^ s = x - x % 2 ^ s + 4294967296 * (y % 2 ^ s) := by
  have hB := two_split (u := s) (by omega)
  have p1 := two_pos s
  have p2 := two_pos (32 - s)
  have hm0 := Int.emod_nonneg y (b := 2 ^ s) (by omega)
  have hm1 := Int.emod_lt_of_pos y p1
  have hd0 := Int.ediv_nonneg hx.1 (Int.le_of_lt p1)
  have hd1 : x / 2 ^ s < 2 ^ (32 - s) := by rw [Int.ediv_lt_iff_lt_mul p1, Int.mul_comm, ← hB]; exact hx.2
  have h8 : 2 ^ (32 - s) * (y % 2 ^ s) ≤ 2 ^ (32 - s) * (2 ^ s - 1) := Int.mul_le_mul_of_nonneg_left (by omega) (Int.le_of_lt p2)
  rw [Int.mul_sub, Int.mul_comm (2 ^ (32 - s)) (2 ^ s), ← hB, Int.mul_one] at h8
  have hxx := Int.mul_ediv_add_emod x (2 ^ s)
  refine ⟨?_, hm0, hd0, hd1, by omega, ?_⟩
  · rw [hB, Int.mul_comm y, Int.mul_comm (2 ^ s) (2 ^ (32 - s)), Int.mul_emod_mul_of_pos _ _ p2]
  · rw [Int.add_mul, Int.mul_right_comm, Int.mul_comm (2 ^ (32 - s)) (2 ^ s), ← hB, Int.mul_comm (x / 2 ^ s)]; omega
theorem DownInv.next {u : List Int} {s n i : Nat} {r : List Int} (hu : Limbs u) (hs : s < 32) (hi : i < n) (h : DownInv u s n i r) :
    DownInv u s n (i + 1) (r.set i (2 ^ (32 - s) * (u.getD (i + 1) 0 % 2 ^ s) + u.getD i 0 / 2 ^ s)) := by
  obtain ⟨h1, h2, h3, h4⟩ := h
  obtain ⟨_, d1, d2, d3, d4, d5⟩ := down_limb (hu.get i) (hu.get (i + 1)) hs
  have p2 := two_pos (32 - s)
  have := Int.mul_nonneg (Int.le_of_lt p2) d1
  refine ⟨by simpa using h1, h2.set i (by omega), fun j hj => ?_, ?_⟩
  · rw [getD_set (by omega), if_neg (by omega)]; exact h3 j (by omega)
  · rw [val_set _ (by omega), h3 i (Nat.le_refl _), Int.sub_zero, Int.add_mul, h4, Int.mul_right_comm, d5, val_take_next, pw_succ]
    rw [Int.add_mul (u.getD i 0 - u.getD i 0 % 2 ^ s), Int.sub_mul (u.getD i 0), Int.mul_assoc 4294967296]
    have e : u.getD (i + 1) 0 % 2 ^ s * (4294967296 * pw i) = 4294967296 * (u.getD (i + 1) 0 % 2 ^ s * pw i) := Int.mul_left_comm _ _ _
    omega
theorem low_mod {u : List Int} {s : Nat} (hs : s < 32) : val u % 2 ^ s = u.getD 0 0 % 2 ^ s := by
  cases u with
  | nil => simp [val_nil]
  | cons x r =>
    have hB := two_split (u := s) (by omega)
    rw [val_cons, hB, Int.mul_assoc, Int.add_mul_emod_self_left]
    rfl
/-- Behind all limbs: divided by the power, rounded down. -/
theorem DownInv.last {u : List Int} {s n : Nat} {r : List Int} (hu : Limbs u) (hs : s < 32) (h : DownInv u s n n r) (hlt : val u < pw n) (hz : u.getD n 0 = 0) : val r = val u / 2 ^ s := by
  obtain ⟨h1, h2, h3, h4⟩ := h
  have p1 := two_pos s
  rw [hz, Int.zero_emod, Int.zero_mul, Int.add_zero, val_take_of_lt hu hlt, ← low_mod hs] at h4
  have := Int.mul_ediv_add_emod (val u) (2 ^ s)
  have h5 : val r * 2 ^ s = (val u / 2 ^ s) * 2 ^ s := by rw [h4, Int.mul_comm (val u / 2 ^ s)]; omega
  exact Int.eq_of_mul_eq_mul_right (by omega) h5
theorem Lead_F {x : Nat} (hx : x < 4294967296) : bits_LeadingZeros32.F ((x : Int), ()) = some ((32 : Int) - blen x, ()) := by
  have hb : blen x ≤ 32 := by
    by_cases h0 : x = 0
    · subst h0; decide
    · obtain ⟨t, h1, h2, h3⟩ := blen_spec h0
      by_cases ht : t < 32
      · omega
      · have := Nat.pow_le_pow_right (n := 2) (by decide) (show 32 ≤ t by omega)
        omega
  refine bits_LeadingZeros32.of 0 x ?_
  simp (disch := omega) only [c_dec, c_beq, c_bne, c_and, c_or, c_not, blt_dec, up1, dn1, if_t, if_f, if_true, if_false, Int.toNat_natCast, Option.bind_some, ne_eq, not_true_eq_false, not_false_eq_true, true_and, and_true, bits_LeadingZeros32.e, Len32_F hx, IntWalk.i64_in]
theorem lead_spec {x : Int} (hx : 0 < x ∧ x < 4294967296) : ∃ s : Nat, s < 32 ∧ bits_LeadingZeros32.F (x, ()) = some ((s : Int), ()) ∧ 2147483648 ≤ x * 2 ^ s ∧ (x + 1) * 2 ^ s ≤ 4294967296 := by
  obtain ⟨n, rfl⟩ := Int.eq_ofNat_of_zero_le (Int.le_of_lt hx.1)
  obtain ⟨t, h1, h2, h3⟩ := blen_spec (n := n) (by omega)
  have ht : t < 32 := by
    by_cases ht : t < 32
    · exact ht
    · have := Nat.pow_le_pow_right (n := 2) (by decide) (show 32 ≤ t by omega)
      omega
  refine ⟨31 - t, by omega, ?_, ?_, ?_⟩
  · rw [Lead_F (by omega), h1]; congr 2; omega
  · have h4 : 2 ^ t * 2 ^ (31 - t) ≤ n * 2 ^ (31 - t) := Nat.mul_le_mul_right _ h2
    rw [← Nat.pow_add, show t + (31 - t) = 31 by omega] at h4
    have h5 : ((n * 2 ^ (31 - t) : Nat) : Int) = (n : Int) * 2 ^ (31 - t) := by push_cast; rfl
    rw [← h5]; omega
  · have h4 : (n + 1) * 2 ^ (31 - t) ≤ 2 ^ (t + 1) * 2 ^ (31 - t) := Nat.mul_le_mul_right _ h3
    rw [← Nat.pow_add, show t + 1 + (31 - t) = 32 by omega] at h4
    have h5 : (((n + 1) * 2 ^ (31 - t) : Nat) : Int) = ((n : Int) + 1) * 2 ^ (31 - t) := by push_cast; rfl
    rw [← h5]; omega
theorem long_F {a b : List Int} (ha : Limbs a) (hb : Nrm b) (la : a.length < 70368744177664) (lb : 2 ≤ b.length) (hl : b.length ≤ a.length) : nat_long.F (a, b, ()) = some (canon (val a / val b), canon (val a % val b), ()) := by
  obtain ⟨m, hm⟩ : ∃ m, b.length = m + 2 := ⟨b.length - 2, by omega⟩
  have gx := hb.1.get (m + 1)
  have hx0 : b.getD (m + 1) 0 ≠ 0 := by
    have := hb.2.resolve_left (by omega)
    rwa [hm] at this
  obtain ⟨s, hs, hF, hlo, hhi⟩ := lead_spec (x := b.getD (m + 1) 0) (by omega)
  have p1 := two_pos s
  have pm := pw_pos (m + 1)
  obtain ⟨v0, hv1, hv2, hv3, hv4⟩ := moved_F (up := s) hb.1 (by omega) hs
  obtain ⟨u0, hu1, hu2, hu3, hu4⟩ := moved_F (up := s) ha la hs
  -- the divisor, its highest limb great
  have eb := val_take_succ (a := b) (i := m + 1) (by omega)
  rw [show m + 1 + 1 = b.length by omega, List.take_length] at eb
  have hbt := val_lt (hb.1.take (m + 1))
  have hb0 := val_nonneg (hb.1.take (m + 1))
  rw [show (b.take (m + 1)).length = m + 1 by simp; omega] at hbt
  have hVlt : val v0 < pw (m + 2) := by
    rw [hv4]
    have h1 : val b * 2 ^ s < (b.getD (m + 1) 0 + 1) * pw (m + 1) * 2 ^ s := Int.mul_lt_mul_of_pos_right (by rw [Int.add_mul, Int.one_mul]; omega) p1
    have h2 : (b.getD (m + 1) 0 + 1) * 2 ^ s * pw (m + 1) ≤ 4294967296 * pw (m + 1) := Int.mul_le_mul_of_nonneg_right hhi (by omega)
    rw [Int.mul_right_comm] at h1
    rw [pw_succ (m + 1)]; omega
  have hvL := hv2.take (m + 2)
  have hvl : (v0.take (m + 2)).length = m + 2 := by simp; omega
  have hvV := val_take_of_lt hv2 hVlt
  have hV : val (v0.take (m + 2)) = val b * 2 ^ s := by rw [hvV, hv4]
  generalize hvd : v0.take (m + 2) = v at hvL hvl hvV hV
  have ev := val_take_succ (a := v) (i := m + 1) (by omega)
  rw [show m + 1 + 1 = v.length by omega, List.take_length] at ev
  have hvt := val_lt (hvL.take (m + 1))
  have hv0 := val_nonneg (hvL.take (m + 1))
  rw [show (v.take (m + 1)).length = m + 1 by simp; omega] at hvt
  have hn : 2147483648 ≤ v.getD (m + 1) 0 := by
    have h1 : b.getD (m + 1) 0 * pw (m + 1) * 2 ^ s ≤ val b * 2 ^ s := Int.mul_le_mul_of_nonneg_right (by omega) (Int.le_of_lt p1)
    have h2 : 2147483648 * pw (m + 1) ≤ b.getD (m + 1) 0 * 2 ^ s * pw (m + 1) := Int.mul_le_mul_of_nonneg_right hlo (by omega)
    rw [Int.mul_right_comm] at h1
    by_cases hc : 2147483648 ≤ v.getD (m + 1) 0
    · exact hc
    · exfalso
      have : v.getD (m + 1) 0 * pw (m + 1) ≤ 2147483647 * pw (m + 1) := Int.mul_le_mul_of_nonneg_right (by omega) (by omega)
      omega
  have hVp : 2147483648 * pw (m + 1) ≤ val v := by
    have : 2147483648 * pw (m + 1) ≤ v.getD (m + 1) 0 * pw (m + 1) := Int.mul_le_mul_of_nonneg_right hn (by omega)
    omega
  have hV0 : 0 < val v := by omega
  have hVlt' : val v < pw (m + 2) := by rw [hvV]; exact hVlt
  -- what is divided: its highest limbs are below the divisor
  have hul : val (u0.drop (a.length + 1 - (m + 2))) < val v := by
    have e1 := val_take_drop (u0.drop (a.length + 1 - (m + 2))) (m + 1) (by simp; omega)
    rw [List.drop_drop, show a.length + 1 - (m + 2) + (m + 1) = a.length by omega] at e1
    have e2 := val_take_drop u0 a.length (by omega)
    have h1 := val_lt ((hu2.drop (a.length + 1 - (m + 2))).take (m + 1))
    rw [show ((u0.drop (a.length + 1 - (m + 2))).take (m + 1)).length = m + 1 by simp; omega] at h1
    have h2 := val_nonneg (hu2.take a.length)
    have h3 := val_lt ha
    have pa := pw_pos a.length
    have h4 : val a * 2 ^ s < pw a.length * 2 ^ s := Int.mul_lt_mul_of_pos_right h3 p1
    have h5 : val (u0.drop a.length) < 2 ^ s := by
      have : pw a.length * val (u0.drop a.length) < pw a.length * 2 ^ s := by omega
      exact Int.lt_of_mul_lt_mul_left this (Int.le_of_lt pa)
    have h6 : (2 : Int) ^ s ≤ 2147483648 := by
      have : (2 : Nat) ^ s ≤ 2 ^ 31 := Nat.pow_le_pow_right (by decide) (by omega)
      have h := two_nat s
      omega
    have h7 : pw (m + 1) * val (u0.drop a.length) ≤ pw (m + 1) * 2147483647 := Int.mul_le_mul_of_nonneg_left (by omega) (by omega)
    omega
  -- behind the digits: what is left is moved down again
  have down : ∀ u q : List Int, Limbs u → u.length = a.length + 1 → Limbs q → q.length ≤ a.length → val u < val v → val u + val q * val v = val a * 2 ^ s →
      ∃ j, ∀ k, nat_long.L12 (k + j) (s : Int) u q (List.replicate (m + 2) 0) ((m + 2 : Nat) : Int) 0 = some (canon (val a / val b), canon (val a % val b), ()) := by
    intro u q hu lu hq lq hlt he
    have hd := div_unique (x := val a * 2 ^ s) (q := val q) (b := val v) (r := val u) (by omega) (val_nonneg hu) hlt
    rw [hV, Int.mul_comm (val a), Int.mul_comm (val b), Int.mul_ediv_mul_of_pos _ _ p1, Int.mul_emod_mul_of_pos _ _ p1] at hd
    have hun : u.getD (m + 2) 0 = 0 := by
      have e1 := val_take_drop u (m + 2) (by omega)
      have e2 := val_nonneg (hu.take (m + 2))
      have e3 := val_nonneg (hu.drop (m + 2))
      have e4 : val (u.drop (m + 2)) = 0 := by
        by_cases h0 : val (u.drop (m + 2)) = 0
        · exact h0
        · have : pw (m + 2) * 1 ≤ pw (m + 2) * val (u.drop (m + 2)) := Int.mul_le_mul_of_nonneg_left (by omega) (Int.le_of_lt (pw_pos _))
          omega
      by_cases h5 : m + 2 < u.length
      · rw [n_drop_next h5, val_cons] at e4
        have := hu.get (m + 2)
        have := val_nonneg (hu.drop (m + 2 + 1))
        omega
      · exact getD_out (by omega)
    refine up (fun k (x : Nat × List Int) => nat_long.L12 k (s : Int) u q x.2 ((m + 2 : Nat) : Int) (x.1 : Int)) _ (fun i r => DownInv u s (m + 2) i r) (m + 2) (fun i r hi hr => ?_) (fun r hr => ?_) 0 _ (Nat.zero_le _) DownInv.start
    · have hnx := hr.next hu hs hi
      obtain ⟨h1, h2, h3, h4⟩ := hr
      have g1 := hu.get i
      have g2 := hu.get (i + 1)
      obtain ⟨d0, d1, d2, d3, d4, d5⟩ := down_limb g1 g2 hs
      have p2 := two_pos (32 - s)
      have e1 : shrI .u32 (u.getD i 0) (s : Int) = u.getD i 0 / 2 ^ s := shr32 _ s (by omega)
      have e2 : (32 : Int) - (s : Int) = ((32 - s : Nat) : Int) := by omega
      have e3 : IntKind.u32.wrap (shlI .u64 (u.getD (i + 1) 0) ((32 - s : Nat) : Int)) = 2 ^ (32 - s) * (u.getD (i + 1) 0 % 2 ^ s) := by
        rw [shl_eq .u64 _ (32 - s) (by show 32 - s ≤ 64; omega), w64, w32, ← d0, Int.emod_emod_of_dvd _ (by decide)]
      have e4 : bitsOp .or .u32 (u.getD i 0 / 2 ^ s) (2 ^ (32 - s) * (u.getD (i + 1) 0 % 2 ^ s)) = 2 ^ (32 - s) * (u.getD (i + 1) 0 % 2 ^ s) + u.getD i 0 / 2 ^ s := or32_add' (32 - s) (u.getD (i + 1) 0 % 2 ^ s) rfl d1 ⟨d2, d3⟩ d4
      refine ⟨_, hnx, 1, fun k => ?_⟩
      simp (disch := omega) only [c_dec, c_beq, c_bne, c_and, c_or, c_not, blt_dec, up1, dn1, if_t, if_f, if_true, if_false, Int.toNat_natCast, Option.bind_some, ne_eq, not_true_eq_false, not_false_eq_true, true_and, and_true, nat_long.L12_succ, nat_long.b12, e1, e2, e3, e4, IntWalk.i64_in, IntWalk.u64_in]
      rw [show (i : Int) + 1 = ((i + 1 : Nat) : Int) by omega]
      simp (disch := omega) only [c_dec, c_beq, c_bne, c_and, c_or, c_not, blt_dec, up1, dn1, if_t, if_f, if_true, if_false, Int.toNat_natCast, Option.bind_some, ne_eq, not_true_eq_false, not_false_eq_true, true_and, and_true, IntWalk.u64_in, e3, e4]
    · have hrv := hr.last hu hs (by omega) hun
      obtain ⟨h1, h2, h3, h4⟩ := hr
      have e5 : val r = val a % val b := by
        rw [hrv, ← hd.2, Int.mul_ediv_cancel_left _ (by omega)]
      refine ⟨1, fun k => ?_⟩
      simp (disch := omega) only [c_dec, c_beq, c_bne, c_and, c_or, c_not, blt_dec, up1, dn1, if_t, if_f, if_true, if_false, Int.toNat_natCast, Option.bind_some, ne_eq, not_true_eq_false, not_false_eq_true, true_and, and_true, nat_long.L12_succ, nat_long.b12, own_F hq (by omega), own_F h2 (by omega), e5, ← hd.1]
  -- digit by digit
  obtain ⟨j, hj⟩ := ends (fun k (x : Nat × List Int × List Int) => nat_long.L7 k (s : Int) v x.2.1 ((m + 2 : Nat) : Int) x.2.2 ((x.1 : Int) - 1)) (canon (val a / val b), canon (val a % val b), ())
    (fun x => x.2.1.length = a.length + 1 ∧ Limbs x.2.1 ∧ x.2.2.length = a.length + 1 - (m + 2) ∧ Limbs x.2.2 ∧ x.1 ≤ a.length + 1 - (m + 2) ∧ (∀ j, j < x.1 → x.2.2.getD j 0 = 0) ∧ val x.2.1 + val x.2.2 * val v = val a * 2 ^ s ∧ val (x.2.1.drop x.1) < val v) (fun x => x.1) (fun x hx => by
      obtain ⟨K, u, q⟩ := x
      obtain ⟨h1, h2, h3, h4, h5, h6, h7, h8⟩ := hx
      simp only at h1 h2 h3 h4 h5 h6 h7 h8
      rcases K with _ | k
      · obtain ⟨j, hj⟩ := down u q h2 h1 h4 (by omega) (by simpa using h8) h7
        refine .inr ⟨j + 1, fun k => ?_⟩
        rw [← Nat.add_assoc]
        simp (disch := omega) only [c_dec, c_beq, c_bne, c_and, c_or, c_not, blt_dec, up1, dn1, if_t, if_f, if_true, if_false, Int.toNat_natCast, Option.bind_some, ne_eq, not_true_eq_false, not_false_eq_true, true_and, and_true, nat_long.L7_succ, nat_long.b7, sub0]
        exact hj k
      · have hk : k < u.length := by omega
        have gu := h2.get k
        have hd := n_drop_next hk
        have hdl : Limbs (u.drop k) := h2.drop k
        have hvd : val (u.drop k) = u.getD k 0 + 4294967296 * val (u.drop (k + 1)) := by rw [hd, val_cons]
        have hp3 : pw (m + 3) = 4294967296 * pw (m + 2) := pw_succ (m + 2)
        have hsub := val_take_of_lt (n := m + 3) hdl (by omega)
        have hsl : ((u.drop k).take (m + 3)).length = m + 3 := by simp; omega
        have hsL := hdl.take (m + 3)
        have hparts : u = u.take k ++ (u.drop k).take (m + 3) ++ u.drop (k + (m + 3)) := by
          rw [List.append_assoc, ← List.drop_drop, List.take_append_drop, List.take_append_drop]
        have hpl : (u.take k).length = k := by simp; omega
        have hpost : val (u.drop (k + (m + 3))) = 0 := by
          have e1 := val_take_drop (u.drop k) (m + 3) (by simp; omega)
          rw [hsub, List.drop_drop] at e1
          have := pw_pos (m + 3)
          have e2 : pw (m + 3) * val (u.drop (k + (m + 3))) = 0 := by omega
          rcases Int.mul_eq_zero.1 e2 with h | h
          · omega
          · exact h
        have hD := digit_F (pre := u.take k) (u := (u.drop k).take (m + 3)) (post := u.drop (k + (m + 3))) hsL hvL hvl hsl (by omega) hn (by rw [hsub]; omega)
        rw [← hparts, hpl, hsub] at hD
        have hr0 := Int.emod_nonneg (val (u.drop k)) (b := val v) (by omega)
        have hr1 := Int.emod_lt_of_pos (val (u.drop k)) hV0
        have hdm := Int.mul_ediv_add_emod (val (u.drop k)) (val v)
        have hd0 := Int.ediv_nonneg (val_nonneg hdl) (Int.le_of_lt hV0)
        have hd1 : val (u.drop k) / val v < 4294967296 := by rw [Int.ediv_lt_iff_lt_mul hV0]; omega
        obtain ⟨w1, w2, w3⟩ := pad_spec (m + 3) (val (u.drop k) % val v) hr0 (by omega)
        generalize hQ : val (u.drop k) / val v = d at hD hd0 hd1 hdm
        generalize hR : val (u.drop k) % val v = r at hD hr0 hr1 hdm w1 w2 w3
        have hlen' : (u.take k ++ pad (m + 3) r ++ u.drop (k + (m + 3))).length = a.length + 1 := by
          rw [List.length_append, List.length_append, hpl, w2, List.length_drop]; omega
        have ev1 : val u = val (u.take k) + pw k * val (u.drop k) := val_take_drop u k (by omega)
        have ev2 : val (u.take k ++ pad (m + 3) r ++ u.drop (k + (m + 3))) = val (u.take k) + pw k * r := by
          rw [List.append_assoc, val_append, val_append, w3, hpost, hpl]; simp
        have ev3 : val ((u.take k ++ pad (m + 3) r ++ u.drop (k + (m + 3))).drop k) = r := by
          rw [List.append_assoc, List.drop_append_of_le_length (by omega), List.drop_of_length_le (by omega), List.nil_append, val_append, w3, hpost]; simp
        have e1 : ((k + 1 : Nat) : Int) - 1 = (k : Int) := sub1 k
        have e2 : (k : Int) + ((m + 2 : Nat) : Int) + 1 = ((k + (m + 3) : Nat) : Int) := by omega
        have e3 : ((k + (m + 3) : Nat) : Int) - (k : Int) = ((m + 3 : Nat) : Int) := by omega
        have hlen2 : Nat.beq (u.take k ++ pad (m + 3) r ++ u.drop (k + (m + 3))).length u.length = true := by
          rw [hlen', h1]; exact Nat.beq_refl _
        refine .inl ⟨(k, u.take k ++ pad (m + 3) r ++ u.drop (k + (m + 3)), q.set k d), ⟨hlen', ((h2.take k).app w1).app (h2.drop _), by simpa using h3, h4.set k ⟨hd0, hd1⟩, by simp only; omega, fun j hj => ?_, ?_, ?_⟩, Nat.lt_succ_self k, 1, fun i => ?_⟩
        · simp only at hj ⊢
          rw [getD_set (by omega), if_neg (by omega)]; exact h6 j (by omega)
        · simp only
          rw [ev2, val_set d (by omega), h6 k (Nat.lt_succ_self k), Int.sub_zero, Int.add_mul, Int.mul_right_comm, Int.mul_comm d (val v)]
          have e4 : pw k * val (u.drop k) = val v * d * pw k + pw k * r := by rw [← hdm, Int.mul_add, Int.mul_comm (pw k) (val v * d)]
          omega
        · simp only
          rw [ev3]; exact hr1
        · simp (disch := omega) only [c_dec, c_beq, c_bne, c_and, c_or, c_not, blt_dec, up1, dn1, if_t, if_f, if_true, if_false, Int.toNat_natCast, Option.bind_some, ne_eq, not_true_eq_false, not_false_eq_true, true_and, and_true, nat_long.L7_succ, nat_long.b7, e1, e2, e3, IntWalk.i64_in, cond_true, hD, hlen2]) (a.length + 1 - (m + 2), u0, List.replicate (a.length + 1 - (m + 2)) 0) ⟨hu3, hu2, by simp, Limbs.zeros _, Nat.le_refl _, fun j _ => getD_zeros _ _, by simp only; rw [val_zeros, hu4]; omega, hul⟩
  refine nat_long.of (0 + j) a b ?_
  have e1 : ((m + 2 : Nat) : Int) - 1 = ((m + 1 : Nat) : Int) := by omega
  have e2 : ((a.length + 1 : Nat) : Int) - ((m + 2 : Nat) : Int) = ((a.length + 1 - (m + 2) : Nat) : Int) := by omega
  simp (disch := omega) only [c_dec, c_beq, c_bne, c_and, c_or, c_not, blt_dec, up1, dn1, if_t, if_f, if_true, if_false, Int.toNat_natCast, Option.bind_some, ne_eq, not_true_eq_false, not_false_eq_true, true_and, and_true, nat_long.e, hm, e1, IntWalk.i64_in, hF, hv1, hu1, hvd, hvl, hu3, hv3, e2]
  exact hj 0
def divI (x y : Int) : List Int × List Int × Int × Unit := if y = 0 then ([], [], 11, ()) else (canon (x / y), canon (x % y), 0, ())
theorem Div_F {a b : List Int} (ha : Limbs a) (hb : Limbs b) (la : a.length < 70368744177664) (lb : b.length < 70368744177664) : nat_Div.F (a, b, ()) = some (divI (val a) (val b)) := by
  have ca := canon_nrm (val a)
  have cb := canon_nrm (val b)
  have ha0 := val_nonneg ha
  have hb0 := val_nonneg hb
  have va := val_canon ha0
  have vb := val_canon hb0
  have na := canon_val_len ha
  have nb := canon_val_len hb
  have hz := canon_len_zero hb0
  refine nat_Div.of 0 a b ?_
  simp only [nat_Div.e, trim_F ha (Nat.le_of_lt la), trim_F hb (Nat.le_of_lt lb), Option.bind_some]
  unfold divI
  by_cases h0 : val b = 0
  · have := hz.2 h0
    rw [if_pos h0]
    simp (disch := omega) only [c_dec, c_beq, c_bne, c_and, c_or, c_not, blt_dec, up1, dn1, if_t, if_f, if_true, if_false, Int.toNat_natCast, Option.bind_some, ne_eq, not_true_eq_false, not_false_eq_true, true_and, and_true]
  · have h1 : (canon (val b)).length ≠ 0 := fun h => h0 (hz.1 h)
    rw [if_neg h0]
    have hC := Cmp_F ca.1 cb.1 (by omega) (by omega)
    rw [va, vb] at hC
    by_cases hlt : val a < val b
    · have hO := own_F ca.1 (by omega)
      rw [va] at hO
      simp (disch := omega) only [c_dec, c_beq, c_bne, c_and, c_or, c_not, blt_dec, up1, dn1, if_t, if_f, if_true, if_false, Int.toNat_natCast, Option.bind_some, ne_eq, not_true_eq_false, not_false_eq_true, true_and, and_true, hC, cmpI_lt hlt, hO]
      rw [Int.ediv_eq_zero_of_lt ha0 hlt, Int.emod_eq_of_lt ha0 hlt, canon_zero]
    · have hc : 0 ≤ cmpI (val a) (val b) := by unfold cmpI; rw [if_neg hlt]; split <;> decide
      by_cases h2 : (canon (val b)).length = 1
      · obtain ⟨y, hy⟩ : ∃ y, canon (val b) = [y] := by
          match hcb : canon (val b), h2 with
          | [y], _ => exact ⟨y, rfl⟩
        have hyv : y = val b := by rw [← vb, hy, val1]
        have hyl : 0 < y ∧ y < 4294967296 := by
          have := cb.1.get 0
          rw [hy] at this
          simp at this
          omega
        obtain ⟨q, q1, q2, q3, q4⟩ := short_F (b := y) ca.1 (by omega) hyl
        rw [va] at q1 q4
        have hr0 := Int.emod_nonneg (val a) (b := y) (by omega)
        have hr1 := Int.emod_lt_of_pos (val a) (b := y) (by omega)
        have hO1 := own_F q2 (by omega)
        have hO2 := own_F (limbs1 (x := val a % y) (by omega)) (by simp)
        rw [q4] at hO1
        rw [val1] at hO2
        rw [hy] at hC ⊢
        simp (disch := omega) only [c_dec, c_beq, c_bne, c_and, c_or, c_not, blt_dec, up1, dn1, if_t, if_f, if_true, if_false, Int.toNat_natCast, Option.bind_some, ne_eq, not_true_eq_false, not_false_eq_true, true_and, and_true, hC, List.length_cons, List.length_nil, show List.getD [y] (Int.toNat 0) 0 = y from rfl, q1, hO1, hO2]
        rw [hyv]
      · have hle : (canon (val b)).length ≤ (canon (val a)).length := by
          by_cases hh : (canon (val b)).length ≤ (canon (val a)).length
          · exact hh
          · exfalso
            have h3 := canon_len_lt ha0
            have h4 := nrm_pos cb h1
            have h5 := pw_mono (m := (canon (val a)).length) (n := (canon (val b)).length - 1) (by omega)
            omega
        have hL := long_F ca.1 cb (by omega) (by omega) hle
        rw [va, vb] at hL
        simp (disch := omega) only [c_dec, c_beq, c_bne, c_and, c_or, c_not, blt_dec, up1, dn1, if_t, if_f, if_true, if_false, Int.toNat_natCast, Option.bind_some, ne_eq, not_true_eq_false, not_false_eq_true, true_and, and_true, hC, hL]
theorem Nm.Div_F {a b x y n m} (h : Nm a x n) (g : Nm b y m) (hn : n < 70368744177664) (hm : m < 70368744177664) : nat_Div.F (a, b, ()) = some (divI x y) := by
  rw [Try.Div_F h.limbs g.limbs (Nat.lt_of_le_of_lt h.len hn) (Nat.lt_of_le_of_lt g.len hm), h.val, g.val]
theorem divI_zero {x y : Int} (h : y = 0) : divI x y = ([], [], 11, ()) := if_pos h
theorem divI_pos {x y : Int} (h : y ≠ 0) : divI x y = (canon (x / y), canon (x % y), 0, ()) := if_neg h
theorem Nm.quo {a b x y n m} (h : Nm a x n) (g : Nm b y m) : Nm (Num.canon (x / y)) (x / y) n := by
  have hx := h.pos
  have hy := g.pos
  have := h.lt
  have := Int.ediv_le_self y hx
  exact .canon (Int.ediv_nonneg hx hy) (by omega)
theorem Nm.rem {a b x y n m} (h : Nm a x n) (g : Nm b y m) (h0 : y ≠ 0) : Nm (Num.canon (x % y)) (x % y) m := by
  have hy := g.pos
  have := g.lt
  have := Int.emod_nonneg x h0
  have := Int.emod_lt_of_pos x (show 0 < y by omega)
  exact .canon (by omega) (by omega)
def shiftV (x n : Int) : Int := if 0 ≤ n then x * 2 ^ n.toNat else x / 2 ^ (-n).toNat
def shiftI (x n : Int) : List Int × Int × Unit := if n < -1048576 ∨ 1048576 < n then ([], 12, ()) else (canon (shiftV x n), 0, ())
theorem pow_split (N : Nat) : (2 : Int) ^ N = pw (N / 32) * 2 ^ (N % 32) := by
  rw [pw_two, ← Int.pow_add]; congr 1; omega
theorem nshift_down {y : List Int} (hy : Limbs y) (ly : y.length < 70368744177664) {s : Nat} (hs : s < 32) : ∃ j, ∀ k, nat_Shift.L14 (k + j) y (s : Int) (List.replicate y.length 0) y.length 0 = some (canon (val y / 2 ^ s), 0, ()) := by
  refine up (fun k (x : Nat × List Int) => nat_Shift.L14 k y (s : Int) x.2 y.length (x.1 : Int)) _ (fun i r => DownInv y s y.length i r) y.length (fun i r hi hr => ?_) (fun r hr => ?_) 0 _ (Nat.zero_le _) DownInv.start
  · have hnx := hr.next hy hs hi
    obtain ⟨h1, h2, h3, h4⟩ := hr
    have g1 := hy.get i
    have g2 := hy.get (i + 1)
    obtain ⟨d0, d1, d2, d3, d4, d5⟩ := down_limb g1 g2 hs
    have e1 : shrI .u32 (y.getD i 0) (s : Int) = y.getD i 0 / 2 ^ s := shr32 _ s (by omega)
    have e2 : (32 : Int) - (s : Int) = ((32 - s : Nat) : Int) := by omega
    have e3 : IntKind.u32.wrap (shlI .u64 (y.getD (i + 1) 0) ((32 - s : Nat) : Int)) = 2 ^ (32 - s) * (y.getD (i + 1) 0 % 2 ^ s) := by
      rw [shl_eq .u64 _ (32 - s) (by show 32 - s ≤ 64; omega), w64, w32, ← d0, Int.emod_emod_of_dvd _ (by decide)]
    have e4 : bitsOp .or .u32 (y.getD i 0 / 2 ^ s) (2 ^ (32 - s) * (y.getD (i + 1) 0 % 2 ^ s)) = 2 ^ (32 - s) * (y.getD (i + 1) 0 % 2 ^ s) + y.getD i 0 / 2 ^ s := or32_add' (32 - s) (y.getD (i + 1) 0 % 2 ^ s) rfl d1 ⟨d2, d3⟩ d4
    have e5 : (r.set i (y.getD i 0 / 2 ^ s)).getD i 0 = y.getD i 0 / 2 ^ s := by rw [getD_set (by omega), if_pos rfl]
    refine ⟨_, hnx, 1, fun k => ?_⟩
    by_cases hl : i + 1 < y.length
    · have e6 : IntKind.u64.wrap (y.getD (i + 1) 0) = y.getD (i + 1) 0 := IntWalk.u64_in _ (by omega)
      have e7 : IntKind.i64.wrap ((32 - s : Nat) : Int) = ((32 - s : Nat) : Int) := IntWalk.i64_in _ (by omega)
      simp (disch := omega) only [c_dec, c_beq, c_bne, c_and, c_or, c_not, blt_dec, up1, dn1, if_t, if_f, if_true, if_false, Int.toNat_natCast, Option.bind_some, ne_eq, not_true_eq_false, not_false_eq_true, true_and, and_true, nat_Shift.L14_succ, nat_Shift.b14, e1, e2, e3, e4, e5, e6, e7, List.length_set, List.set_set]
    · have hz : y.getD (i + 1) 0 = 0 := getD_out (by omega)
      rw [hz, Int.zero_emod, Int.mul_zero, Int.zero_add]
      simp (disch := omega) only [c_dec, c_beq, c_bne, c_and, c_or, c_not, blt_dec, up1, dn1, if_t, if_f, if_true, if_false, Int.toNat_natCast, Option.bind_some, ne_eq, not_true_eq_false, not_false_eq_true, true_and, and_true, nat_Shift.L14_succ, nat_Shift.b14, e1, List.length_set]
  · have hrv := hr.last hy hs (val_lt hy) (getD_out (Nat.le_refl _))
    obtain ⟨h1, h2, h3, h4⟩ := hr
    refine ⟨1, fun k => ?_⟩
    simp (disch := omega) only [c_dec, c_beq, c_bne, c_and, c_or, c_not, blt_dec, up1, dn1, if_t, if_f, if_true, if_false, Int.toNat_natCast, Option.bind_some, ne_eq, not_true_eq_false, not_false_eq_true, true_and, and_true, nat_Shift.L14_succ, nat_Shift.b14, own_F h2 (by omega), hrv]
theorem Shift_F {a : List Int} {n : Int} (ha : Limbs a) (la : a.length ≤ 70368744100000) (hn : -9223372036854775808 ≤ n ∧ n ≤ 9223372036854775807) : nat_Shift.F (a, n, ()) = some (shiftI (val a) n) := by
  have hx := val_nonneg ha
  have hc := canon_limbs (val a)
  have hv := val_canon hx
  have hl := canon_val_len ha
  have hlt := canon_len_lt hx
  unfold shiftI
  suffices hs : ∃ k, nat_Shift.e (nat_Shift.L14 k) a n = some (if n < -1048576 ∨ 1048576 < n then ([], 12, ()) else (canon (shiftV (val a) n), 0, ())) by obtain ⟨k, hk⟩ := hs; exact nat_Shift.of k a n hk
  by_cases h1 : n < -1048576
  · refine ⟨0, ?_⟩
    rw [if_pos (by omega)]
    simp (disch := omega) only [c_dec, c_beq, c_bne, c_and, c_or, c_not, blt_dec, up1, dn1, if_t, if_f, if_true, if_false, Int.toNat_natCast, Option.bind_some, ne_eq, not_true_eq_false, not_false_eq_true, true_and, and_true, nat_Shift.e]
  by_cases h2 : n > 1048576
  · refine ⟨0, ?_⟩
    rw [if_pos (by omega)]
    simp (disch := omega) only [c_dec, c_beq, c_bne, c_and, c_or, c_not, blt_dec, up1, dn1, if_t, if_f, if_true, if_false, Int.toNat_natCast, Option.bind_some, ne_eq, not_true_eq_false, not_false_eq_true, true_and, and_true, nat_Shift.e]
  rw [if_neg (by omega)]
  have hT := trim_F ha (by omega)
  generalize canon (val a) = c at hc hv hl hlt hT
  unfold shiftV
  by_cases h0 : 0 ≤ n
  · obtain ⟨N, rfl⟩ := Int.eq_ofNat_of_zero_le h0
    rw [if_pos h0, Int.toNat_natCast]
    obtain ⟨w, w1, w2, w3, w4⟩ := moved_F (up := N % 32) hc (by omega) (Nat.mod_lt _ (by decide))
    have e1 : (N : Int) / 32 = ((N / 32 : Nat) : Int) := by omega
    have e2 : (N : Int) % 32 = ((N % 32 : Nat) : Int) := by omega
    have e3 : ((N / 32 : Nat) : Int) + (c.length : Int) + 1 = ((N / 32 + c.length + 1 : Nat) : Int) := by omega
    have e4 : ((N / 32 + c.length + 1 : Nat) : Int) - ((N / 32 : Nat) : Int) = ((c.length + 1 : Nat) : Int) := by omega
    have e5 : Nat.blt 0 (c.length + 1) = true := by rw [blt_dec]; simp
    have e6 : Nat.ble (N / 32 + (c.length + 1)) (N / 32 + c.length + 1) = true := Nat.ble_eq_true_of_le (by omega)
    have e7 : List.take (N / 32) (List.replicate (N / 32 + c.length + 1) (0 : Int)) ++ (List.take (c.length + 1) w ++ List.drop (N / 32 + Nat.min w.length (c.length + 1)) (List.replicate (N / 32 + c.length + 1) 0)) = List.replicate (N / 32) 0 ++ w := by
      rw [List.take_replicate, List.drop_replicate, w3, show Nat.min (c.length + 1) (c.length + 1) = c.length + 1 from Nat.min_self _, show N / 32 + c.length + 1 - (N / 32 + (c.length + 1)) = 0 by omega, List.take_of_length_le (by omega), Nat.min_eq_left (by omega)]
      simp
    have hL := (Limbs.zeros (N / 32)).app w2
    have hV : val (List.replicate (N / 32) 0 ++ w) = val a * 2 ^ N := by
      rw [val_append, val_zeros, w4, hv, List.length_replicate, pow_split N, Int.zero_add, Int.mul_left_comm]
    refine ⟨0, ?_⟩
    simp (disch := omega) only [c_dec, c_beq, c_bne, c_and, c_or, c_not, blt_dec, up1, dn1, if_t, if_f, if_true, if_false, Int.toNat_natCast, Option.bind_some, ne_eq, not_true_eq_false, not_false_eq_true, true_and, and_true, nat_Shift.e, hT, IntWalk.i64_quo, IntWalk.rem_in, IntWalk.i64_in, e1, e2, e3, e4, List.length_replicate, w1, e5, e6, Bool.and_self, cond_true, e7, own_F hL (by simp; omega), hV]
  · obtain ⟨N, hN⟩ := Int.eq_ofNat_of_zero_le (show 0 ≤ -n by omega)
    obtain rfl : n = -(N : Int) := by omega
    rw [if_neg h0, Int.neg_neg, Int.toNat_natCast]
    have e0 : negI .i64 (-(N : Int)) = (N : Int) := by unfold negI; rw [IntWalk.i64_in _ (by omega)]; omega
    have e1 : (N : Int) / 32 = ((N / 32 : Nat) : Int) := by omega
    have e2 : (N : Int) % 32 = ((N % 32 : Nat) : Int) := by omega
    by_cases hq : c.length ≤ N / 32
    · refine ⟨0, ?_⟩
      have h3 : val a / 2 ^ N = 0 := by
        refine Int.ediv_eq_zero_of_lt hx ?_
        rw [pow_split N]
        have p1 := pw_mono hq
        have p2 := two_pos (N % 32)
        have : pw (N / 32) * 1 ≤ pw (N / 32) * 2 ^ (N % 32) := Int.mul_le_mul_of_nonneg_left (by omega) (Int.le_of_lt (pw_pos _))
        omega
      simp (disch := omega) only [c_dec, c_beq, c_bne, c_and, c_or, c_not, blt_dec, up1, dn1, if_t, if_f, if_true, if_false, Int.toNat_natCast, Option.bind_some, ne_eq, not_true_eq_false, not_false_eq_true, true_and, and_true, nat_Shift.e, hT, e0, IntWalk.i64_quo, IntWalk.rem_in, e1, e2, h3, canon_zero]
    · have hdl := hc.drop (N / 32)
      obtain ⟨j, hj⟩ := nshift_down hdl (by simp; omega) (s := N % 32) (Nat.mod_lt _ (by decide))
      have h3 : val (c.drop (N / 32)) / 2 ^ (N % 32) = val a / 2 ^ N := by
        rw [← val_div hc (by omega), hv, pow_split N, Int.ediv_ediv_of_nonneg (Int.le_of_lt (pw_pos _))]
      rw [h3] at hj
      refine ⟨0 + j, ?_⟩
      have hdlen : (c.drop (N / 32)).length ≤ 70368744100000 := by simp; omega
      simp (disch := omega) only [c_dec, c_beq, c_bne, c_and, c_or, c_not, blt_dec, up1, dn1, if_t, if_f, if_true, if_false, Int.toNat_natCast, Option.bind_some, ne_eq, not_true_eq_false, not_false_eq_true, true_and, and_true, nat_Shift.e, hT, e0, IntWalk.i64_quo, IntWalk.rem_in, e1, e2]
      exact hj 0
def hi (x : Int) (s : Nat) : Int := x * 2 ^ s / 4294967296
section
variable {a : List Int} {size : Nat} {out : List Int} {W : Int} {s i : Nat}
end
theorem Nm.Shift_F {a x n} (h : Nm a x n) (hn : n ≤ 70368744100000) {i : Int} (hi : -9223372036854775808 ≤ i ∧ i ≤ 9223372036854775807) : nat_Shift.F (a, i, ()) = some (shiftI x i) := by
  rw [Try.Shift_F h.limbs (Nat.le_trans h.len hn) hi, h.val]
theorem two_le_pw {N m : Nat} (h : N ≤ 32 * m) : (2 : Int) ^ N ≤ pw m := by
  rw [pw_two]
  have h1 : (2 : Nat) ^ N ≤ 2 ^ (32 * m) := Nat.pow_le_pow_right (by decide) h
  have h2 := two_nat N
  have h3 := two_nat (32 * m)
  have := Int.ofNat_le.2 h1
  rw [h2, h3] at this
  exact this
theorem Nm.up {a x n} (h : Nm a x n) {N m : Nat} (hN : N ≤ 32 * m) : Nm (Num.canon (x * 2 ^ N)) (x * 2 ^ N) (n + m) := by
  have p := two_pos N
  refine .canon (Int.mul_nonneg h.pos (Int.le_of_lt p)) ?_
  rw [pw_add]
  have h1 := two_le_pw hN
  have h2 : x * 2 ^ N ≤ x * pw m := Int.mul_le_mul_of_nonneg_left h1 h.pos
  have h3 : x * pw m < pw n * pw m := Int.mul_lt_mul_of_pos_right h.lt (pw_pos m)
  omega
theorem Nm.down {a x n} (h : Nm a x n) (N : Nat) : Nm (Num.canon (x / 2 ^ N)) (x / 2 ^ N) n := by
  have p := two_pos N
  have := h.lt
  have := Int.ediv_le_self (2 ^ N) h.pos
  exact .canon (Int.ediv_nonneg h.pos (Int.le_of_lt p)) (by omega)
theorem Nm.shifted {a x n} (h : Nm a x n) {i : Int} (hi : ¬(i < -1048576 ∨ 1048576 < i)) : Nm (Num.canon (shiftV x i)) (shiftV x i) (n + 32768) := by
  unfold shiftV
  split
  · exact h.up (by omega)
  · exact (h.down _).mono (by omega)
theorem shiftI_out {x i : Int} (h : i < -1048576 ∨ 1048576 < i) : shiftI x i = ([], 12, ()) := if_pos h
theorem shiftI_in {x i : Int} (h : ¬(i < -1048576 ∨ 1048576 < i)) : shiftI x i = (canon (shiftV x i), 0, ()) := if_neg h
def gcdI (x y : Int) : Int := (Int.gcd x y : Int)
theorem gcdI_nonneg (x y : Int) : 0 ≤ gcdI x y := Int.natCast_nonneg _
theorem gcdI_comm (x y : Int) : gcdI x y = gcdI y x := by unfold gcdI; rw [Int.gcd_comm]
theorem gcdI_zero {x : Int} (h : 0 ≤ x) : gcdI x 0 = x := by unfold gcdI; rw [Int.gcd_zero_right]; omega
theorem gcdI_pos {x y : Int} (h : x ≠ 0 ∨ y ≠ 0) : 0 < gcdI x y := by
  have := Int.gcd_pos_iff.2 h
  unfold gcdI; omega
theorem gcdI_dvd_left (x y : Int) : gcdI x y ∣ x := Int.gcd_dvd_left ..
theorem gcdI_dvd_right (x y : Int) : gcdI x y ∣ y := Int.gcd_dvd_right ..
theorem gcdI_le {x y : Int} (hx : 0 < x) : gcdI x y ≤ x := Int.le_of_dvd hx (gcdI_dvd_left x y)
theorem gcdI_emod (x y : Int) : gcdI y (x % y) = gcdI x y := by
  unfold gcdI
  rw [Int.emod_def, Int.gcd_sub_mul_left_right, Int.gcd_comm]
theorem gcdI_mul (x y c : Int) (hc : 0 ≤ c) : gcdI (x * c) (y * c) = gcdI x y * c := by
  unfold gcdI
  rw [Int.gcd_mul_right, Int.natCast_mul]
  congr 1; omega
/-- The gcd within a length. -/
theorem gcdI_lt {x y : Int} {n : Nat} (hx : 0 ≤ x) (hy : 0 ≤ y) (h1 : x < pw n) (h2 : y < pw n) : gcdI x y < pw n := by
  by_cases h : x = 0
  · subst h; rw [gcdI_comm, gcdI_zero hy]; exact h2
  · have := gcdI_le (y := y) (show 0 < x by omega); omega
theorem Gcd_F {a b : List Int} {x y : Int} {n : Nat} (ha : Nm a x n) (hb : Nm b y n) (hn : n < 70368744177664) : nat_Gcd.F (a, b, ()) = some (canon (gcdI x y), ()) := by
  have hx := ha.pos
  have hy := hb.pos
  obtain ⟨j, hj⟩ := ends (fun k (s : Int × Int) => nat_Gcd.L2 k (canon s.1) (canon s.2)) (canon (gcdI x y), ()) (fun s => 0 ≤ s.1 ∧ 0 ≤ s.2 ∧ s.1 < pw n ∧ s.2 < pw n ∧ gcdI s.1 s.2 = gcdI x y) (fun s => s.2.toNat) (fun s hs => by
    obtain ⟨u, v⟩ := s
    obtain ⟨h1, h2, h3, h4, h5⟩ := hs
    simp only at h1 h2 h3 h4 h5
    have hz := canon_len_zero h2
    by_cases h0 : v = 0
    · have hl := hz.2 h0
      refine .inr ⟨1, fun k => ?_⟩
      rw [h0, gcdI_zero h1] at h5
      simp (disch := omega) only [c_dec, c_beq, c_bne, c_and, c_or, c_not, blt_dec, up1, dn1, if_t, if_f, if_true, if_false, Int.toNat_natCast, Option.bind_some, ne_eq, not_true_eq_false, not_false_eq_true, true_and, and_true, nat_Gcd.L2_succ, nat_Gcd.b2, hl]
      rw [h5]
    · have hl : (canon v).length ≠ 0 := fun h => h0 (hz.1 h)
      have d := (Nm.canon h1 h3).Div_F (Nm.canon h2 h4) hn hn
      rw [divI_pos h0] at d
      have m1 := Int.emod_nonneg u h0
      have m2 := Int.emod_lt_of_pos u (show 0 < v by omega)
      refine .inl ⟨(v, u % v), ⟨h2, m1, h4, by simp only; omega, by simp only; rw [gcdI_emod, h5]⟩, by simp only; omega, 1, fun k => ?_⟩
      simp (disch := omega) only [c_dec, c_beq, c_bne, c_and, c_or, c_not, blt_dec, up1, dn1, if_t, if_f, if_true, if_false, Int.toNat_natCast, Option.bind_some, ne_eq, not_true_eq_false, not_false_eq_true, true_and, and_true, nat_Gcd.L2_succ, nat_Gcd.b2, d]) (x, y) ⟨hx, hy, ha.lt, hb.lt, rfl⟩
  refine nat_Gcd.of (0 + j) a b ?_
  have o1 := own_F ha.limbs (by have := ha.len; omega)
  have o2 := own_F hb.limbs (by have := hb.len; omega)
  rw [ha.val] at o1
  rw [hb.val] at o2
  simp only [nat_Gcd.e, o1, o2, Option.bind_some]
  exact hj 0
theorem Nm.Gcd_F {a b x y n} (h : Nm a x n) (g : Nm b y n) (hn : n < 70368744177664) : nat_Gcd.F (a, b, ()) = some (Num.canon (gcdI x y), ()) := Try.Gcd_F h g hn
theorem pow_two_mul (b : Int) (e : Nat) : (b * b) ^ e = b ^ (2 * e) := by
  rw [Int.pow_mul]; congr 1; rw [Int.pow_succ, Int.pow_succ, Int.pow_zero, Int.one_mul]
/-- Either length, and none where no power is taken. -/
theorem Pow_F {a : List Int} {x : Int} {n : Nat} (ha : Nm a x n) (hn : n ≤ 70368744177000) {i : Int} (hi : 0 ≤ i ∧ i ≤ 4096) (hb : i ≤ 1 ∨ n * i.toNat ≤ 68719476736) : nat_Pow.F (a, i, ()) = some (canon (x ^ i.toNat), 0, ()) := by
  have hx := ha.pos
  obtain ⟨e, rfl⟩ := Int.eq_ofNat_of_zero_le hi.1
  rw [Int.toNat_natCast] at hb ⊢
  have key : ∀ (E : Nat) (p b : Int) (d m : Nat), E ≤ 4096 → 0 ≤ p → 0 ≤ b → p < pw d → b < pw m → (E = 0 ∨ (E = 1 ∧ d + m ≤ 70368744177664) ∨ (0 < m ∧ d + m * E * 2 ≤ 1099511627776)) → ∃ j, ∀ k, nat_Pow.L5 (k + j) (E : Int) (canon p) (canon b) = some (canon (p * b ^ E), 0, ()) := by
    intro E
    induction E using Nat.strongRecOn with
    | ind E ih =>
      intro p b d m hE hp hb lp lb hs
      rcases Nat.eq_zero_or_pos E with rfl | h0
      · refine ⟨1, fun k => ?_⟩
        simp (disch := omega) only [c_dec, c_beq, c_bne, c_and, c_or, c_not, blt_dec, up1, dn1, if_t, if_f, if_true, if_false, Int.toNat_natCast, Option.bind_some, ne_eq, not_true_eq_false, not_false_eq_true, true_and, and_true, nat_Pow.L5_succ, nat_Pow.b5, Int.pow_zero, Int.mul_one]
      · have np := Nm.canon hp lp
        have nb := Nm.canon hb lb
        have g1 : (E : Int) % 2 = ((E % 2 : Nat) : Int) := by omega
        have g2 : (E : Int) / 2 = ((E / 2 : Nat) : Int) := by omega
        have hle : m ≤ m * E := Nat.le_mul_of_pos_right m h0
        have hdm : d + m ≤ 70368744177664 := by
          rcases hs with h | h | h
          · omega
          · exact h.2
          · have := h.2; rw [Nat.mul_assoc, Nat.mul_comm E, ← Nat.mul_assoc] at this; omega
        have k1 := np.Mul_F nb hdm
        have hsq : 1 < E → nat_Mul.F (canon b, canon b, ()) = some (canon (b * b), ()) ∧ b * b < pw (m + m) ∧ 0 ≤ b * b := by
          intro h1
          have hmm : m + m ≤ 70368744177664 := by
            rcases hs with h | h | h
            · omega
            · omega
            · have := h.2; rw [Nat.mul_assoc, Nat.mul_comm E, ← Nat.mul_assoc] at this
              have h3 : m * 2 * 2 ≤ m * 2 * E := Nat.mul_le_mul_left _ (by omega)
              omega
          exact ⟨nb.Mul_F nb hmm, (nb.mul nb).lt, Int.mul_nonneg hb hb⟩
        have hE1 : E = 2 * (E / 2) + E % 2 := by omega
        have hnext : ∀ (q : Int) (d' : Nat), 1 < E → d' ≤ d + m * (E % 2) → (E / 2 = 0 ∨ (E / 2 = 1 ∧ d' + (m + m) ≤ 70368744177664) ∨ (0 < m + m ∧ d' + (m + m) * (E / 2) * 2 ≤ 1099511627776)) := by
          intro q d' h1 hd
          rcases hs with h | h | h
          · omega
          · omega
          · refine .inr (.inr ⟨by omega, ?_⟩)
            have h2 := h.2
            have e1 : m * E = m * (2 * (E / 2)) + m * (E % 2) := by rw [← Nat.mul_add, ← hE1]
            have e2 : (m + m) * (E / 2) = m * (2 * (E / 2)) := by rw [← Nat.two_mul, Nat.mul_comm 2 m, Nat.mul_assoc]
            rw [e1] at h2
            rw [e2]
            omega
        rcases (show E % 2 = 0 ∨ E % 2 = 1 by omega) with ho | ho
        · have h1 : 1 < E := by omega
          obtain ⟨k2, lb2, pb2⟩ := hsq h1
          obtain ⟨j, hj⟩ := ih (E / 2) (by omega) p (b * b) d (m + m) (by omega) hp pb2 lp lb2 (hnext p d h1 (by omega))
          refine ⟨j + 1, fun k => ?_⟩
          have hval : p * (b * b) ^ (E / 2) = p * b ^ E := by
            rw [pow_two_mul]; congr 2; omega
          rw [← hval, ← hj k, ← Nat.add_assoc]
          simp (disch := omega) only [c_dec, c_beq, c_bne, c_and, c_or, c_not, blt_dec, up1, dn1, if_t, if_f, if_true, if_false, Int.toNat_natCast, Option.bind_some, ne_eq, not_true_eq_false, not_false_eq_true, true_and, and_true, nat_Pow.L5_succ, nat_Pow.b5, IntWalk.rem_in, IntWalk.i64_quo, g1, ho, k2, g2]
        · have pq : 0 ≤ p * b := Int.mul_nonneg hp hb
          have lq : p * b < pw (d + m) := (np.mul nb).lt
          by_cases h1 : 1 < E
          · obtain ⟨k2, lb2, pb2⟩ := hsq h1
            obtain ⟨j, hj⟩ := ih (E / 2) (by omega) (p * b) (b * b) (d + m) (m + m) (by omega) pq pb2 lq lb2 (hnext p (d + m) h1 (by rw [ho]; omega))
            refine ⟨j + 1, fun k => ?_⟩
            have hval : p * b * (b * b) ^ (E / 2) = p * b ^ E := by
              rw [pow_two_mul, Int.mul_assoc]
              congr 1
              rw [Int.mul_comm, ← Int.pow_succ]
              congr 1; omega
            rw [← hval, ← hj k, ← Nat.add_assoc]
            simp (disch := omega) only [c_dec, c_beq, c_bne, c_and, c_or, c_not, blt_dec, up1, dn1, if_t, if_f, if_true, if_false, Int.toNat_natCast, Option.bind_some, ne_eq, not_true_eq_false, not_false_eq_true, true_and, and_true, nat_Pow.L5_succ, nat_Pow.b5, IntWalk.rem_in, IntWalk.i64_quo, g1, ho, k1, k2, g2]
          · have : E = 1 := by omega
            subst this
            refine ⟨2, fun k => ?_⟩
            simp (disch := omega) only [c_dec, c_beq, c_bne, c_and, c_or, c_not, blt_dec, up1, dn1, if_t, if_f, if_true, if_false, Int.toNat_natCast, Option.bind_some, ne_eq, not_true_eq_false, not_false_eq_true, true_and, and_true, nat_Pow.L5_succ, nat_Pow.b5, IntWalk.rem_in, IntWalk.i64_quo, g1, ho, k1, g2, Int.pow_succ, Int.pow_zero, Int.one_mul]
  have hm : pw n ≤ pw (n + 1) := pw_mono (Nat.le_succ n)
  have hlt := ha.lt
  obtain ⟨j, hj⟩ := key e 1 x 1 (n + 1) (by omega) (by decide) hx (by decide) (by omega) (by
    rcases Nat.eq_zero_or_pos e with h | h
    · exact .inl h
    · rcases Nat.eq_or_lt_of_le h with h1 | h1
      · exact .inr (.inl ⟨h1.symm, by omega⟩)
      · refine .inr (.inr ⟨by omega, ?_⟩)
        have := hb.resolve_left (by omega)
        rw [Nat.add_mul, Nat.one_mul]; omega)
  refine nat_Pow.of (0 + j) a (e : Int) ?_
  have o1 := own_F ha.limbs (by have := ha.len; omega)
  rw [ha.val] at o1
  rw [canon_one (by decide), Int.one_mul] at hj
  simp (disch := omega) only [c_dec, c_beq, c_bne, c_and, c_or, c_not, blt_dec, up1, dn1, if_t, if_f, if_true, if_false, Int.toNat_natCast, Option.bind_some, ne_eq, not_true_eq_false, not_false_eq_true, true_and, and_true, nat_Pow.e, o1]
  exact hj 0
/-- The number of a sign and limbs. -/
def wv (p : Bool × List Int) : Int := if p.1 = true then -(val p.2) else val p.2
/-- A number's sign and limbs. -/
def wc (z : Int) : Bool × List Int := (decide (z < 0), canon (if z < 0 then -z else z))
def sgn (z : Int) : Int := if z < 0 then -1 else if z = 0 then 0 else 1
theorem wc_pos {z : Int} (h : 0 ≤ z) : wc z = (false, canon z) := by
  unfold wc; rw [if_neg (by omega), decide_eq_false (by omega)]
theorem wc_neg {z : Int} (h : z < 0) : wc z = (true, canon (-z)) := by
  unfold wc; rw [if_pos h, decide_eq_true h]
/-- A sign, limbs, their number, and a bound of the limbs. -/
structure Wn (p : Bool × List Int) (z : Int) (n : Nat) : Prop where
  limbs : Limbs p.2
  val : wv p = z
  len : p.2.length ≤ n
/-- A number's amount. -/
def ab (z : Int) : Int := if z < 0 then -z else z
theorem tri (z : Int) : (z < 0 ∧ sgn z = -1 ∧ ab z = -z) ∨ (z = 0 ∧ sgn z = 0 ∧ ab z = 0) ∨ (0 < z ∧ sgn z = 1 ∧ ab z = z) := by
  unfold sgn ab
  by_cases h : z < 0
  · rw [if_pos h, if_pos h]; omega
  · by_cases h0 : z = 0
    · rw [if_neg h, if_pos h0, if_neg h]; omega
    · rw [if_neg h, if_neg h0, if_neg h]; omega
theorem ab_nonneg (z : Int) : 0 ≤ ab z := by unfold ab; split <;> omega
theorem Wn.nm {p z n} (h : Wn p z n) : Nm p.2 (ab z) n := by
  refine ⟨h.limbs, ?_, h.len⟩
  unfold ab
  have hv := val_nonneg h.limbs
  have := h.val
  unfold wv at this
  split at this <;> split <;> omega
theorem Wn.sign {p z n} (h : Wn p z n) : (z < 0 → p.1 = true) ∧ (0 < z → p.1 = false) := by
  have hv := val_nonneg h.limbs
  have := h.val
  unfold wv at this
  constructor
  · intro hz
    cases hp : p.1
    · rw [hp, if_neg (by simp)] at this; omega
    · rfl
  · intro hz
    cases hp : p.1
    · rfl
    · rw [hp, if_pos rfl] at this; omega
theorem Wn.mono {p z n m} (h : Wn p z n) (hm : n ≤ m) : Wn p z m := ⟨h.limbs, h.val, Nat.le_trans h.len hm⟩
theorem Wn.bound {p z n} (h : Wn p z n) : -pw n < z ∧ z < pw n := by
  have := h.nm.lt
  unfold ab at this
  split at this <;> omega
theorem wv_wc (z : Int) : wv (wc z) = z := by
  by_cases h : z < 0
  · rw [wc_neg h]; unfold wv; simp only [if_true]; rw [val_canon (by omega)]; omega
  · rw [wc_pos (by omega)]; unfold wv; rw [if_neg (by simp)]; exact val_canon (by omega)
theorem Wn.of {z : Int} {n : Nat} (h : -pw n < z ∧ z < pw n) : Wn (wc z) z n := by
  refine ⟨canon_limbs _, wv_wc z, ?_⟩
  show (canon (if z < 0 then -z else z)).length ≤ n
  refine canon_len_le ?_ ?_ <;> split <;> omega
theorem Wn.norm {p z n} (h : Wn p z n) : Wn (wc z) z n := .of h.bound
theorem core_F {xs : List Int} (h : Limbs xs) (hl : xs.length ≤ 70368744177664) : whole_core.F (xs, ()) = some (canon (val xs), ()) := by
  obtain ⟨j, hj⟩ := ends (fun k (n : Nat) => whole_core.L2 k xs (n : Int)) (canon (val xs), ()) (fun n => n ≤ xs.length ∧ ∀ j, n ≤ j → xs.getD j 0 = 0) id (fun n ⟨hn, hz⟩ => by
    by_cases h0 : 0 < n
    · by_cases h1 : xs.getD (n - 1) 0 = 0
      · refine .inl ⟨n - 1, ⟨by omega, fun j hj => ?_⟩, by show n - 1 < n; omega, 1, fun k => ?_⟩
        · by_cases hjn : j = n - 1
          · rw [hjn, h1]
          · exact hz j (by omega)
        · simp (disch := omega) only [c_dec, c_beq, c_bne, c_and, c_or, c_not, blt_dec, up1, dn1, if_t, if_f, if_true, if_false, Int.toNat_natCast, Option.bind_some, ne_eq, not_true_eq_false, not_false_eq_true, true_and, and_true, whole_core.L2_succ, whole_core.b2, h1]
      · refine .inr ⟨1, fun k => ?_⟩
        simp (disch := omega) only [c_dec, c_beq, c_bne, c_and, c_or, c_not, blt_dec, up1, dn1, if_t, if_f, if_true, if_false, Int.toNat_natCast, Option.bind_some, ne_eq, not_true_eq_false, not_false_eq_true, true_and, and_true, whole_core.L2_succ, whole_core.b2, h1, take_canon h hn hz (.inr h1)]
    · refine .inr ⟨1, fun k => ?_⟩
      obtain rfl : n = 0 := by omega
      simp (disch := omega) only [c_dec, c_beq, c_bne, c_and, c_or, c_not, blt_dec, up1, dn1, if_t, if_f, if_true, if_false, Int.toNat_natCast, Option.bind_some, ne_eq, not_true_eq_false, not_false_eq_true, true_and, and_true, whole_core.L2_succ, whole_core.b2, take_canon h hn hz (.inl rfl)]) xs.length ⟨Nat.le_refl _, fun j hj => getD_out hj⟩
  refine whole_core.of (0 + j) xs ?_
  simp only [whole_core.e]
  exact hj 0
theorem Wn.Sign_F {p z n} (h : Wn p z n) (hn : n ≤ 70368744177664) : whole_Sign.F (p, ()) = some (sgn z, ()) := by
  obtain ⟨b, a⟩ := p
  have hm := h.nm
  have hs := h.sign
  refine whole_Sign.of 0 (b, a) ?_
  have hp := hm.pos
  have hc := core_F h.limbs (Nat.le_trans h.len hn)
  have hv := hm.val
  unfold ab at hp hv
  have hmz : (if z < 0 then -z else z) = 0 ↔ z = 0 := by split <;> omega
  simp only at hv hc hs
  rw [hv] at hc
  generalize (if z < 0 then -z else z) = m at hp hc hmz
  have hl := canon_len_zero hp
  by_cases h0 : z = 0
  · have : (canon m).length = 0 := hl.2 (hmz.2 h0)
    simp (disch := omega) only [c_dec, c_beq, c_bne, c_and, c_or, c_not, blt_dec, up1, dn1, if_t, if_f, if_true, if_false, Int.toNat_natCast, Option.bind_some, ne_eq, not_true_eq_false, not_false_eq_true, true_and, and_true, whole_Sign.e, hc]
    unfold sgn; rw [if_neg (by omega), if_pos h0]
  · have : (canon m).length ≠ 0 := fun h => h0 (hmz.1 (hl.1 h))
    by_cases hz : z < 0
    · simp (disch := omega) only [c_dec, c_beq, c_bne, c_and, c_or, c_not, blt_dec, up1, dn1, if_t, if_f, if_true, if_false, Int.toNat_natCast, Option.bind_some, ne_eq, not_true_eq_false, not_false_eq_true, true_and, and_true, whole_Sign.e, hc, hs.1 hz, cond_true]
      unfold sgn; rw [if_pos hz]
    · simp (disch := omega) only [c_dec, c_beq, c_bne, c_and, c_or, c_not, blt_dec, up1, dn1, if_t, if_f, if_true, if_false, Int.toNat_natCast, Option.bind_some, ne_eq, not_true_eq_false, not_false_eq_true, true_and, and_true, whole_Sign.e, hc, hs.2 (by omega), cond_false]
      unfold sgn; rw [if_neg hz, if_neg h0]
/-- The product of signs. -/
def prod : List Int → Int
  | [] => 1
  | s :: r => s * prod r
theorem signed_F {a : List Int} {x : Int} {n : Nat} (h : Nm a x n) (hn : n ≤ 70368744177664) {ss : List Int} (hs : ∀ s ∈ ss, s = -1 ∨ s = 0 ∨ s = 1) (hl : ss.length ≤ 1000) :
    whole_signed.F (a, ss, ()) = some (wc (if prod ss < 0 then -x else x), ()) := by
  have hx := h.pos
  have last : ∀ (s : Int) (ss : List Int) (i : Nat), i = ss.length → ∀ k, whole_signed.L4 (k + 1) (canon x) false s ss ss.length i = some (wc (if s < 0 then -x else x), ()) := by
    intro s ss i hi k
    subst hi
    by_cases hs : s < 0
    · by_cases h0 : x = 0
      · have hc : (canon x).length = 0 := (canon_len_zero hx).2 h0
        simp (disch := omega) only [c_dec, c_beq, c_bne, c_and, c_or, c_not, blt_dec, up1, dn1, if_t, if_f, if_true, if_false, Int.toNat_natCast, Option.bind_some, ne_eq, not_true_eq_false, not_false_eq_true, true_and, and_true, whole_signed.L4_succ, whole_signed.b4, wc_pos (show 0 ≤ -x by omega), hc]
        subst h0; rfl
      · have hc : (canon x).length ≠ 0 := fun h => h0 ((canon_len_zero hx).1 h)
        simp (disch := omega) only [c_dec, c_beq, c_bne, c_and, c_or, c_not, blt_dec, up1, dn1, if_t, if_f, if_true, if_false, Int.toNat_natCast, Option.bind_some, ne_eq, not_true_eq_false, not_false_eq_true, true_and, and_true, whole_signed.L4_succ, whole_signed.b4, wc_neg (show -x < 0 by omega)]
        rw [Int.neg_neg, decide_eq_true (by omega)]
    · simp (disch := omega) only [c_dec, c_beq, c_bne, c_and, c_or, c_not, blt_dec, up1, dn1, if_t, if_f, if_true, if_false, Int.toNat_natCast, Option.bind_some, ne_eq, not_true_eq_false, not_false_eq_true, true_and, and_true, whole_signed.L4_succ, whole_signed.b4, wc_pos hx]
  have tri : ∀ {p q : Int}, (p = -1 ∨ p = 0 ∨ p = 1) → (q = -1 ∨ q = 0 ∨ q = 1) → (p * q = -1 ∨ p * q = 0 ∨ p * q = 1) := by
    intro p q hp hq
    rcases hp with rfl | rfl | rfl <;> rcases hq with rfl | rfl | rfl <;> simp
  obtain ⟨j, hj⟩ := up (fun k (s : Nat × Int) => whole_signed.L4 k (canon x) false s.2 ss ss.length (s.1 : Int)) (wc (if prod ss < 0 then -x else x), ()) (fun i p => (p = -1 ∨ p = 0 ∨ p = 1) ∧ p * prod (ss.drop i) = prod ss) ss.length (fun i p hi ⟨h1, h2⟩ => by
      have hg : ss.drop i = ss.getD i 0 :: ss.drop (i + 1) := by
        rw [List.drop_eq_getElem_cons hi]; simp [List.getD, hi]
      have h3 : ss.getD i 0 = -1 ∨ ss.getD i 0 = 0 ∨ ss.getD i 0 = 1 := hs _ (by rw [show ss.getD i 0 = ss[i] by simp [List.getD, hi]]; exact List.getElem_mem hi)
      have h4 := tri h1 h3
      refine ⟨p * ss.getD i 0, ⟨h4, by rw [← h2, hg]; simp only [prod]; rw [Int.mul_assoc]⟩, 1, fun k => ?_⟩
      simp (disch := omega) only [c_dec, c_beq, c_bne, c_and, c_or, c_not, blt_dec, up1, dn1, if_t, if_f, if_true, if_false, Int.toNat_natCast, Option.bind_some, ne_eq, not_true_eq_false, not_false_eq_true, true_and, and_true, whole_signed.L4_succ, whole_signed.b4]
      rw [IntWalk.i64_in (p * ss.getD i 0) (by omega)]) (fun p ⟨h1, h2⟩ => ⟨1, fun k => by
      have := last p ss ss.length rfl k
      rw [List.drop_length] at h2
      simp only [prod, Int.mul_one] at h2
      rw [← h2]; exact this⟩) 0 1 (Nat.zero_le _) ⟨by simp, by simp⟩
  refine whole_signed.of (0 + j) a ss ?_
  simp only [whole_signed.e, h.Norm_F hn, Option.bind_some]
  exact hj 0
theorem sgn_cases (z : Int) : sgn z = -1 ∨ sgn z = 0 ∨ sgn z = 1 := by unfold sgn; split <;> (try split) <;> simp
theorem pe {α β : Type} (p : α × β) : (p.1, p.2) = p := rfl
theorem prod1 (s : Int) : prod [s] = s := by simp [prod]
theorem prod2 (s t : Int) : prod [s, t] = s * t := by simp [prod]
theorem signs1 {s : Int} (h : s = -1 ∨ s = 0 ∨ s = 1) : ∀ x ∈ [s], x = -1 ∨ x = 0 ∨ x = 1 := by intro x hx; simp at hx; rw [hx]; exact h
theorem signs2 {s t : Int} (h : s = -1 ∨ s = 0 ∨ s = 1) (g : t = -1 ∨ t = 0 ∨ t = 1) : ∀ x ∈ [s, t], x = -1 ∨ x = 0 ∨ x = 1 := by
  intro x hx; simp at hx; rcases hx with rfl | rfl
  · exact h
  · exact g
theorem Nm.signed0 {a x n} (h : Nm a x n) (hn : n ≤ 70368744177664) : whole_signed.F (a, [], ()) = some (wc x, ()) := by
  rw [signed_F h hn (ss := []) (by simp) (by simp)]; rfl
theorem Nm.signed1 {a x n} (h : Nm a x n) (hn : n ≤ 70368744177664) {s : Int} (hs : s = -1 ∨ s = 0 ∨ s = 1) : whole_signed.F (a, [s], ()) = some (wc (if s < 0 then -x else x), ()) := by
  rw [signed_F h hn (signs1 hs) (by simp), prod1]
theorem Nm.signed2 {a x n} (h : Nm a x n) (hn : n ≤ 70368744177664) {s t : Int} (hs : s = -1 ∨ s = 0 ∨ s = 1) (ht : t = -1 ∨ t = 0 ∨ t = 1) : whole_signed.F (a, [s, t], ()) = some (wc (if s * t < 0 then -x else x), ()) := by
  rw [signed_F h hn (signs2 hs ht) (by simp), prod2]
theorem Wn.Norm_F {p z n} (h : Wn p z n) (hn : n ≤ 70368744177664) : whole_Norm.F (p, ()) = some (wc z, ()) := by
  refine whole_Norm.of 0 p ?_
  have e : (if sgn z < 0 then -ab z else ab z) = z := by
    rcases tri z with ⟨_, h1, h2⟩ | ⟨_, h1, h2⟩ | ⟨_, h1, h2⟩ <;> rw [h1, h2] <;> simp <;> omega
  simp only [whole_Norm.e, pe, h.Sign_F hn, Option.bind_some, h.nm.signed1 hn (sgn_cases z), e]
theorem Wn.Neg_F {p z n} (h : Wn p z n) (hn : n ≤ 70368744177664) : whole_Neg.F (p, ()) = some (wc (-z), ()) := by
  refine whole_Neg.of 0 p ?_
  have e : (if -1 * sgn z < 0 then -ab z else ab z) = -z := by
    rcases tri z with ⟨_, h1, h2⟩ | ⟨_, h1, h2⟩ | ⟨_, h1, h2⟩ <;> rw [h1, h2] <;> simp <;> omega
  simp only [whole_Neg.e, pe, h.Sign_F hn, Option.bind_some, h.nm.signed2 hn (Or.inl rfl) (sgn_cases z), e]
theorem Wn.Abs_F {p z n} (h : Wn p z n) (hn : n ≤ 70368744177664) : whole_Abs.F (p, ()) = some (canon (ab z), ()) := by
  refine whole_Abs.of 0 p ?_
  simp only [whole_Abs.e, h.nm.Norm_F hn, Option.bind_some]
theorem i64_abs {n : Int} (hn : -9223372036854775808 ≤ n ∧ n ≤ 9223372036854775807) (h : n < 0) : negI .u64 (IntKind.u64.wrap n) = -n := by
  unfold negI; rw [w64, w64]; omega
theorem Wof_bound {n : Int} (hn : -18446744073709551616 < n ∧ n < 18446744073709551616) : Wn (wc n) n 2 := .of (by
  have e : pw 2 = 18446744073709551616 := rfl
  omega)
theorem WOf_F {n : Int} (hn : -9223372036854775808 ≤ n ∧ n ≤ 9223372036854775807) : whole_Of.F (n, ()) = some (wc n, ()) := by
  refine whole_Of.of 0 n ?_
  have e : pw 2 = 18446744073709551616 := rfl
  by_cases h : n < 0
  · have h1 : Nm (canon (-n)) (-n) 2 := .canon (by omega) (by omega)
    simp (disch := omega) only [c_dec, c_beq, c_bne, c_and, c_or, c_not, blt_dec, up1, dn1, if_t, if_f, if_true, if_false, Int.toNat_natCast, Option.bind_some, ne_eq, not_true_eq_false, not_false_eq_true, true_and, and_true, whole_Of.e, i64_abs hn h, Of_F (show 0 ≤ -n ∧ -n < 18446744073709551616 by omega), h1.signed1 (by decide) (Or.inl rfl), Int.neg_neg, pe]
  · have h1 : Nm (canon n) n 2 := .canon (by omega) (by omega)
    simp (disch := omega) only [c_dec, c_beq, c_bne, c_and, c_or, c_not, blt_dec, up1, dn1, if_t, if_f, if_true, if_false, Int.toNat_natCast, Option.bind_some, ne_eq, not_true_eq_false, not_false_eq_true, true_and, and_true, whole_Of.e, IntWalk.u64_in, Of_F (show 0 ≤ n ∧ n < 18446744073709551616 by omega), h1.signed0 (by decide), pe]
theorem SameNat_F (a b : List Int) (hl : a.length ≤ 70368744177664) : fulcrummem_SameNat.F (a, b, ()) = some (decide (a = b), ()) := by
  by_cases hn : a.length = b.length
  · obtain ⟨j, hj⟩ := ends (fun k (i : Nat) => fulcrummem_SameNat.L4 k a b (i : Int)) (decide (a = b), ()) (fun i => i ≤ a.length ∧ ∀ j, j < i → a.getD j 0 = b.getD j 0) (fun i => a.length - i) (fun i ⟨hi, hz⟩ => by
      by_cases h0 : i < a.length
      · by_cases h1 : a.getD i 0 = b.getD i 0
        · refine .inl ⟨i + 1, ⟨h0, fun j hj => ?_⟩, by show a.length - (i + 1) < a.length - i; omega, 1, fun k => ?_⟩
          · by_cases hji : j = i
            · rw [hji, h1]
            · exact hz j (by omega)
          · simp (disch := omega) only [c_dec, c_beq, c_bne, c_and, c_or, c_not, blt_dec, up1, dn1, if_t, if_f, if_true, if_false, Int.toNat_natCast, Option.bind_some, ne_eq, not_true_eq_false, not_false_eq_true, true_and, and_true, fulcrummem_SameNat.L4_succ, fulcrummem_SameNat.b4, h1]
        · refine .inr ⟨1, fun k => ?_⟩
          have : a ≠ b := fun e => h1 (by rw [e])
          simp (disch := omega) only [c_dec, c_beq, c_bne, c_and, c_or, c_not, blt_dec, up1, dn1, if_t, if_f, if_true, if_false, Int.toNat_natCast, Option.bind_some, ne_eq, not_true_eq_false, not_false_eq_true, true_and, and_true, fulcrummem_SameNat.L4_succ, fulcrummem_SameNat.b4, decide_eq_false this]
      · refine .inr ⟨1, fun k => ?_⟩
        have : a = b := ext_getD hn fun j hj => hz j (by omega)
        simp (disch := omega) only [c_dec, c_beq, c_bne, c_and, c_or, c_not, blt_dec, up1, dn1, if_t, if_f, if_true, if_false, Int.toNat_natCast, Option.bind_some, ne_eq, not_true_eq_false, not_false_eq_true, true_and, and_true, fulcrummem_SameNat.L4_succ, fulcrummem_SameNat.b4, decide_eq_true this]) 0 ⟨Nat.zero_le _, fun j hj => by omega⟩
    refine fulcrummem_SameNat.of (0 + j) a b ?_
    simp (disch := omega) only [c_dec, c_beq, c_bne, c_and, c_or, c_not, blt_dec, up1, dn1, if_t, if_f, if_true, if_false, Int.toNat_natCast, Option.bind_some, ne_eq, not_true_eq_false, not_false_eq_true, true_and, and_true, fulcrummem_SameNat.e]
    exact hj 0
  · have : a ≠ b := fun e => hn (by rw [e])
    refine fulcrummem_SameNat.of 0 a b ?_
    simp (disch := omega) only [c_dec, c_beq, c_bne, c_and, c_or, c_not, blt_dec, up1, dn1, if_t, if_f, if_true, if_false, Int.toNat_natCast, Option.bind_some, ne_eq, not_true_eq_false, not_false_eq_true, true_and, and_true, fulcrummem_SameNat.e, decide_eq_false this]
theorem SameInt_F (p q : Bool × List Int) (hl : p.2.length ≤ 70368744177664) : fulcrummem_SameInt.F (p, q, ()) = some (decide (p = q), ()) := by
  refine fulcrummem_SameInt.of 0 p q ?_
  obtain ⟨b, x⟩ := p
  obtain ⟨c, y⟩ := q
  simp only [fulcrummem_SameInt.e, SameNat_F x y hl, Option.bind_some]
  cases b <;> cases c <;> simp
theorem wsame_F (p q : Bool × List Int) (hl : p.2.length ≤ 70368744177664) : fulcrumlaw02_same.F (p, q, ()) = some (decide (p = q), ()) := by
  refine fulcrumlaw02_same.of 0 p q ?_
  simp only [fulcrumlaw02_same.e, pe, SameInt_F p q hl, Option.bind_some]
theorem Wn.add {p q y z n} (h : Wn p y n) (g : Wn q z n) : Wn (wc (y + z)) (y + z) (n + 1) := .of (by
  have := h.bound
  have := g.bound
  rw [pw_succ]; omega)
theorem Wn.neg {p z n} (h : Wn p z n) : Wn (wc (-z)) (-z) n := .of (by have := h.bound; omega)
theorem Wn.sub {p q y z n} (h : Wn p y n) (g : Wn q z n) : Wn (wc (y - z)) (y - z) (n + 1) := .of (by
  have := h.bound
  have := g.bound
  rw [pw_succ]; omega)
theorem ab_mul (y z : Int) : ab (y * z) = ab y * ab z := by
  have e : ∀ x, ab x = (x.natAbs : Int) := fun x => by unfold ab; split <;> omega
  rw [e, e, e, Int.natAbs_mul]; push_cast; rfl
theorem Wn.mul {p q y z n m} (h : Wn p y n) (g : Wn q z m) : Wn (wc (y * z)) (y * z) (n + m) := by
  have hm := (h.nm.mul g.nm).lt
  rw [← ab_mul] at hm
  refine .of ?_
  unfold ab at hm
  have := pw_pos (n + m)
  split at hm <;> omega
theorem or_signs {x y : Int} (hx : x = -1 ∨ x = 0 ∨ x = 1) (hy : y = -1 ∨ y = 0 ∨ y = 1) (h : 0 ≤ x * y) : bitsOp .or .i64 (bitsOp .or .i64 x y) 1 = if x < 0 ∨ y < 0 then -1 else 1 := by
  rcases hx with rfl | rfl | rfl <;> rcases hy with rfl | rfl | rfl <;> first | (exfalso; revert h; decide) | decide
theorem tri_mul {x y : Int} (hx : x = -1 ∨ x = 0 ∨ x = 1) (hy : y = -1 ∨ y = 0 ∨ y = 1) : x * y = -1 ∨ x * y = 0 ∨ x * y = 1 := by
  rcases hx with rfl | rfl | rfl <;> rcases hy with rfl | rfl | rfl <;> simp
theorem Wn.Add_F {p q y z n} (h : Wn p y n) (g : Wn q z n) (hn : n < 70368744177664) : whole_Add.F (p, q, ()) = some (wc (y + z), ()) := by
  refine whole_Add.of 0 p q ?_
  have hn' : n ≤ 70368744177664 := Nat.le_of_lt hn
  have sp := sgn_cases y
  have sq := sgn_cases z
  have hm := tri_mul sp sq
  simp only [whole_Add.e, pe, h.Sign_F hn', g.Sign_F hn', Option.bind_some, IntWalk.i64_in (sgn y * sgn z) (by omega)]
  by_cases hs : 0 ≤ sgn y * sgn z
  · have hA := h.nm.add g.nm
    have hor := or_signs sp sq hs
    rw [hor]
    have hs' : ¬(y < 0 ∧ 0 < z) ∧ ¬(0 < y ∧ z < 0) := by
      rcases tri y with ⟨hy, h1, h2⟩ | ⟨hy, h1, h2⟩ | ⟨hy, h1, h2⟩ <;> rcases tri z with ⟨hz, h3, h4⟩ | ⟨hz, h3, h4⟩ | ⟨hz, h3, h4⟩ <;> rw [h1, h3] at hs <;> first | (exfalso; revert hs; decide) | omega
    have t1 := tri y
    have t2 := tri z
    have e : (if (if sgn y < 0 ∨ sgn z < 0 then (-1 : Int) else 1) < 0 then -(ab y + ab z) else ab y + ab z) = y + z := by
      by_cases hneg : sgn y < 0 ∨ sgn z < 0
      · rw [if_pos hneg, if_pos (by decide)]; omega
      · rw [if_neg hneg, if_neg (by decide)]; omega
    simp (disch := omega) only [c_dec, c_beq, c_bne, c_and, c_or, c_not, blt_dec, up1, dn1, if_t, if_f, if_true, if_false, Int.toNat_natCast, Option.bind_some, ne_eq, not_true_eq_false, not_false_eq_true, true_and, and_true, h.nm.Add_F g.nm hn, hA.signed1 (by omega) (show (if sgn y < 0 ∨ sgn z < 0 then (-1 : Int) else 1) = -1 ∨ (if sgn y < 0 ∨ sgn z < 0 then (-1 : Int) else 1) = 0 ∨ (if sgn y < 0 ∨ sgn z < 0 then (-1 : Int) else 1) = 1 by split <;> simp), e, pe]
  · have hx : (y < 0 ∧ 0 < z ∧ ab y = -y ∧ ab z = z ∧ sgn y = -1 ∧ sgn z = 1) ∨ (0 < y ∧ z < 0 ∧ ab y = y ∧ ab z = -z ∧ sgn y = 1 ∧ sgn z = -1) := by
      have hs' : (y < 0 ∧ 0 < z) ∨ (0 < y ∧ z < 0) := by
        rcases tri y with ⟨hy, h1, h2⟩ | ⟨hy, h1, h2⟩ | ⟨hy, h1, h2⟩ <;> rcases tri z with ⟨hz, h3, h4⟩ | ⟨hz, h3, h4⟩ | ⟨hz, h3, h4⟩ <;> rw [h1, h3] at hs <;> first | (exfalso; revert hs; decide) | exact .inl ⟨hy, hz⟩ | exact .inr ⟨hy, hz⟩
      have t1 := tri y
      have t2 := tri z
      rcases hs' with ⟨hy, hz⟩ | ⟨hy, hz⟩
      · exact .inl ⟨hy, hz, by omega, by omega, by omega, by omega⟩
      · exact .inr ⟨hy, hz, by omega, by omega, by omega, by omega⟩
    have hC := h.nm.Cmp_F g.nm hn' hn'
    by_cases hle : ab z ≤ ab y
    · have hc : 0 ≤ cmpI (ab y) (ab z) := by unfold cmpI; rw [if_neg (by omega)]; split <;> decide
      have hS := h.nm.Sub_F g.nm hn' hn'
      rw [if_neg (by omega)] at hS
      have hD := h.nm.sub g.nm hle
      have e : (if sgn y < 0 then -(ab y - ab z) else ab y - ab z) = y + z := by
        rcases hx with ⟨_, _, h1, h2, h3, h4⟩ | ⟨_, _, h1, h2, h3, h4⟩ <;> rw [h1, h2, h3] <;> simp <;> omega
      simp (disch := omega) only [c_dec, c_beq, c_bne, c_and, c_or, c_not, blt_dec, up1, dn1, if_t, if_f, if_true, if_false, Int.toNat_natCast, Option.bind_some, ne_eq, not_true_eq_false, not_false_eq_true, true_and, and_true, hC, hS, hD.signed1 hn' sp, e, pe]
    · have hc : cmpI (ab y) (ab z) = -1 := cmpI_lt (by omega)
      have hS := g.nm.Sub_F h.nm hn' hn'
      rw [if_neg (by omega)] at hS
      have hD := g.nm.sub h.nm (show ab y ≤ ab z by omega)
      have e : (if sgn z < 0 then -(ab z - ab y) else ab z - ab y) = y + z := by
        rcases hx with ⟨_, _, h1, h2, h3, h4⟩ | ⟨_, _, h1, h2, h3, h4⟩ <;> rw [h1, h2, h4] <;> simp <;> omega
      simp (disch := omega) only [c_dec, c_beq, c_bne, c_and, c_or, c_not, blt_dec, up1, dn1, if_t, if_f, if_true, if_false, Int.toNat_natCast, Option.bind_some, ne_eq, not_true_eq_false, not_false_eq_true, true_and, and_true, hC, hc, hS, hD.signed1 hn' sq, e, pe]
theorem Wn.Sub_F {p q y z n} (h : Wn p y n) (g : Wn q z n) (hn : n < 70368744177664) : whole_Sub.F (p, q, ()) = some (wc (y - z), ()) := by
  refine whole_Sub.of 0 p q ?_
  simp only [whole_Sub.e, pe, g.Neg_F (Nat.le_of_lt hn), Option.bind_some, h.Add_F g.neg hn]
  rw [Int.sub_eq_add_neg]
theorem Wn.Cmp_F {p q y z n} (h : Wn p y n) (g : Wn q z n) (hn : n < 70368744177664) : whole_Cmp.F (p, q, ()) = some (sgn (y - z), ()) := by
  refine whole_Cmp.of 0 p q ?_
  simp only [whole_Cmp.e, pe, h.Sub_F g hn, Option.bind_some, (h.sub g).Sign_F hn]
theorem Wn.Mul_F {p q y z n m} (h : Wn p y n) (g : Wn q z m) (hn : n + m ≤ 70368744177664) : whole_Mul.F (p, q, ()) = some (wc (y * z), ()) := by
  refine whole_Mul.of 0 p q ?_
  have e : (if sgn y * sgn z < 0 then -(ab y * ab z) else ab y * ab z) = y * z := by
    rcases tri y with ⟨hy, h1, h2⟩ | ⟨hy, h1, h2⟩ | ⟨hy, h1, h2⟩ <;> rcases tri z with ⟨hz, h3, h4⟩ | ⟨hz, h3, h4⟩ | ⟨hz, h3, h4⟩ <;> rw [h1, h2, h3, h4] <;> simp [Int.neg_mul, Int.mul_neg, *]
  simp only [whole_Mul.e, pe, h.nm.Mul_F g.nm hn, h.Sign_F (show n ≤ 70368744177664 by omega), g.Sign_F (show m ≤ 70368744177664 by omega), Option.bind_some, (h.nm.mul g.nm).signed2 hn (sgn_cases y) (sgn_cases z), e]
theorem tdiv_ab (y z : Int) : (if sgn y * sgn z < 0 then -(ab y / ab z) else ab y / ab z) = y.tdiv z := by
  rcases tri y with ⟨h1, h2, h3⟩ | ⟨h1, h2, h3⟩ | ⟨h1, h2, h3⟩
  · rcases tri z with ⟨g1, g2, g3⟩ | ⟨g1, g2, g3⟩ | ⟨g1, g2, g3⟩ <;> rw [h2, h3, g2, g3]
    · rw [if_neg (by decide), ← Int.tdiv_eq_ediv_of_nonneg (by omega), Int.neg_tdiv, Int.tdiv_neg, Int.neg_neg]
    · rw [g1]; simp
    · rw [if_pos (by decide), ← Int.tdiv_eq_ediv_of_nonneg (by omega), Int.neg_tdiv, Int.neg_neg]
  · rw [h2, h3, h1]; simp
  · rcases tri z with ⟨g1, g2, g3⟩ | ⟨g1, g2, g3⟩ | ⟨g1, g2, g3⟩ <;> rw [h2, h3, g2, g3]
    · rw [if_pos (by decide), ← Int.tdiv_eq_ediv_of_nonneg (by omega), Int.tdiv_neg, Int.neg_neg]
    · rw [g1]; simp
    · rw [if_neg (by decide), ← Int.tdiv_eq_ediv_of_nonneg (by omega)]
theorem tmod_ab (y z : Int) : (if sgn y < 0 then -(ab y % ab z) else ab y % ab z) = y.tmod z := by
  rcases tri y with ⟨h1, h2, h3⟩ | ⟨h1, h2, h3⟩ | ⟨h1, h2, h3⟩
  · rcases tri z with ⟨g1, g2, g3⟩ | ⟨g1, g2, g3⟩ | ⟨g1, g2, g3⟩ <;> rw [h2, h3, g3]
    · rw [if_pos (by decide), ← Int.tmod_eq_emod_of_nonneg (by omega), Int.neg_tmod, Int.tmod_neg, Int.neg_neg]
    · rw [if_pos (by decide), g1, Int.emod_zero, Int.tmod_zero, Int.neg_neg]
    · rw [if_pos (by decide), ← Int.tmod_eq_emod_of_nonneg (by omega), Int.neg_tmod, Int.neg_neg]
  · rw [h2, h3, h1]; simp
  · rcases tri z with ⟨g1, g2, g3⟩ | ⟨g1, g2, g3⟩ | ⟨g1, g2, g3⟩ <;> rw [h2, h3, g3]
    · rw [if_neg (by decide), ← Int.tmod_eq_emod_of_nonneg (by omega), Int.tmod_neg]
    · rw [if_neg (by decide), g1, Int.emod_zero, Int.tmod_zero]
    · rw [if_neg (by decide), ← Int.tmod_eq_emod_of_nonneg (by omega)]
theorem tmod_bound (y : Int) {z : Int} (hz : z ≠ 0) : -ab z < y.tmod z ∧ y.tmod z < ab z ∧ (0 ≤ y → 0 ≤ y.tmod z) ∧ (y ≤ 0 → y.tmod z ≤ 0) := by
  have hz' : 0 < ab z := by have := tri z; omega
  have h1 := Int.emod_nonneg (ab y) (b := ab z) (by omega)
  have h2 := Int.emod_lt_of_pos (ab y) hz'
  have h3 := tmod_ab y z
  have h4 := tri y
  split at h3
  · omega
  · rcases h4 with h | h | h
    · omega
    · rw [h.1]; simp; omega
    · omega
theorem tdiv_bound (y z : Int) : -ab y ≤ y.tdiv z ∧ y.tdiv z ≤ ab y := by
  have h1 := Int.ediv_le_self (ab z) (ab_nonneg y)
  have h2 := Int.ediv_nonneg (ab_nonneg y) (ab_nonneg z)
  have h3 := tdiv_ab y z
  split at h3 <;> omega
def zerr : (Bool × List Int) × (Bool × List Int) × Int × Unit := ((false, []), (false, []), 11, ())
def quoI (y z : Int) : (Bool × List Int) × (Bool × List Int) × Int × Unit := if z = 0 then zerr else (wc (y.tdiv z), wc (y.tmod z), 0, ())
theorem Wn.quo {p q y z n m} (h : Wn p y n) (g : Wn q z m) : Wn (wc (y.tdiv z)) (y.tdiv z) n := .of (by
  have := h.bound
  have := tdiv_bound y z
  have := tri y
  omega)
theorem Wn.rem {p q y z n m} (h : Wn p y n) (g : Wn q z m) (hz : z ≠ 0) : Wn (wc (y.tmod z)) (y.tmod z) m := .of (by
  have := g.bound
  have := tmod_bound y hz
  have := tri z
  omega)
theorem Wn.Quo_F {p q y z n m} (h : Wn p y n) (g : Wn q z m) (hn : n < 70368744177664) (hm : m < 70368744177664) : whole_Quo.F (p, q, ()) = some (quoI y z) := by
  refine whole_Quo.of 0 p q ?_
  have hd := h.nm.Div_F g.nm hn hm
  have tz := tri z
  unfold quoI
  by_cases h0 : z = 0
  · rw [divI_zero (by omega)] at hd
    rw [if_pos h0]
    simp (disch := omega) only [c_dec, c_beq, c_bne, c_and, c_or, c_not, blt_dec, up1, dn1, if_t, if_f, if_true, if_false, Int.toNat_natCast, Option.bind_some, ne_eq, not_true_eq_false, not_false_eq_true, true_and, and_true, whole_Quo.e, hd]
    rfl
  · rw [divI_pos (by omega)] at hd
    rw [if_neg h0]
    have hq := (h.nm.quo g.nm).signed2 (Nat.le_of_lt hn) (sgn_cases y) (sgn_cases z)
    have hr := (h.nm.rem g.nm (by omega)).signed1 (Nat.le_of_lt hm) (sgn_cases y)
    rw [tdiv_ab] at hq
    rw [tmod_ab] at hr
    simp (disch := omega) only [c_dec, c_beq, c_bne, c_and, c_or, c_not, blt_dec, up1, dn1, if_t, if_f, if_true, if_false, Int.toNat_natCast, Option.bind_some, ne_eq, not_true_eq_false, not_false_eq_true, true_and, and_true, whole_Quo.e, pe, hd, h.Sign_F (Nat.le_of_lt hn), g.Sign_F (Nat.le_of_lt hm), hq, hr]
def flQ (y z : Int) : Int := if sgn (y.tmod z) * sgn z < 0 then y.tdiv z - 1 else y.tdiv z
def flR (y z : Int) : Int := if sgn (y.tmod z) * sgn z < 0 then y.tmod z + z else y.tmod z
def euQ (y z : Int) : Int := if y.tmod z < 0 then (if z < 0 then y.tdiv z + 1 else y.tdiv z - 1) else y.tdiv z
def euR (y z : Int) : Int := if y.tmod z < 0 then (if z < 0 then y.tmod z - z else y.tmod z + z) else y.tmod z
def flI (y z : Int) : (Bool × List Int) × (Bool × List Int) × Int × Unit := if z = 0 then zerr else (wc (flQ y z), wc (flR y z), 0, ())
def euI (y z : Int) : (Bool × List Int) × (Bool × List Int) × Int × Unit := if z = 0 then zerr else (wc (euQ y z), wc (euR y z), 0, ())
theorem sgn_mul_neg {x y : Int} : sgn x * sgn y < 0 ↔ (x < 0 ∧ 0 < y) ∨ (0 < x ∧ y < 0) := by
  rcases tri x with ⟨h1, h2, _⟩ | ⟨h1, h2, _⟩ | ⟨h1, h2, _⟩ <;> rcases tri y with ⟨g1, g2, _⟩ | ⟨g1, g2, _⟩ | ⟨g1, g2, _⟩ <;> rw [h2, g2] <;> omega
theorem fl_spec (y : Int) {z : Int} (hz : z ≠ 0) : flQ y z * z + flR y z = y ∧ -ab z < flR y z ∧ flR y z < ab z ∧ (0 < z → 0 ≤ flR y z) ∧ (z < 0 → flR y z ≤ 0) := by
  have h1 := Int.tdiv_mul_add_tmod y z
  have h2 := tmod_bound y hz
  have tz := tri z
  unfold flQ flR
  by_cases h : sgn (y.tmod z) * sgn z < 0
  · rw [if_pos h, if_pos h]
    rw [sgn_mul_neg] at h
    rw [Int.sub_mul]
    omega
  · rw [if_neg h, if_neg h]
    rw [sgn_mul_neg] at h
    omega
theorem eu_spec (y : Int) {z : Int} (hz : z ≠ 0) : euQ y z * z + euR y z = y ∧ 0 ≤ euR y z ∧ euR y z < ab z := by
  have h1 := Int.tdiv_mul_add_tmod y z
  have h2 := tmod_bound y hz
  have tz := tri z
  unfold euQ euR
  by_cases h : y.tmod z < 0
  · rw [if_pos h, if_pos h]
    by_cases h3 : z < 0
    · rw [if_pos h3, if_pos h3, Int.add_mul]; omega
    · rw [if_neg h3, if_neg h3, Int.sub_mul]; omega
  · rw [if_neg h, if_neg h]; omega
theorem Wn.fq {p q y z n m} (h : Wn p y n) (g : Wn q z m) : Wn (wc (flQ y z)) (flQ y z) (n + 1) := .of (by
  have := h.bound
  have := tdiv_bound y z
  have := tri y
  have := pw_pos n
  rw [pw_succ]
  unfold flQ
  split <;> omega)
theorem Wn.fr {p q y z n m} (h : Wn p y n) (g : Wn q z m) (hz : z ≠ 0) : Wn (wc (flR y z)) (flR y z) m := .of (by
  have := g.bound
  have := fl_spec y hz
  have := tri z
  omega)
theorem Wn.uq {p q y z n m} (h : Wn p y n) (g : Wn q z m) : Wn (wc (euQ y z)) (euQ y z) (n + 1) := .of (by
  have := h.bound
  have := tdiv_bound y z
  have := tri y
  have := pw_pos n
  rw [pw_succ]
  unfold euQ
  split <;> (try split) <;> omega)
theorem Wn.ur {p q y z n m} (h : Wn p y n) (g : Wn q z m) (hz : z ≠ 0) : Wn (wc (euR y z)) (euR y z) m := .of (by
  have := g.bound
  have := eu_spec y hz
  have := tri z
  omega)
theorem wc1 {n : Nat} (h : 1 ≤ n) : Wn (wc 1) 1 n := (Wn.of (z := 1) (n := 1) (by decide)).mono h
theorem moved_down {p q b : Bool × List Int} {x r z : Int} {n : Nat} (h : Wn p x n) (g : Wn q r n) (k : Wn b z n) (h1 : 1 ≤ n) (hn : n < 70368744177664) (hs : (r < 0 ∧ 0 < z) ∨ (0 < r ∧ z < 0)) : whole_moved.F (p, q, b, true, ()) = some (wc (x - 1), wc (r + z), 0, ()) := by
  refine whole_moved.of 0 p q b true ?_
  have tr := tri r
  have tz := tri z
  have hne : sgn r ≠ sgn z := by omega
  have hn' := Nat.le_of_lt hn
  simp (disch := omega) only [c_dec, c_beq, c_bne, c_and, c_or, c_not, blt_dec, up1, dn1, if_t, if_f, if_true, if_false, Int.toNat_natCast, Option.bind_some, ne_eq, not_true_eq_false, not_false_eq_true, true_and, and_true, whole_moved.e, pe, g.Sign_F hn', k.Sign_F hn', WOf_F (n := 1) (by decide), h.Sub_F (wc1 h1) hn, g.Add_F k hn, cond_true, Bool.not_true, cond_false]
theorem Wn.Floor_F {p q y z n m} (h : Wn p y n) (g : Wn q z m) (hn : n < 70368744177664) (hm : m < 70368744177664) (h1 : 1 ≤ n ∨ 1 ≤ m) : whole_Floor.F (p, q, ()) = some (flI y z) := by
  refine whole_Floor.of 0 p q ?_
  have hd := h.Quo_F g hn hm
  unfold quoI at hd
  unfold flI
  by_cases h0 : z = 0
  · rw [if_pos h0] at hd ⊢
    simp (disch := omega) only [c_dec, c_beq, c_bne, c_and, c_or, c_not, blt_dec, up1, dn1, if_t, if_f, if_true, if_false, Int.toNat_natCast, Option.bind_some, ne_eq, not_true_eq_false, not_false_eq_true, true_and, and_true, whole_Floor.e, pe, hd, zerr]
  · rw [if_neg h0] at hd ⊢
    have hq := h.quo g
    have hr := h.rem g h0
    have sr := hr.Sign_F (Nat.le_of_lt hm)
    have sz := g.Sign_F (Nat.le_of_lt hm)
    have hw : IntKind.i64.wrap (sgn (y.tmod z) * sgn z) = sgn (y.tmod z) * sgn z := IntWalk.i64_in _ (by have := tri_mul (sgn_cases (y.tmod z)) (sgn_cases z); omega)
    unfold flQ flR
    by_cases hs : sgn (y.tmod z) * sgn z < 0
    · have hM := moved_down (hq.mono (Nat.le_max_left n m)) (hr.mono (Nat.le_max_right n m)) (g.mono (Nat.le_max_right n m)) (by omega) (by omega) (sgn_mul_neg.1 hs)
      rw [if_pos hs, if_pos hs]
      simp (disch := omega) only [c_dec, c_beq, c_bne, c_and, c_or, c_not, blt_dec, up1, dn1, if_t, if_f, if_true, if_false, Int.toNat_natCast, Option.bind_some, ne_eq, not_true_eq_false, not_false_eq_true, true_and, and_true, whole_Floor.e, pe, hd, sr, sz, hw, decide_eq_true hs, hM, cond_true]
    · rw [if_neg hs, if_neg hs]
      simp (disch := omega) only [c_dec, c_beq, c_bne, c_and, c_or, c_not, blt_dec, up1, dn1, if_t, if_f, if_true, if_false, Int.toNat_natCast, Option.bind_some, ne_eq, not_true_eq_false, not_false_eq_true, true_and, and_true, whole_Floor.e, pe, hd, sr, sz, hw, decide_eq_false hs, cond_false]
theorem Wn.Euclid_F {p q y z n m} (h : Wn p y n) (g : Wn q z m) (hn : n < 70368744177664) (hm : m < 70368744177664) (h1 : 1 ≤ n ∨ 1 ≤ m) : whole_Euclid.F (p, q, ()) = some (euI y z) := by
  refine whole_Euclid.of 0 p q ?_
  have hd := h.Quo_F g hn hm
  unfold quoI at hd
  unfold euI
  by_cases h0 : z = 0
  · rw [if_pos h0] at hd ⊢
    simp (disch := omega) only [c_dec, c_beq, c_bne, c_and, c_or, c_not, blt_dec, up1, dn1, if_t, if_f, if_true, if_false, Int.toNat_natCast, Option.bind_some, ne_eq, not_true_eq_false, not_false_eq_true, true_and, and_true, whole_Euclid.e, pe, hd, zerr]
  · rw [if_neg h0] at hd ⊢
    have hq := (h.quo g).mono (Nat.le_max_left n m)
    have hr := (h.rem g h0).mono (Nat.le_max_right n m)
    have hz := g.mono (Nat.le_max_right n m)
    have hl : max n m < 70368744177664 := by omega
    have sr := hr.Sign_F (Nat.le_of_lt hl)
    have sz := g.Sign_F (Nat.le_of_lt hm)
    have k1 := hq.Add_F (wc1 (n := max n m) (by omega)) hl
    have k2 := hr.Sub_F hz hl
    have tr := tri (y.tmod z)
    have tz := tri z
    unfold euQ euR
    by_cases hs : y.tmod z < 0
    · have c1 : sgn (y.tmod z) < 0 := by omega
      rw [if_pos hs, if_pos hs]
      by_cases h2 : z < 0
      · have c2 : sgn z < 0 := by omega
        rw [if_pos h2, if_pos h2]
        simp (disch := omega) only [c_dec, c_beq, c_bne, c_and, c_or, c_not, blt_dec, up1, dn1, if_t, if_f, if_true, if_false, Int.toNat_natCast, Option.bind_some, ne_eq, not_true_eq_false, not_false_eq_true, true_and, and_true, whole_Euclid.e, pe, hd, sr, sz, c1, c2, WOf_F (n := 1) (by decide), k1, k2]
      · have c2 : ¬ sgn z < 0 := by omega
        have hM := moved_down hq hr hz (by omega) hl (.inl ⟨hs, by omega⟩)
        rw [if_neg h2, if_neg h2]
        simp (disch := omega) only [c_dec, c_beq, c_bne, c_and, c_or, c_not, blt_dec, up1, dn1, if_t, if_f, if_true, if_false, Int.toNat_natCast, Option.bind_some, ne_eq, not_true_eq_false, not_false_eq_true, true_and, and_true, whole_Euclid.e, pe, hd, sr, sz, c1, c2, decide_true, hM, cond_true]
    · have c1 : ¬ sgn (y.tmod z) < 0 := by omega
      rw [if_neg hs, if_neg hs]
      simp (disch := omega) only [c_dec, c_beq, c_bne, c_and, c_or, c_not, blt_dec, up1, dn1, if_t, if_f, if_true, if_false, Int.toNat_natCast, Option.bind_some, ne_eq, not_true_eq_false, not_false_eq_true, true_and, and_true, whole_Euclid.e, pe, hd, sr, c1, decide_false, cond_false]
def wshI (y i : Int) : (Bool × List Int) × Int × Unit := if i < -1048576 ∨ 1048576 < i then ((false, []), 12, ()) else (wc (shiftV y i), 0, ())
theorem wc_zero : wc 0 = (false, []) := by rw [wc_pos (Int.le_refl 0), (canon_nil_iff (Int.le_refl 0)).2 rfl]
theorem nm_nil : Nm [] 0 0 := ⟨Limbs.nil, rfl, Nat.le_refl _⟩
theorem neg_floor {y D : Int} (hD : 0 < D) : -((-(y + 1)) / D) - 1 = y / D := by
  have h1 := Int.mul_ediv_add_emod (-(y + 1)) D
  have h2 := Int.emod_nonneg (-(y + 1)) (b := D) (by omega)
  have h3 := Int.emod_lt_of_pos (-(y + 1)) hD
  generalize (-(y + 1)) / D = q at h1
  generalize (-(y + 1)) % D = r at h1 h2 h3
  refine ((div_unique (x := y) (q := -q - 1) (b := D) (r := D - 1 - r) ?_ (by omega) (by omega)).1).symm
  rw [Int.sub_mul, Int.neg_mul, Int.one_mul, Int.mul_comm q]; omega
theorem shiftV_up (y : Int) {i : Int} (h : 0 ≤ i) : shiftV y i = y * 2 ^ i.toNat := if_pos h
theorem shiftV_down (y : Int) {i : Int} (h : i < 0) : shiftV y i = y / 2 ^ (-i).toNat := if_neg (by omega)
theorem Wn.shifted {p y n} (h : Wn p y n) {i : Int} (hi : ¬(i < -1048576 ∨ 1048576 < i)) : Wn (wc (shiftV y i)) (shiftV y i) (n + 32768) := by
  have hp := pw_pos n
  have hb := h.bound
  have hm := (pw_mono (show n ≤ n + 32768 by omega) : pw n ≤ pw (n + 32768))
  refine .of ?_
  by_cases h0 : 0 ≤ i
  · rw [shiftV_up y h0]
    have h1 := (h.nm.up (N := i.toNat) (m := 32768) (by omega)).lt
    have p := two_pos i.toNat
    have := tri y
    rcases this with ⟨h2, _, h3⟩ | ⟨h2, _, h3⟩ | ⟨h2, _, h3⟩
    · rw [h3, Int.neg_mul] at h1
      have := Int.mul_neg_of_neg_of_pos h2 p
      omega
    · rw [h2, Int.zero_mul]; omega
    · rw [h3] at h1
      have := Int.mul_pos h2 p
      omega
  · rw [shiftV_down y (by omega)]
    have p := two_pos (-i).toNat
    generalize (2 : Int) ^ (-i).toNat = D at p
    have h1 := Int.mul_ediv_add_emod y D
    have h2 := Int.emod_nonneg y (b := D) (by omega)
    have h3 := Int.emod_lt_of_pos y p
    by_cases hy : 0 ≤ y
    · have := Int.ediv_le_self D hy
      have := Int.ediv_nonneg hy (Int.le_of_lt p)
      omega
    · have h4 : y / D < 0 := Int.ediv_neg_of_neg_of_pos (by omega) p
      have h5 : y ≤ y / D := by
        have : D * (y / D) ≤ 1 * (y / D) := Int.mul_le_mul_of_nonpos_right (by omega) (by omega)
        have h6 : y / D * D = D * (y / D) := Int.mul_comm _ _
        have h7 : y < (y / D + 1) * D := Int.lt_ediv_add_one_mul_self y p
        rw [Int.add_mul, h6] at h7
        by_cases h8 : y / D < y
        · exfalso
          have h9 : (y / D + 1) * D ≤ y * D := Int.mul_le_mul_of_nonneg_right (by omega) (Int.le_of_lt p)
          have h10 : y * D ≤ y * 1 := Int.mul_le_mul_of_nonpos_left (by omega) (by omega)
          rw [Int.add_mul, h6] at h9
          omega
        · omega
      omega
theorem Wn.Shift_F {p y n} (h : Wn p y n) (hn : n ≤ 70368744000000) {i : Int} (hi : -9223372036854775808 ≤ i ∧ i ≤ 9223372036854775807) : whole_Shift.F (p, i, ()) = some (wshI y i) := by
  refine whole_Shift.of 0 p i ?_
  have sy := h.Sign_F (by omega)
  have ty := tri y
  have k1 := h.nm.Shift_F (by omega) hi
  by_cases hy : 0 ≤ y ∨ 0 ≤ i
  · have k2 : whole_signed.F ((shiftI (ab y) i).1, [sgn y], ()) = some ((wshI y i).1, ()) := by
      unfold wshI
      by_cases ho : i < -1048576 ∨ 1048576 < i
      · rw [shiftI_out ho, if_pos ho, nm_nil.signed1 (by omega) (sgn_cases y)]
        have : (if sgn y < 0 then -(0 : Int) else 0) = 0 := by split <;> rfl
        rw [this, wc_zero]
      · rw [shiftI_in ho, if_neg ho, (h.nm.shifted ho).signed1 (by omega) (sgn_cases y)]
        have : (if sgn y < 0 then -shiftV (ab y) i else shiftV (ab y) i) = shiftV y i := by
          rcases ty with ⟨h1, h2, h3⟩ | ⟨h1, h2, h3⟩ | ⟨h1, h2, h3⟩
          · rw [h2, h3, if_pos (by decide), shiftV_up _ (by omega), shiftV_up _ (by omega), Int.neg_mul, Int.neg_neg]
          · rw [h2, h3, h1, if_neg (by decide)]
          · rw [h2, h3, if_neg (by decide)]
        rw [this]
    have k3 : (shiftI (ab y) i).2.1 = (wshI y i).2.1 := by
      unfold wshI shiftI
      split <;> rfl
    by_cases h0 : 0 ≤ y
    · have c1 : sgn y ≥ 0 := by omega
      simp (disch := omega) only [c_dec, c_beq, c_bne, c_and, c_or, c_not, blt_dec, up1, dn1, if_t, if_f, if_true, if_false, Int.toNat_natCast, Option.bind_some, ne_eq, not_true_eq_false, not_false_eq_true, true_and, and_true, whole_Shift.e, pe, sy, c1, k1, k2, k3]
    · have c1 : ¬ sgn y ≥ 0 := by omega
      have c2 : i ≥ 0 := by omega
      simp (disch := omega) only [c_dec, c_beq, c_bne, c_and, c_or, c_not, blt_dec, up1, dn1, if_t, if_f, if_true, if_false, Int.toNat_natCast, Option.bind_some, ne_eq, not_true_eq_false, not_false_eq_true, true_and, and_true, whole_Shift.e, pe, sy, c1, c2, k1, k2, k3]
  · have c1 : ¬ sgn y ≥ 0 := by omega
    have c2 : ¬ i ≥ 0 := by omega
    have k4 := (h.mono (Nat.le_succ n)).Add_F (wc1 (n := n + 1) (by omega)) (by omega)
    have h1 := (h.mono (Nat.le_succ n)).add (wc1 (n := n + 1) (by omega))
    have k5 := h1.nm.Shift_F (by omega) hi
    have ty1 := tri (y + 1)
    unfold wshI
    by_cases ho : i < -1048576 ∨ 1048576 < i
    · rw [shiftI_out ho] at k5
      rw [if_pos ho]
      simp (disch := omega) only [c_dec, c_beq, c_bne, c_and, c_or, c_not, blt_dec, up1, dn1, if_t, if_f, if_true, if_false, Int.toNat_natCast, Option.bind_some, ne_eq, not_true_eq_false, not_false_eq_true, true_and, and_true, whole_Shift.e, pe, sy, c1, c2, WOf_F (n := 1) (by decide), k4, k5]
    · rw [shiftI_in ho] at k5
      rw [if_neg ho]
      have hs := h1.nm.shifted ho
      have k6 := hs.signed1 (by omega) (s := -1) (.inl rfl)
      rw [if_pos (by decide)] at k6
      have hw : Wn (wc (-shiftV (ab (y + 1)) i)) (-shiftV (ab (y + 1)) i) (n + 1 + 1 + 32768) := .of (by
        have := hs.pos
        have hlt : shiftV (ab (y + 1)) i < pw (n + 1 + 1 + 32768) := hs.lt
        have := pw_pos (n + 1 + 1 + 32768)
        omega)
      have k7 := hw.Sub_F (wc1 (n := n + 1 + 1 + 32768) (by omega)) (by omega)
      have e1 : -shiftV (ab (y + 1)) i - 1 = shiftV y i := by
        rw [shiftV_down _ (by omega), shiftV_down _ (by omega), show ab (y + 1) = -(y + 1) by omega]
        exact neg_floor (two_pos _)
      rw [e1] at k7
      simp (disch := omega) only [c_dec, c_beq, c_bne, c_and, c_or, c_not, blt_dec, up1, dn1, if_t, if_f, if_true, if_false, Int.toNat_natCast, Option.bind_some, ne_eq, not_true_eq_false, not_false_eq_true, true_and, and_true, whole_Shift.e, pe, sy, c1, c2, WOf_F (n := 1) (by decide), k4, k5, k6, k7]
theorem ab_natAbs (z : Int) : ab z = (z.natAbs : Int) := by unfold ab; split <;> omega
theorem gcdI_ab (y z : Int) : gcdI (ab y) (ab z) = gcdI y z := by
  unfold gcdI; rw [ab_natAbs, ab_natAbs]; simp [Int.gcd]
theorem gcdI_abr (y z : Int) : gcdI y (ab z) = gcdI y z := by
  unfold gcdI; rw [ab_natAbs]; simp [Int.gcd]
theorem gcdI_pos_iff {y z : Int} (h : z ≠ 0) : 0 < gcdI y z := gcdI_pos (.inr h)
theorem gcdI_le_ab (y : Int) {z : Int} (h : z ≠ 0) : gcdI y z ≤ ab z := by
  have h1 := gcdI_dvd_right y z
  have : gcdI y z ∣ ab z := by rw [ab_natAbs, Int.dvd_natAbs]; exact h1
  exact Int.le_of_dvd (by have := tri z; omega) this
/-- x is a number that y takes to the divisor modulo z, the least from 0 on. -/
structure Bez (y z v : Int) : Prop where
  pos : 0 ≤ v
  lt : gcdI y z * v < ab z
  dvd : z ∣ y * v - gcdI y z
theorem Wn.Gcd_F {p q y z n} (h : Wn p y n) (g : Wn q z n) (hn : n < 70368744177664) : whole_Gcd.F (p, q, ()) = some (canon (gcdI y z), ()) := by
  refine whole_Gcd.of 0 p q ?_
  simp only [whole_Gcd.e, h.nm.Gcd_F g.nm hn, gcdI_ab, Option.bind_some]
def lcmV (y z : Int) : Int := ab y / gcdI y z * ab z
theorem Wn.gcd {p q y z n} (h : Wn p y n) (g : Wn q z n) : Nm (canon (gcdI y z)) (gcdI y z) n := by
  refine .canon (gcdI_nonneg y z) ?_
  rw [← gcdI_ab]
  exact gcdI_lt h.nm.pos g.nm.pos h.nm.lt g.nm.lt
theorem canon_zero : canon 0 = [] := (canon_nil_iff (Int.le_refl 0)).2 rfl
theorem lcm_zero {y z : Int} (h : y = 0 ∨ z = 0) : lcmV y z = 0 := by
  unfold lcmV
  rcases h with rfl | rfl <;> simp [ab]
theorem Wn.Lcm_F {p q y z n} (h : Wn p y n) (g : Wn q z n) (hn : n + n ≤ 70368744177664) (h1 : 1 ≤ n) : whole_Lcm.F (p, q, ()) = some (canon (lcmV y z), ()) := by
  refine whole_Lcm.of 0 p q ?_
  have sy := h.Sign_F (show n ≤ 70368744177664 by omega)
  have sz := g.Sign_F (show n ≤ 70368744177664 by omega)
  have hw : IntKind.i64.wrap (sgn y * sgn z) = sgn y * sgn z := IntWalk.i64_in _ (by have := tri_mul (sgn_cases y) (sgn_cases z); omega)
  have ty := tri y
  have tz := tri z
  by_cases h0 : y = 0 ∨ z = 0
  · have e0 : sgn y * sgn z = 0 := by
      rcases h0 with rfl | rfl <;> simp [sgn]
    rw [e0] at hw
    have hw0 : IntKind.i64.wrap (sgn y * sgn z) = 0 := by rw [e0]; exact hw
    rw [lcm_zero h0, canon_zero]
    simp (disch := omega) only [c_dec, c_beq, c_bne, c_and, c_or, c_not, blt_dec, up1, dn1, if_t, if_f, if_true, if_false, Int.toNat_natCast, Option.bind_some, ne_eq, not_true_eq_false, not_false_eq_true, true_and, and_true, whole_Lcm.e, pe, sy, sz, hw0]
  · have e0 : sgn y * sgn z ≠ 0 := by
      have h2 : sgn y ≠ 0 := by omega
      have h3 : sgn z ≠ 0 := by omega
      exact Int.mul_ne_zero h2 h3
    have k1 := h.Gcd_F g (by omega)
    have hg := h.gcd g
    have k2 := h.nm.Div_F hg (by omega) (by omega)
    rw [divI_pos (by have := gcdI_pos_iff (y := y) (z := z) (by omega); omega)] at k2
    have k3 := (h.nm.quo hg).Mul_F g.nm hn
    simp (disch := omega) only [c_dec, c_beq, c_bne, c_and, c_or, c_not, blt_dec, up1, dn1, if_t, if_f, if_true, if_false, Int.toNat_natCast, Option.bind_some, ne_eq, not_true_eq_false, not_false_eq_true, true_and, and_true, whole_Lcm.e, pe, sy, sz, hw, e0, k1, k2, k3]
    rfl
/-- What the loop keeps: m is z without its sign. -/
structure Euc (y z : Int) (r0 r1 x0 x1 : Int) : Prop where
  p0 : 0 < r0
  p1 : 0 ≤ r1
  l0 : r0 ≤ ab z
  l1 : r1 < r0
  gcd : gcdI r0 r1 = gcdI y z
  d0 : z ∣ y * x0 - r0
  d1 : z ∣ y * x1 - r1
  size : ∃ s A B : Int, (s = 1 ∨ s = -1) ∧ 0 ≤ A ∧ 0 ≤ B ∧ B ≤ ab z ∧ x1 = s * A ∧ x0 = -(s * B) ∧ A * r0 + B * r1 = ab z
theorem Euc.next {y z r0 r1 x0 x1 : Int} (h : Euc y z r0 r1 x0 x1) (h1 : r1 ≠ 0) : Euc y z r1 (r0 % r1) x1 (x0 - r0 / r1 * x1) := by
  have hp0 := h.p0
  have hp1 := h.p1
  have hl0 := h.l0
  have hl1 := h.l1
  have em : r0 % r1 = r0 - r1 * (r0 / r1) := Int.emod_def r0 r1
  have m1 := Int.emod_nonneg r0 h1
  have m2 := Int.emod_lt_of_pos r0 (show 0 < r1 by omega)
  have hq : 0 ≤ r0 / r1 := Int.ediv_nonneg (Int.le_of_lt hp0) hp1
  refine ⟨by omega, m1, by omega, m2, by rw [gcdI_emod, h.gcd], h.d1, ?_, ?_⟩
  · obtain ⟨a, ha⟩ := h.d0
    obtain ⟨b, hb⟩ := h.d1
    exact ⟨a - r0 / r1 * b, by rw [em]; generalize r0 / r1 = q; grind⟩
  · obtain ⟨s, A, B, hs, hA, hB, hBm, e1, e0, e⟩ := h.size
    have hAm : A ≤ ab z := by
      have g1 : A * 1 ≤ A * r0 := Int.mul_le_mul_of_nonneg_left (by omega) hA
      have g2 : 0 ≤ B * r1 := Int.mul_nonneg hB hp1
      omega
    have hqA := Int.mul_nonneg hq hA
    refine ⟨-s, B + r0 / r1 * A, A, by omega, by omega, hA, hAm, ?_, ?_, ?_⟩
    · rw [e1, e0]; generalize r0 / r1 = q; grind
    · rw [e1]; grind
    · rw [em]; generalize r0 / r1 = q; grind
theorem Euc.small {y z r0 r1 x0 x1 : Int} (h : Euc y z r0 r1 x0 x1) : ab x0 ≤ ab z ∧ ab x1 ≤ ab z := by
  obtain ⟨s, A, B, hs, hA, hB, hBm, e1, e0, e⟩ := h.size
  have hp0 := h.p0
  have hAm : A ≤ ab z := by
    have g1 : A * 1 ≤ A * r0 := Int.mul_le_mul_of_nonneg_left (by omega) hA
    have g2 : 0 ≤ B * r1 := Int.mul_nonneg hB h.p1
    omega
  have t0 := tri x0
  have t1 := tri x1
  rcases hs with rfl | rfl
  · rw [Int.one_mul] at e1 e0; omega
  · rw [Int.neg_mul, Int.one_mul] at e1 e0; omega
theorem Euc.start {y z : Int} (hz : z ≠ 0) {r : Int} (h : 0 ≤ r ∧ r < ab z) (hr : z ∣ y - r) (hg : gcdI (ab z) r = gcdI y z) : Euc y z (ab z) r 0 1 := by
  have tz := tri z
  refine ⟨by omega, h.1, Int.le_refl _, h.2, hg, ?_, by rw [Int.mul_one]; exact hr, 1, 1, 0, .inl rfl, by decide, by decide, by omega, by decide, by decide, by omega⟩
  rw [Int.mul_zero, Int.zero_sub, Int.dvd_neg, ab_natAbs, Int.dvd_natAbs]
  exact Int.dvd_refl z
/-- A rest of y and z has the divisors of both. -/
theorem gcdI_rest {y z r k : Int} (h : k * z + r = y) : gcdI z r = gcdI y z := by
  have : r = y - k * z := by omega
  rw [this]
  unfold gcdI
  rw [Int.gcd_sub_mul_right_right, Int.gcd_comm]
/-- What comes of it where nothing is left. -/
theorem Euc.last {y z r0 x0 x1 : Int} (h : Euc y z r0 0 x0 x1) : r0 = gcdI y z ∧ z ∣ y * x0 - gcdI y z := by
  have h1 := h.gcd
  rw [gcdI_zero (Int.le_of_lt h.p0)] at h1
  exact ⟨h1, h1 ▸ h.d0⟩
theorem Wn.le {z x : Int} {n : Nat} (hz : ab z < pw n) (h : ab x ≤ ab z) : Wn (wc x) x n := .of (by
  have := tri x
  have := tri z
  omega)
theorem quoI_pos {r0 r1 : Int} (h0 : 0 ≤ r0) (h1 : r1 ≠ 0) : quoI r0 r1 = (wc (r0 / r1), wc (r0 % r1), 0, ()) := by
  unfold quoI; rw [if_neg h1, Int.tdiv_eq_ediv_of_nonneg h0, Int.tmod_eq_emod_of_nonneg h0]
theorem Nm.plain_F {a x n} (h : Nm a x n) (hn : n ≤ 70368744177664) : whole_plain.F (a, ()) = some (wc x, ()) := by
  refine whole_plain.of 0 a ?_
  simp only [whole_plain.e, pe, h.signed0 hn, Option.bind_some]
structure St where
  r0 : Int
  r1 : Int
  x0 : Int
  x1 : Int
theorem inv_loop {q : Bool × List Int} {y z : Int} {n : Nat} (g : Wn q z n) (hz : z ≠ 0) (h1 : 1 ≤ n) (hn : n + n < 70368744177664) (s : St) (hs : Euc y z s.r0 s.r1 s.x0 s.x1) :
    ∃ t, z ∣ y * t - gcdI y z ∧ ∃ j, ∀ k, whole_Inverse.L6 (k + j) q.1 q.2 false (wc s.r0).1 (wc s.r0).2 (wc s.x0).1 (wc s.x0).2 (wc s.r1).1 (wc s.r1).2 (wc s.x1).1 (wc s.x1).2 = (if gcdI y z = 1 then some (wc (euR t z), 0, ()) else some ((false, []), 20, ())) := by
  have hlt := g.nm.lt
  refine reach (fun k (s : St) => whole_Inverse.L6 k q.1 q.2 false (wc s.r0).1 (wc s.r0).2 (wc s.x0).1 (wc s.x0).2 (wc s.r1).1 (wc s.r1).2 (wc s.x1).1 (wc s.x1).2) (fun _ t => if gcdI y z = 1 then some (wc (euR t z), 0, ()) else some ((false, []), 20, ())) (fun s => Euc y z s.r0 s.r1 s.x0 s.x1) (fun s => s.r1.toNat) (fun t => z ∣ y * t - gcdI y z) (fun s hs => ?_) s hs
  obtain ⟨r0, r1, x0, x1⟩ := s
  simp only at hs ⊢
  have hp0 := hs.p0
  have hp1 := hs.p1
  have hl0 := hs.l0
  have hl1 := hs.l1
  have tz := tri z
  have t0 := tri r0
  have t1 := tri r1
  have w0 : Wn (wc r0) r0 n := Wn.le hlt (by omega)
  have w1 : Wn (wc r1) r1 n := Wn.le hlt (by omega)
  have u0 : Wn (wc x0) x0 n := Wn.le hlt hs.small.1
  have u1 : Wn (wc x1) x1 n := Wn.le hlt hs.small.2
  have k1 := w1.Sign_F (show n ≤ 70368744177664 by omega)
  by_cases h0 : r1 = 0
  · subst h0
    obtain ⟨e1, e2⟩ := hs.last
    refine .inr ⟨x0, e2, 1, fun k => ?_⟩
    rw [show sgn 0 = 0 from rfl] at k1
    have k2 := w0.Cmp_F (wc1 h1) (show n < 70368744177664 by omega)
    have k3 := u0.Euclid_F g (show n < 70368744177664 by omega) (show n < 70368744177664 by omega) (.inl h1)
    unfold euI at k3
    rw [if_neg hz] at k3
    have t2 := tri (r0 - 1)
    by_cases hg : gcdI y z = 1
    · have c : sgn (r0 - 1) = 0 := by omega
      rw [if_pos hg]
      simp (disch := omega) only [c_dec, c_beq, c_bne, c_and, c_or, c_not, blt_dec, up1, dn1, if_t, if_f, if_true, if_false, Int.toNat_natCast, Option.bind_some, ne_eq, not_true_eq_false, not_false_eq_true, true_and, and_true, whole_Inverse.L6_succ, whole_Inverse.b6, pe, k1, WOf_F (n := 1) (by decide), k2, k3, c]
    · have c : sgn (r0 - 1) ≠ 0 := by omega
      rw [if_neg hg]
      simp (disch := omega) only [c_dec, c_beq, c_bne, c_and, c_or, c_not, blt_dec, up1, dn1, if_t, if_f, if_true, if_false, Int.toNat_natCast, Option.bind_some, ne_eq, not_true_eq_false, not_false_eq_true, true_and, and_true, whole_Inverse.L6_succ, whole_Inverse.b6, pe, k1, WOf_F (n := 1) (by decide), k2, c]
  · have c : sgn r1 ≠ 0 := by omega
    have k2 := w0.Quo_F w1 (show n < 70368744177664 by omega) (show n < 70368744177664 by omega)
    rw [quoI_pos (Int.le_of_lt hp0) h0] at k2
    have hq0 := Int.ediv_nonneg (Int.le_of_lt hp0) hp1
    have hq1 := Int.ediv_le_self r1 (Int.le_of_lt hp0)
    have tq := tri (r0 / r1)
    have wq : Wn (wc (r0 / r1)) (r0 / r1) n := Wn.le hlt (by omega)
    have k3 := wq.Mul_F u1 (show n + n ≤ 70368744177664 by omega)
    have k4 := (u0.mono (show n ≤ n + n by omega)).Sub_F (wq.mul u1) hn
    have m2 := Int.emod_lt_of_pos r0 (show 0 < r1 by omega)
    have m1 := Int.emod_nonneg r0 h0
    refine .inl ⟨⟨r1, r0 % r1, x1, x0 - r0 / r1 * x1⟩, hs.next h0, by simp only; omega, 1, fun k => ?_⟩
    simp (disch := omega) only [c_dec, c_beq, c_bne, c_and, c_or, c_not, blt_dec, up1, dn1, if_t, if_f, if_true, if_false, Int.toNat_natCast, Option.bind_some, ne_eq, not_true_eq_false, not_false_eq_true, true_and, and_true, whole_Inverse.L6_succ, whole_Inverse.b6, pe, k1, c, k2, k3, k4]
theorem Wn.Inverse_zero {p q y z n} (h : Wn p y n) (g : Wn q z n) (hn : n ≤ 70368744177664) (hz : z = 0) : whole_Inverse.F (p, q, ()) = some ((false, []), 20, ()) := by
  refine whole_Inverse.of 0 p q ?_
  have k1 := g.Sign_F hn
  rw [hz, show sgn 0 = 0 from rfl] at k1
  simp (disch := omega) only [c_dec, c_beq, c_bne, c_and, c_or, c_not, blt_dec, up1, dn1, if_t, if_f, if_true, if_false, Int.toNat_natCast, Option.bind_some, ne_eq, not_true_eq_false, not_false_eq_true, true_and, and_true, whole_Inverse.e, pe, k1]
theorem Wn.Inverse_F {p q y z n} (h : Wn p y n) (g : Wn q z n) (h1 : 1 ≤ n) (hn : n + n < 70368744177664) (hz : z ≠ 0) :
    (gcdI y z = 1 → ∃ v, Bez y z v ∧ whole_Inverse.F (p, q, ()) = some (wc v, 0, ())) ∧ (gcdI y z ≠ 1 → whole_Inverse.F (p, q, ()) = some ((false, []), 20, ())) := by
  have tz := tri z
  have he := eu_spec y hz
  have hst : Euc y z (Try.ab z) (euR y z) 0 1 := Euc.start hz he.2 ⟨euQ y z, by have := he.1; grind⟩ (by
    rw [gcdI_comm, gcdI_abr, gcdI_comm]; exact gcdI_rest he.1)
  obtain ⟨t, ht, j, hj⟩ := inv_loop g hz h1 hn ⟨Try.ab z, euR y z, 0, 1⟩ hst
  simp only at hj
  have k1 := g.Sign_F (show n ≤ 70368744177664 by omega)
  have c : sgn z ≠ 0 := by omega
  have k2 := g.nm.plain_F (show n ≤ 70368744177664 by omega)
  have k3 := h.Euclid_F g (show n < 70368744177664 by omega) (show n < 70368744177664 by omega) (.inl h1)
  unfold euI at k3
  rw [if_neg hz] at k3
  have hF : whole_Inverse.F (p, q, ()) = (if gcdI y z = 1 then some (wc (euR t z), 0, ()) else some ((false, []), 20, ())) := by
    have : ∀ r, (if gcdI y z = 1 then some (wc (euR t z), (0 : Int), ()) else some ((false, []), 20, ())) = some r → whole_Inverse.F (p, q, ()) = some r := by
      intro r hr
      refine whole_Inverse.of (0 + j) p q ?_
      simp (disch := omega) only [c_dec, c_beq, c_bne, c_and, c_or, c_not, blt_dec, up1, dn1, if_t, if_f, if_true, if_false, Int.toNat_natCast, Option.bind_some, ne_eq, not_true_eq_false, not_false_eq_true, true_and, and_true, whole_Inverse.e, pe, k1, c, k2, k3, WOf_F (n := 0) (by decide), WOf_F (n := 1) (by decide)]
      rw [hj 0, hr]
    by_cases hg : gcdI y z = 1
    · rw [if_pos hg] at this ⊢; exact this _ rfl
    · rw [if_neg hg] at this ⊢; exact this _ rfl
  refine ⟨fun hg => ?_, fun hg => ?_⟩
  · rw [if_pos hg] at hF
    have hv := eu_spec t hz
    refine ⟨euR t z, ⟨hv.2.1, by rw [hg, Int.one_mul]; exact hv.2.2, ?_⟩, hF⟩
    obtain ⟨a, ha⟩ := ht
    exact ⟨a - y * euQ t z, by have := hv.1; grind⟩
  · rw [if_neg hg] at hF; exact hF
/-- The number that b is taken. -/
def bezY (y z v : Int) : Int := (gcdI y z - y * v).tdiv z
theorem Bez.prod {y z v : Int} (h : Bez y z v) : z * bezY y z v = gcdI y z - y * v := by
  have h1 : z ∣ gcdI y z - y * v := by
    obtain ⟨a, ha⟩ := h.dvd
    exact ⟨-a, by grind⟩
  exact Int.mul_tdiv_cancel' h1
theorem Bez.small {y z v : Int} (h : Bez y z v) (hz : z ≠ 0) : ab (bezY y z v) ≤ ab y + 1 := by
  have hp := h.prod
  have hg := gcdI_pos_iff (y := y) hz
  have hgz := gcdI_le_ab y hz
  have hv : v ≤ ab z := by
    have := Int.mul_le_mul_of_nonneg_right (show (1 : Int) ≤ gcdI y z by omega) h.pos
    have := h.lt
    omega
  have hm : ab (z * bezY y z v) = ab z * ab (bezY y z v) := ab_mul _ _
  rw [hp] at hm
  have hyv : ab (y * v) = ab y * v := by rw [ab_mul]; congr 1; have := tri v; have := h.pos; omega
  have h2 : ab y * v ≤ ab y * ab z := Int.mul_le_mul_of_nonneg_left hv (ab_nonneg y)
  have h3 : ab (gcdI y z - y * v) ≤ gcdI y z + ab (y * v) := by
    have := tri (y * v)
    have := tri (gcdI y z - y * v)
    omega
  have h4 : ab z * ab (bezY y z v) ≤ ab z * (ab y + 1) := by
    rw [← hm, Int.mul_add, Int.mul_one, Int.mul_comm (ab z)]; omega
  exact Int.le_of_mul_le_mul_left h4 (by have := tri z; omega)
theorem Bez.lt' {y z v : Int} (h : Bez y z v) (hz : z ≠ 0) : v < ab z := by
  have hg := gcdI_pos_iff (y := y) hz
  have := Int.mul_le_mul_of_nonneg_right (show (1 : Int) ≤ gcdI y z by omega) h.pos
  have := h.lt
  omega
theorem Bez.wn {p q y z n v} (h : Bez y z v) (hp : Wn p y n) (hq : Wn q z n) (hz : z ≠ 0) : Wn (wc v) v n ∧ Wn (wc (bezY y z v)) (bezY y z v) (n + 1) := by
  have b1 := hp.bound
  have b2 := hq.nm.lt
  have tv := tri v
  have := h.lt' hz
  have := h.pos
  have := h.small hz
  have := tri (bezY y z v)
  have := tri y
  have := pw_pos n
  refine ⟨Wn.le b2 (by omega), .of ?_⟩
  rw [pw_succ]; omega
def bezI (y z v : Int) : List Int × (Bool × List Int) × (Bool × List Int) × Unit := (canon (gcdI y z), wc v, wc (bezY y z v), ())
theorem Wn.Bezout_zero {p q y z n} (h : Wn p y n) (g : Wn q z n) (hn : n < 70368744177664) (hz : z = 0) : whole_Bezout.F (p, q, ()) = some (canon (gcdI y z), wc (sgn y), wc 0, ()) := by
  refine whole_Bezout.of 0 p q ?_
  have k1 := g.Sign_F (Nat.le_of_lt hn)
  rw [show sgn z = 0 by rw [hz]; rfl] at k1
  have := sgn_cases y
  simp (disch := omega) only [c_dec, c_beq, c_bne, c_and, c_or, c_not, blt_dec, up1, dn1, if_t, if_f, if_true, if_false, Int.toNat_natCast, Option.bind_some, ne_eq, not_true_eq_false, not_false_eq_true, true_and, and_true, whole_Bezout.e, pe, h.Gcd_F g hn, k1, h.Sign_F (Nat.le_of_lt hn), WOf_F (n := sgn y) (by omega), WOf_F (n := 0) (by decide)]
theorem gcd_parts (y : Int) {z : Int} (hz : z ≠ 0) : y.tdiv (gcdI y z) * gcdI y z = y ∧ z.tdiv (gcdI y z) * gcdI y z = z ∧ gcdI (y.tdiv (gcdI y z)) (z.tdiv (gcdI y z)) = 1 := by
  have hg := gcdI_pos_iff (y := y) hz
  have e1 := Int.tdiv_mul_cancel (gcdI_dvd_left y z)
  have e2 := Int.tdiv_mul_cancel (gcdI_dvd_right y z)
  refine ⟨e1, e2, ?_⟩
  have h := gcdI_mul (y.tdiv (gcdI y z)) (z.tdiv (gcdI y z)) (gcdI y z) (Int.le_of_lt hg)
  rw [e1, e2] at h
  have : (gcdI (y.tdiv (gcdI y z)) (z.tdiv (gcdI y z)) - 1) * gcdI y z = 0 := by rw [Int.sub_mul, Int.one_mul, ← h]; omega
  rcases Int.mul_eq_zero.1 this with h1 | h1 <;> omega
theorem Wn.Bezout_F {p q y z n} (h : Wn p y n) (g : Wn q z n) (h1 : 1 ≤ n) (hn : n + n + 1 < 70368744177664) (hz : z ≠ 0) : ∃ v, Bez y z v ∧ whole_Bezout.F (p, q, ()) = some (bezI y z v) := by
  have hG := h.gcd g
  have hg := gcdI_pos_iff (y := y) hz
  obtain ⟨e1, e2, e3⟩ := gcd_parts y hz
  have tz := tri z
  have wg : Wn (wc (gcdI y z)) (gcdI y z) n := .of (by have := hG.lt; have := pw_pos n; omega)
  have wp := h.quo wg
  have wm := g.quo wg
  generalize hP : y.tdiv (gcdI y z) = P at e1 e3 wp
  generalize hM : z.tdiv (gcdI y z) = M at e2 e3 wm
  have hM0 : M ≠ 0 := by rintro rfl; rw [Int.zero_mul] at e2; omega
  obtain ⟨v, hv, hI⟩ := (wp.Inverse_F wm h1 (by omega) hM0).1 e3
  have hb : Bez y z v := by
    refine ⟨hv.pos, ?_, ?_⟩
    · have h2 := hv.lt
      rw [e3, Int.one_mul] at h2
      have h3 : gcdI y z * v < gcdI y z * Try.ab M := Int.mul_lt_mul_of_pos_left h2 hg
      have h4 : Try.ab z = Try.ab M * gcdI y z := by
        have := ab_mul M (gcdI y z)
        rw [e2] at this
        have t := tri (gcdI y z)
        have t2 : Try.ab (gcdI y z) = gcdI y z := by omega
        rw [this, t2]
      rw [h4, Int.mul_comm (Try.ab M)]; exact h3
    · obtain ⟨a, ha⟩ := hv.dvd
      rw [e3] at ha
      exact ⟨a, by generalize gcdI y z = G at *; grind⟩
  refine ⟨v, hb, whole_Bezout.of 0 p q ?_⟩
  have k1 := g.Sign_F (show n ≤ 70368744177664 by omega)
  have c : sgn z ≠ 0 := by omega
  have k2 := hG.plain_F (show n ≤ 70368744177664 by omega)
  have k3 := h.Quo_F wg (show n < 70368744177664 by omega) (show n < 70368744177664 by omega)
  have k4 := g.Quo_F wg (show n < 70368744177664 by omega) (show n < 70368744177664 by omega)
  unfold quoI at k3 k4
  rw [if_neg (by omega), hP] at k3
  rw [if_neg (by omega), hM] at k4
  have wv := (hb.wn h g hz).1
  have k5 := h.Mul_F wv (show n + n ≤ 70368744177664 by omega)
  have k6 := (wg.mono (show n ≤ n + n by omega)).Sub_F (h.mul wv) (by omega)
  have k7 := ((wg.mono (show n ≤ n + n by omega)).sub (h.mul wv)).Quo_F g (by omega) (show n < 70368744177664 by omega)
  unfold quoI at k7
  rw [if_neg hz] at k7
  simp (disch := omega) only [c_dec, c_beq, c_bne, c_and, c_or, c_not, blt_dec, up1, dn1, if_t, if_f, if_true, if_false, Int.toNat_natCast, Option.bind_some, ne_eq, not_true_eq_false, not_false_eq_true, true_and, and_true, whole_Bezout.e, pe, h.Gcd_F g (show n < 70368744177664 by omega), k1, c, k2, k3, k4, hI, k5, k6, k7]
  rfl
section
variable {α β : Type}
theorem st {x : Option α} {a : α} {f : α → Option β} {r : Option β} (h : x = some a) (g : f a = r) : x.bind f = r := by rw [h]; exact g
theorem no {b : Bool} {x y r : Option β} (h : b = false) (g : y = r) : (bif b then x else y) = r := by rw [h]; exact g
end
end Go.Fx.Try
