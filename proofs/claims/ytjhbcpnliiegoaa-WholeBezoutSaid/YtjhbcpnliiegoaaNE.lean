/- Shift: moved by any number of digits. -/
import Derived.Test.YtjhbcpnliiegoaaND
import Derived.Test.YtjhbcpnliiegoaaNB
namespace Go.Fx.Try
open Go Go.Fx Go.Fx.Num
set_option linter.unusedVariables false
set_option linter.unusedSimpArgs false

def shiftV (x n : Int) : Int := if 0 ≤ n then x * 2 ^ n.toNat else x / 2 ^ (-n).toNat
def shiftI (x n : Int) : List Int × Int × Unit := if n < -1048576 ∨ 1048576 < n then ([], 12, ()) else (canon (shiftV x n), 0, ())
theorem pow_split (N : Nat) : (2 : Int) ^ N = pw (N / 32) * 2 ^ (N % 32) := by
  rw [pw_two, ← Int.pow_add]; congr 1; omega

theorem nshift_down {y : List Int} (hy : Limbs y) (ly : y.length < 70368744177664) {s : Nat} (hs : s < 32) : ∃ j, ∀ k, nat_Shift.L14 (k + j) y (s : Int) (List.replicate y.length 0) y.length 0 = some (canon (val y / 2 ^ s), 0, ()) := by
  refine up (fun k (x : Nat × List Int) => nat_Shift.L14 k y (s : Int) x.2 y.length (x.1 : Int)) _ (fun i r => DownInv y s y.length i r) y.length (fun i r hi hr => ?_) (fun r hr => ?_) 0 _ (Nat.zero_le _) DownInv.start
  · have hnx := hr.next hy hs hi
    obtain ⟨h1, h2, h3, h4⟩ := hr
    have g1 := hy.get i
    have g2 := hy.get (i + 1)
    obtain ⟨d0, d1, d2, d3, d4, d5⟩ := down_limb g1 g2 hs
    have e1 : shrI .u32 (y.getD i 0) (s : Int) = y.getD i 0 / 2 ^ s := shr32 _ s (by omega)
    have e2 : (32 : Int) - (s : Int) = ((32 - s : Nat) : Int) := by omega
    have e3 : IntKind.u32.wrap (shlI .u64 (y.getD (i + 1) 0) ((32 - s : Nat) : Int)) = 2 ^ (32 - s) * (y.getD (i + 1) 0 % 2 ^ s) := by
      rw [shl_eq .u64 _ (32 - s) (by show 32 - s ≤ 64; omega), w64, w32, ← d0, Int.emod_emod_of_dvd _ (by decide)]
    have e4 : bitsOp .or .u32 (y.getD i 0 / 2 ^ s) (2 ^ (32 - s) * (y.getD (i + 1) 0 % 2 ^ s)) = 2 ^ (32 - s) * (y.getD (i + 1) 0 % 2 ^ s) + y.getD i 0 / 2 ^ s := or32_add' (32 - s) (y.getD (i + 1) 0 % 2 ^ s) rfl d1 ⟨d2, d3⟩ d4
    have e5 : (r.set i (y.getD i 0 / 2 ^ s)).getD i 0 = y.getD i 0 / 2 ^ s := by rw [getD_set (by omega), if_pos rfl]
    refine ⟨_, hnx, 1, fun k => ?_⟩
    by_cases hl : i + 1 < y.length
    · have e6 : IntKind.u64.wrap (y.getD (i + 1) 0) = y.getD (i + 1) 0 := IntWalk.u64_in _ (by omega)
      have e7 : IntKind.i64.wrap ((32 - s : Nat) : Int) = ((32 - s : Nat) : Int) := IntWalk.i64_in _ (by omega)
      simp (disch := omega) only [c_dec, c_beq, c_bne, c_and, c_or, c_not, blt_dec, up1, dn1, if_t, if_f, if_true, if_false, Int.toNat_natCast, Option.bind_some, ne_eq, not_true_eq_false, not_false_eq_true, true_and, and_true, nat_Shift.L14_succ, nat_Shift.b14, e1, e2, e3, e4, e5, e6, e7, List.length_set, List.set_set]
    · have hz : y.getD (i + 1) 0 = 0 := getD_out (by omega)
      rw [hz, Int.zero_emod, Int.mul_zero, Int.zero_add]
      simp (disch := omega) only [c_dec, c_beq, c_bne, c_and, c_or, c_not, blt_dec, up1, dn1, if_t, if_f, if_true, if_false, Int.toNat_natCast, Option.bind_some, ne_eq, not_true_eq_false, not_false_eq_true, true_and, and_true, nat_Shift.L14_succ, nat_Shift.b14, e1, List.length_set]
  · have hrv := hr.last hy hs (val_lt hy) (getD_out (Nat.le_refl _))
    obtain ⟨h1, h2, h3, h4⟩ := hr
    refine ⟨1, fun k => ?_⟩
    simp (disch := omega) only [c_dec, c_beq, c_bne, c_and, c_or, c_not, blt_dec, up1, dn1, if_t, if_f, if_true, if_false, Int.toNat_natCast, Option.bind_some, ne_eq, not_true_eq_false, not_false_eq_true, true_and, and_true, nat_Shift.L14_succ, nat_Shift.b14, own_F h2 (by omega), hrv]

theorem Shift_F {a : List Int} {n : Int} (ha : Limbs a) (la : a.length ≤ 70368744100000) (hn : -9223372036854775808 ≤ n ∧ n ≤ 9223372036854775807) : nat_Shift.F (a, n, ()) = some (shiftI (val a) n) := by
  have hx := val_nonneg ha
  have hc := canon_limbs (val a)
  have hv := val_canon hx
  have hl := canon_val_len ha
  have hlt := canon_len_lt hx
  unfold shiftI
  suffices hs : ∃ k, nat_Shift.e (nat_Shift.L14 k) a n = some (if n < -1048576 ∨ 1048576 < n then ([], 12, ()) else (canon (shiftV (val a) n), 0, ())) by obtain ⟨k, hk⟩ := hs; exact nat_Shift.of k a n hk
  by_cases h1 : n < -1048576
  · refine ⟨0, ?_⟩
    rw [if_pos (by omega)]
    simp (disch := omega) only [c_dec, c_beq, c_bne, c_and, c_or, c_not, blt_dec, up1, dn1, if_t, if_f, if_true, if_false, Int.toNat_natCast, Option.bind_some, ne_eq, not_true_eq_false, not_false_eq_true, true_and, and_true, nat_Shift.e]
  by_cases h2 : n > 1048576
  · refine ⟨0, ?_⟩
    rw [if_pos (by omega)]
    simp (disch := omega) only [c_dec, c_beq, c_bne, c_and, c_or, c_not, blt_dec, up1, dn1, if_t, if_f, if_true, if_false, Int.toNat_natCast, Option.bind_some, ne_eq, not_true_eq_false, not_false_eq_true, true_and, and_true, nat_Shift.e]
  rw [if_neg (by omega)]
  have hT := trim_F ha (by omega)
  generalize canon (val a) = c at hc hv hl hlt hT
  unfold shiftV
  by_cases h0 : 0 ≤ n
  · obtain ⟨N, rfl⟩ := Int.eq_ofNat_of_zero_le h0
    rw [if_pos h0, Int.toNat_natCast]
    obtain ⟨w, w1, w2, w3, w4⟩ := moved_F (up := N % 32) hc (by omega) (Nat.mod_lt _ (by decide))
    have e1 : (N : Int) / 32 = ((N / 32 : Nat) : Int) := by omega
    have e2 : (N : Int) % 32 = ((N % 32 : Nat) : Int) := by omega
    have e3 : ((N / 32 : Nat) : Int) + (c.length : Int) + 1 = ((N / 32 + c.length + 1 : Nat) : Int) := by omega
    have e4 : ((N / 32 + c.length + 1 : Nat) : Int) - ((N / 32 : Nat) : Int) = ((c.length + 1 : Nat) : Int) := by omega
    have e5 : Nat.blt 0 (c.length + 1) = true := by rw [blt_dec]; simp
    have e6 : Nat.ble (N / 32 + (c.length + 1)) (N / 32 + c.length + 1) = true := Nat.ble_eq_true_of_le (by omega)
    have e7 : List.take (N / 32) (List.replicate (N / 32 + c.length + 1) (0 : Int)) ++ (List.take (c.length + 1) w ++ List.drop (N / 32 + Nat.min w.length (c.length + 1)) (List.replicate (N / 32 + c.length + 1) 0)) = List.replicate (N / 32) 0 ++ w := by
      rw [List.take_replicate, List.drop_replicate, w3, show Nat.min (c.length + 1) (c.length + 1) = c.length + 1 from Nat.min_self _, show N / 32 + c.length + 1 - (N / 32 + (c.length + 1)) = 0 by omega, List.take_of_length_le (by omega), Nat.min_eq_left (by omega)]
      simp
    have hL := (Limbs.zeros (N / 32)).app w2
    have hV : val (List.replicate (N / 32) 0 ++ w) = val a * 2 ^ N := by
      rw [val_append, val_zeros, w4, hv, List.length_replicate, pow_split N, Int.zero_add, Int.mul_left_comm]
    refine ⟨0, ?_⟩
    simp (disch := omega) only [c_dec, c_beq, c_bne, c_and, c_or, c_not, blt_dec, up1, dn1, if_t, if_f, if_true, if_false, Int.toNat_natCast, Option.bind_some, ne_eq, not_true_eq_false, not_false_eq_true, true_and, and_true, nat_Shift.e, hT, IntWalk.i64_quo, IntWalk.rem_in, IntWalk.i64_in, e1, e2, e3, e4, List.length_replicate, w1, e5, e6, Bool.and_self, cond_true, e7, own_F hL (by simp; omega), hV]
  · obtain ⟨N, hN⟩ := Int.eq_ofNat_of_zero_le (show 0 ≤ -n by omega)
    obtain rfl : n = -(N : Int) := by omega
    rw [if_neg h0, Int.neg_neg, Int.toNat_natCast]
    have e0 : negI .i64 (-(N : Int)) = (N : Int) := by unfold negI; rw [IntWalk.i64_in _ (by omega)]; omega
    have e1 : (N : Int) / 32 = ((N / 32 : Nat) : Int) := by omega
    have e2 : (N : Int) % 32 = ((N % 32 : Nat) : Int) := by omega
    by_cases hq : c.length ≤ N / 32
    · refine ⟨0, ?_⟩
      have h3 : val a / 2 ^ N = 0 := by
        refine Int.ediv_eq_zero_of_lt hx ?_
        rw [pow_split N]
        have p1 := pw_mono hq
        have p2 := two_pos (N % 32)
        have : pw (N / 32) * 1 ≤ pw (N / 32) * 2 ^ (N % 32) := Int.mul_le_mul_of_nonneg_left (by omega) (Int.le_of_lt (pw_pos _))
        omega
      simp (disch := omega) only [c_dec, c_beq, c_bne, c_and, c_or, c_not, blt_dec, up1, dn1, if_t, if_f, if_true, if_false, Int.toNat_natCast, Option.bind_some, ne_eq, not_true_eq_false, not_false_eq_true, true_and, and_true, nat_Shift.e, hT, e0, IntWalk.i64_quo, IntWalk.rem_in, e1, e2, h3, canon_zero]
    · have hdl := hc.drop (N / 32)
      obtain ⟨j, hj⟩ := nshift_down hdl (by simp; omega) (s := N % 32) (Nat.mod_lt _ (by decide))
      have h3 : val (c.drop (N / 32)) / 2 ^ (N % 32) = val a / 2 ^ N := by
        rw [← val_div hc (by omega), hv, pow_split N, Int.ediv_ediv_of_nonneg (Int.le_of_lt (pw_pos _))]
      rw [h3] at hj
      refine ⟨0 + j, ?_⟩
      have hdlen : (c.drop (N / 32)).length ≤ 70368744100000 := by simp; omega
      simp (disch := omega) only [c_dec, c_beq, c_bne, c_and, c_or, c_not, blt_dec, up1, dn1, if_t, if_f, if_true, if_false, Int.toNat_natCast, Option.bind_some, ne_eq, not_true_eq_false, not_false_eq_true, true_and, and_true, nat_Shift.e, hT, e0, IntWalk.i64_quo, IntWalk.rem_in, e1, e2]
      exact hj 0
end Go.Fx.Try

namespace Go.Fx.Try
open Go Go.Fx Go.Fx.Num
set_option linter.unusedVariables false
set_option linter.unusedSimpArgs false

/-- A limb's two parts. -/
def lo (x : Int) (s : Nat) : Int := (x * 2 ^ s) % 4294967296
def hi (x : Int) (s : Nat) : Int := x * 2 ^ s / 4294967296
theorem lo_hi {x : Int} {s : Nat} (hx : 0 ≤ x ∧ x < 4294967296) (hs : s < 32) :
    lo x s + 4294967296 * hi x s = x * 2 ^ s ∧ 0 ≤ hi x s ∧ hi x s < 2 ^ s ∧ 0 ≤ lo x s ∧ lo x s ≤ 4294967296 - 2 ^ s ∧ (∀ c, 0 ≤ c → c < 2 ^ s → bitsOp .or .u32 c (lo x s) = lo x s + c) ∧ hi x s < 4294967296 := by
  have p1 := two_pos s
  have hB := two_split (u := s) (by omega)
  have p32 : (2 : Int) ^ s < 4294967296 := by
    have : (2 : Nat) ^ s < 2 ^ 32 := Nat.pow_lt_pow_right (by decide) hs
    have h := two_nat s
    omega
  obtain ⟨s1, s2, s3, z, s4, s5⟩ := shift_parts hx hs
  have e : x * 2 ^ s / 4294967296 = x / 2 ^ (32 - s) := by
    rw [hB, Int.mul_comm x, Int.mul_ediv_mul_of_pos _ _ p1]
  have hlt : 2 ^ s * z < 2 ^ s * 2 ^ (32 - s) := by rw [← hB, ← s5]; omega
  have := Int.lt_of_mul_lt_mul_left hlt (Int.le_of_lt p1)
  have h8 : 2 ^ s * z ≤ 2 ^ s * (2 ^ (32 - s) - 1) := Int.mul_le_mul_of_nonneg_left (by omega) (Int.le_of_lt p1)
  rw [Int.mul_sub, ← hB, Int.mul_one] at h8
  unfold lo hi
  rw [e]
  refine ⟨s1, s2, s3, Int.emod_nonneg _ (by decide), by rw [s5]; exact h8, fun c h0 h1 => or32_add' s z s5 s4 ⟨h0, h1⟩ (by rw [s5]; omega), by omega⟩

section
variable {a : List Int} {size : Nat} {out : List Int} {W : Int} {s i : Nat}

theorem rs_word (ha : Limbs a) (hs : s < 32) : IntKind.u32.wrap (shlI .u64 (IntKind.u64.wrap (a.getD i 0)) (s : Int)) = lo (a.getD i 0) s ∧
    IntKind.u32.wrap (shrI .u64 (shlI .u64 (IntKind.u64.wrap (a.getD i 0)) (s : Int)) 32) = hi (a.getD i 0) s := by
  have g := ha.get i
  have hp : (2 : Int) ^ s < 4294967296 := by
    have : (2 : Nat) ^ s < 2 ^ 32 := Nat.pow_lt_pow_right (by decide) hs
    have h := two_nat s
    omega
  have gm := mul_bound g ⟨Int.le_of_lt (two_pos s), hp⟩
  obtain ⟨_, _, _, _, _, _, h7⟩ := lo_hi g hs
  have e : shlI .u64 (IntKind.u64.wrap (a.getD i 0)) (s : Int) = a.getD i 0 * 2 ^ s := by
    rw [IntWalk.u64_in _ (by omega), shl_eq .u64 _ s (by show s ≤ 64; omega), IntWalk.u64_in _ (by omega)]
  rw [e, w32, shr64_32]
  refine ⟨rfl, ?_⟩
  have h0 : 0 ≤ a.getD i 0 * 2 ^ s / 4294967296 := Int.ediv_nonneg gm.1 (by decide)
  unfold hi at h7 ⊢
  rw [w32]; omega

theorem rs_none (ha : Limbs a) (hs : s < 32) (hi' : i < a.length) (la : a.length < 70368744177664) (hW : -70368744177664 ≤ W) (h : i + W + 1 < 0) (k : Nat) :
    fulcrumref01_Shift.L15 (k + 1) a size out W s i = fulcrumref01_Shift.L15 k a size out W s ((i + 1 : Nat) : Int) := by
  have e4 : IntKind.i64.wrap ((i : Int) + W) = i + W := IntWalk.i64_in _ (by omega)
  have e5 : IntKind.i64.wrap ((i : Int) + W + 1) = i + W + 1 := IntWalk.i64_in _ (by omega)
  simp (disch := omega) only [c_dec, c_beq, c_bne, c_and, c_or, c_not, blt_dec, up1, dn1, if_t, if_f, if_true, if_false, Int.toNat_natCast, Option.bind_some, ne_eq, not_true_eq_false, not_false_eq_true, true_and, and_true, fulcrumref01_Shift.L15_succ, fulcrumref01_Shift.b15, e4, e5, IntWalk.u64_in (s : Int)]
theorem rs_second (ha : Limbs a) (hs : s < 32) (hi' : i < a.length) (la : a.length < 70368744177664) (hW : -70368744177664 ≤ W) (h : i + W = -1) (ho : out.length = size) (h0 : 0 < size) (hz : out.getD 0 0 = 0) (k : Nat) :
    fulcrumref01_Shift.L15 (k + 1) a size out W s i = fulcrumref01_Shift.L15 k a size (out.set 0 (hi (a.getD i 0) s)) W s ((i + 1 : Nat) : Int) := by
  obtain ⟨e1, e2⟩ := rs_word (i := i) ha hs
  obtain ⟨_, h2, h3, _, _, _, h7⟩ := lo_hi (ha.get i) hs
  have e3 : bitsOp .or .u32 0 (hi (a.getD i 0) s) = hi (a.getD i 0) s := by
    obtain ⟨n, hn⟩ := Int.eq_ofNat_of_zero_le h2
    rw [hn]
    have := or32 (a := 0) (b := n) (by decide) (by omega)
    simpa using this
  have e4 : IntKind.i64.wrap ((i : Int) + W) = -1 := by rw [IntWalk.i64_in _ (by omega)]; exact h
  have e5 : IntKind.i64.wrap (-1 + 1) = 0 := by decide
  have e6 : Int.toNat 0 = 0 := rfl
  simp (disch := omega) only [c_dec, c_beq, c_bne, c_and, c_or, c_not, blt_dec, up1, dn1, if_t, if_f, if_true, if_false, Int.toNat_natCast, Option.bind_some, ne_eq, not_true_eq_false, not_false_eq_true, true_and, and_true, fulcrumref01_Shift.L15_succ, fulcrumref01_Shift.b15, e4, e5, e6, hz, e2, e3, IntWalk.u64_in (s : Int)]
theorem rs_both {p : Nat} (ha : Limbs a) (hs : s < 32) (hi' : i < a.length) (la : a.length < 70368744177664) (h : (i : Int) + W = p) (ho : out.length = size) (hp : p + 1 < size) (hsz : size < 4611686018427387904) (hz : out.getD (p + 1) 0 = 0) (hc : 0 ≤ out.getD p 0 ∧ out.getD p 0 < 2 ^ s) (k : Nat) :
    fulcrumref01_Shift.L15 (k + 1) a size out W s i = fulcrumref01_Shift.L15 k a size ((out.set p (lo (a.getD i 0) s + out.getD p 0)).set (p + 1) (hi (a.getD i 0) s)) W s ((i + 1 : Nat) : Int) := by
  obtain ⟨e1, e2⟩ := rs_word (i := i) ha hs
  obtain ⟨_, h2, h3, _, _, h6, h7⟩ := lo_hi (ha.get i) hs
  have e3 : bitsOp .or .u32 0 (hi (a.getD i 0) s) = hi (a.getD i 0) s := by
    obtain ⟨n, hn⟩ := Int.eq_ofNat_of_zero_le h2
    rw [hn]
    have := or32 (a := 0) (b := n) (by decide) (by omega)
    simpa using this
  have e4 : IntKind.i64.wrap ((i : Int) + W) = (p : Int) := by rw [IntWalk.i64_in _ (by omega)]; exact h
  have e5 := h6 _ hc.1 hc.2
  have e6 : (out.set p (lo (a.getD i 0) s + out.getD p 0)).getD (p + 1) 0 = 0 := by rw [getD_set (by omega), if_neg (by omega)]; exact hz
  simp (disch := omega) only [c_dec, c_beq, c_bne, c_and, c_or, c_not, blt_dec, up1, dn1, if_t, if_f, if_true, if_false, Int.toNat_natCast, Option.bind_some, ne_eq, not_true_eq_false, not_false_eq_true, true_and, and_true, fulcrumref01_Shift.L15_succ, fulcrumref01_Shift.b15, e4, e1, e2, e5, e6, e3, IntWalk.u64_in (s : Int), List.length_set]
theorem rs_first {p : Nat} (ha : Limbs a) (hs : s < 32) (hi' : i < a.length) (la : a.length < 70368744177664) (h : (i : Int) + W = p) (ho : out.length = size) (hp : p + 1 = size) (hsz : size < 4611686018427387904) (hc : 0 ≤ out.getD p 0 ∧ out.getD p 0 < 2 ^ s) (k : Nat) :
    fulcrumref01_Shift.L15 (k + 1) a size out W s i = fulcrumref01_Shift.L15 k a size (out.set p (lo (a.getD i 0) s + out.getD p 0)) W s ((i + 1 : Nat) : Int) := by
  obtain ⟨e1, e2⟩ := rs_word (i := i) ha hs
  obtain ⟨_, h2, h3, _, _, h6, h7⟩ := lo_hi (ha.get i) hs
  have e4 : IntKind.i64.wrap ((i : Int) + W) = (p : Int) := by rw [IntWalk.i64_in _ (by omega)]; exact h
  have e5 := h6 _ hc.1 hc.2
  simp (disch := omega) only [c_dec, c_beq, c_bne, c_and, c_or, c_not, blt_dec, up1, dn1, if_t, if_f, if_true, if_false, Int.toNat_natCast, Option.bind_some, ne_eq, not_true_eq_false, not_false_eq_true, true_and, and_true, fulcrumref01_Shift.L15_succ, fulcrumref01_Shift.b15, e4, e1, e2, e5, IntWalk.u64_in (s : Int), List.length_set]
end
end Go.Fx.Try

namespace Go.Fx.Try
open Go Go.Fx Go.Fx.Num
set_option linter.unusedVariables false
set_option linter.unusedSimpArgs false

theorem both_val {out : List Int} {p : Nat} {l h x c : Int} (hp : p + 1 < out.length) (hz : out.getD (p + 1) 0 = 0) (hc : out.getD p 0 = c) (e : l + 4294967296 * h = x) : val ((out.set p (l + c)).set (p + 1) h) = val out + x * pw p := by
  have hn := carry_step (c := out) (i := p) (v := l + c) (carry := 0) (carry' := h) (x := x) (S := val out) (by omega) (by omega) (by omega)
  rw [val_set _ (by simp; omega), getD_set (by omega), if_neg (by omega), hz, Int.sub_zero]
  exact hn

theorem rshift_up {a : List Int} (ha : Limbs a) (la : a.length < 70368744177664) {s q : Nat} (hs : s < 32) (hq : q ≤ 40000) (hf : a.length + q + 1 ≤ 70368744177664) :
    ∃ j, ∀ k, fulcrumref01_Shift.L15 (k + j) a ((a.length + q + 1 : Nat) : Int) (List.replicate (a.length + q + 1) 0) (q : Int) (s : Int) 0 = some (canon (val a * 2 ^ s * pw q), 0, ()) := by
  have ps := two_pos s
  refine up (fun k (x : Nat × List Int) => fulcrumref01_Shift.L15 k a ((a.length + q + 1 : Nat) : Int) x.2 (q : Int) (s : Int) (x.1 : Int)) _ (fun i r => r.length = a.length + q + 1 ∧ Limbs r ∧ (∀ j, i + q < j → r.getD j 0 = 0) ∧ r.getD (i + q) 0 < 2 ^ s ∧ val r = val (a.take i) * 2 ^ s * pw q) a.length
    (fun i r hi' ⟨h1, h2, h3, h4, h5⟩ => ?_) (fun r ⟨h1, h2, h3, h4, h5⟩ => ?_) 0 (List.replicate (a.length + q + 1) 0) (Nat.zero_le _) ⟨by simp, Limbs.zeros _, fun j _ => getD_zeros _ _, by rw [getD_zeros]; exact ps, by simp [val_zeros, val_nil]⟩
  · have gr := h2.get (i + q)
    obtain ⟨l1, l2, l3, l4, l5, l6, l7⟩ := lo_hi (ha.get i) hs
    have hz := h3 (i + q + 1) (by omega)
    refine ⟨(r.set (i + q) (lo (a.getD i 0) s + r.getD (i + q) 0)).set (i + q + 1) (hi (a.getD i 0) s), ⟨by simpa using h1, (h2.set _ (by omega)).set _ ⟨l2, l7⟩, fun j hj => ?_, ?_, ?_⟩, 1, fun k => ?_⟩
    · rw [getD_set (by simp; omega), if_neg (by omega), getD_set (by omega), if_neg (by omega)]; exact h3 j (by omega)
    · rw [getD_set (by simp; omega), if_pos (by omega)]; exact l3
    · rw [both_val (by omega) hz rfl l1, h5, val_take_next, pw_add, Int.add_mul, Int.add_mul, Int.mul_right_comm (a.getD i 0) (pw i), Int.mul_assoc (a.getD i 0 * 2 ^ s)]
    · exact rs_both (p := i + q) ha hs hi' la (by omega) h1 (by omega) (by omega) hz ⟨gr.1, h4⟩ k
  · rw [List.take_length] at h5
    refine ⟨1, fun k => ?_⟩
    simp (disch := omega) only [c_dec, c_beq, c_bne, c_and, c_or, c_not, blt_dec, up1, dn1, if_t, if_f, if_true, if_false, Int.toNat_natCast, Option.bind_some, ne_eq, not_true_eq_false, not_false_eq_true, true_and, and_true, fulcrumref01_Shift.L15_succ, fulcrumref01_Shift.b15, rNorm_F h2 (by omega), h5]

theorem rshift_zero {a : List Int} (ha : Limbs a) (la : a.length < 70368744177664) :
    ∃ j, ∀ k, fulcrumref01_Shift.L15 (k + j) a a.length (List.replicate a.length 0) 0 ((0 : Nat) : Int) 0 = some (canon (val a), 0, ()) := by
  refine up (fun k (x : Nat × List Int) => fulcrumref01_Shift.L15 k a a.length x.2 0 ((0 : Nat) : Int) (x.1 : Int)) _ (fun i r => r.length = a.length ∧ Limbs r ∧ (∀ j, i ≤ j → r.getD j 0 = 0) ∧ val r = val (a.take i)) a.length
    (fun i r hi' ⟨h1, h2, h3, h5⟩ => ?_) (fun r ⟨h1, h2, h3, h5⟩ => ?_) 0 _ (Nat.zero_le _) ⟨by simp, Limbs.zeros _, fun j _ => getD_zeros _ _, by simp [val_zeros, val_nil]⟩
  · have g := ha.get i
    obtain ⟨l1, l2, l3, l4, l5, l6, l7⟩ := lo_hi g (show 0 < 32 by decide)
    rw [Int.pow_zero] at l1 l3
    have hr := h3 i (Nat.le_refl _)
    have hh : hi (a.getD i 0) 0 = 0 := by omega
    have hlo : lo (a.getD i 0) 0 = a.getD i 0 := by omega
    by_cases hl : i + 1 < a.length
    · have hz := h3 (i + 1) (by omega)
      refine ⟨(r.set i (lo (a.getD i 0) 0 + r.getD i 0)).set (i + 1) (hi (a.getD i 0) 0), ⟨by simpa using h1, (h2.set _ (by omega)).set _ ⟨l2, l7⟩, fun j hj => ?_, ?_⟩, 1, fun k => ?_⟩
      · rw [getD_set (by simp; omega)]
        split
        · exact hh
        · rw [getD_set (by omega), if_neg (by omega)]; exact h3 j (by omega)
      · rw [both_val (by omega) hz rfl l1, h5, val_take_next, Int.mul_one]
      · exact rs_both (p := i) ha (by decide) hi' la (by omega) h1 (by omega) (by omega) hz (by rw [hr]; simp) k
    · refine ⟨r.set i (lo (a.getD i 0) 0 + r.getD i 0), ⟨by simpa using h1, h2.set _ (by omega), fun j hj => ?_, ?_⟩, 1, fun k => ?_⟩
      · rw [getD_set (by omega), if_neg (by omega)]; exact h3 j (by omega)
      · rw [val_set _ (by omega), hr, hlo, h5, val_take_next]; simp
      · exact rs_first (p := i) ha (by decide) hi' la (by omega) h1 (by omega) (by omega) (by rw [hr]; simp) k
  · rw [List.take_length] at h5
    refine ⟨1, fun k => ?_⟩
    simp (disch := omega) only [c_dec, c_beq, c_bne, c_and, c_or, c_not, blt_dec, up1, dn1, if_t, if_f, if_true, if_false, Int.toNat_natCast, Option.bind_some, ne_eq, not_true_eq_false, not_false_eq_true, true_and, and_true, fulcrumref01_Shift.L15_succ, fulcrumref01_Shift.b15, rNorm_F h2 (by omega), h5]

theorem rshift_down {a : List Int} (ha : Limbs a) (la : a.length < 70368744177664) {s w : Nat} (hs : s < 32) (hw : 1 ≤ w) (hw2 : w ≤ 40000) :
    ∃ j, ∀ k, fulcrumref01_Shift.L15 (k + j) a a.length (List.replicate a.length 0) (-(w : Int)) (s : Int) 0 = some (canon (val a * 2 ^ s / pw w), 0, ()) := by
  have ps := two_pos s
  have p32 : (2 : Int) ^ s < 4294967296 := by
    have : (2 : Nat) ^ s < 2 ^ 32 := Nat.pow_lt_pow_right (by decide) hs
    have h := two_nat s
    omega
  have pw0 := pw_pos w
  have small : ∀ i, i + 1 ≤ w → val (a.take i) * 2 ^ s / pw w = 0 := by
    intro i h
    have h1 := val_nonneg (ha.take i)
    have h2 := val_lt (ha.take i)
    have h3 : (a.take i).length ≤ i := by simp; omega
    have h4 := pw_mono h3
    have h5 := pw_mono h
    refine Int.ediv_eq_zero_of_lt (Int.mul_nonneg h1 (Int.le_of_lt ps)) ?_
    have h6 : val (a.take i) * 2 ^ s ≤ (pw i - 1) * 2 ^ s := Int.mul_le_mul_of_nonneg_right (by omega) (Int.le_of_lt ps)
    have h7 : (pw i - 1) * 2 ^ s ≤ (pw i - 1) * 4294967296 := Int.mul_le_mul_of_nonneg_left (by omega) (by have := pw_pos i; omega)
    rw [pw_succ] at h5
    omega
  refine up (fun k (x : Nat × List Int) => fulcrumref01_Shift.L15 k a a.length x.2 (-(w : Int)) (s : Int) (x.1 : Int)) _ (fun i r => r.length = a.length ∧ Limbs r ∧ (∀ j, i < j + w → r.getD j 0 = 0) ∧ (w ≤ i → r.getD (i - w) 0 < 2 ^ s) ∧ val r = val (a.take i) * 2 ^ s / pw w) a.length
    (fun i r hi' ⟨h1, h2, h3, h4, h5⟩ => ?_) (fun r ⟨h1, h2, h3, h4, h5⟩ => ?_) 0 _ (Nat.zero_le _) ⟨by simp, Limbs.zeros _, fun j _ => getD_zeros _ _, fun _ => by rw [getD_zeros]; exact ps, by rw [small 0 hw, val_zeros]⟩
  · obtain ⟨l1, l2, l3, l4, l5, l6, l7⟩ := lo_hi (ha.get i) hs
    rcases Nat.lt_or_ge i w with hiw | hiw
    · rcases Nat.lt_or_ge (i + 1) w with hiw2 | hiw2
      · refine ⟨r, ⟨h1, h2, fun j hj => h3 j (by omega), fun h => by omega, ?_⟩, 1, fun k => rs_none ha hs hi' la (by omega) (by omega) k⟩
        rw [h5, small i (by omega), small (i + 1) (by omega)]
      · obtain rfl : w = i + 1 := by omega
        have hz := h3 0 (by omega)
        refine ⟨r.set 0 (hi (a.getD i 0) s), ⟨by simpa using h1, h2.set _ ⟨l2, l7⟩, fun j hj => ?_, fun _ => ?_, ?_⟩, 1, fun k => rs_second ha hs hi' la (by omega) (by omega) h1 (by omega) hz k⟩
        · rw [getD_set (by omega), if_neg (by omega)]; exact h3 j (by omega)
        · rw [getD_set (by omega), if_pos (by omega)]; exact l3
        · rw [val_set _ (by omega), hz, h5, small i (by omega), pw_zero, val_take_next, Int.add_mul]
          have pi := pw_pos i
          have hc0 : 0 ≤ val (a.take i) * 2 ^ s := Int.mul_nonneg (val_nonneg (ha.take i)) (Int.le_of_lt ps)
          have hlt := val_lt (ha.take i)
          rw [show (a.take i).length = i by simp; omega] at hlt
          have hc1 : val (a.take i) * 2 ^ s < pw i * 2 ^ s := Int.mul_lt_mul_of_pos_right hlt ps
          have e1 : a.getD i 0 * pw i * 2 ^ s = pw i * (a.getD i 0 * 2 ^ s) := by rw [Int.mul_right_comm, Int.mul_comm]
          rw [pw_succ, Int.mul_comm 4294967296, ← Int.ediv_ediv_of_nonneg (Int.le_of_lt pi), e1, Int.add_mul_ediv_left _ _ (by omega)]
          have hd0 := Int.ediv_nonneg hc0 (Int.le_of_lt pi)
          have hd1 : val (a.take i) * 2 ^ s / pw i < 2 ^ s := by rw [Int.ediv_lt_iff_lt_mul pi, Int.mul_comm (2 ^ s)]; exact hc1
          omega
    · have gr := h2.get (i - w)
      have hz := h3 (i - w + 1) (by omega)
      refine ⟨(r.set (i - w) (lo (a.getD i 0) s + r.getD (i - w) 0)).set (i - w + 1) (hi (a.getD i 0) s), ⟨by simpa using h1, (h2.set _ (by have := h4 hiw; omega)).set _ ⟨l2, l7⟩, fun j hj => ?_, fun _ => ?_, ?_⟩, 1, fun k => ?_⟩
      · rw [getD_set (by simp; omega), if_neg (by omega), getD_set (by omega), if_neg (by omega)]; exact h3 j (by omega)
      · rw [getD_set (by simp; omega), if_pos (by omega)]; exact l3
      · have e1 : pw i = pw w * pw (i - w) := by rw [← pw_add]; congr 1; omega
        have e2 : a.getD i 0 * pw i * 2 ^ s = pw w * (a.getD i 0 * 2 ^ s * pw (i - w)) := by
          rw [e1, Int.mul_left_comm, Int.mul_assoc (pw w), Int.mul_right_comm]
        rw [both_val (by omega) hz rfl l1, h5, val_take_next, Int.add_mul, e2, Int.add_mul_ediv_left _ _ (by omega)]
      · exact rs_both (p := i - w) ha hs hi' la (by omega) h1 (by omega) (by omega) hz ⟨gr.1, h4 hiw⟩ k
  · rw [List.take_length] at h5
    refine ⟨1, fun k => ?_⟩
    simp (disch := omega) only [c_dec, c_beq, c_bne, c_and, c_or, c_not, blt_dec, up1, dn1, if_t, if_f, if_true, if_false, Int.toNat_natCast, Option.bind_some, ne_eq, not_true_eq_false, not_false_eq_true, true_and, and_true, fulcrumref01_Shift.L15_succ, fulcrumref01_Shift.b15, rNorm_F h2 (by omega), h5]

theorem rShift_F {a : List Int} {n : Int} (ha : Limbs a) (la : a.length ≤ 70368744100000) (hn : -9223372036854775808 ≤ n ∧ n ≤ 9223372036854775807) : fulcrumref01_Shift.F (a, n, ()) = some (shiftI (val a) n) := by
  have hx := val_nonneg ha
  unfold shiftI
  suffices hs : ∃ k, fulcrumref01_Shift.e (fulcrumref01_Shift.L15 k) a n = some (if n < -1048576 ∨ 1048576 < n then ([], 12, ()) else (canon (shiftV (val a) n), 0, ())) by obtain ⟨k, hk⟩ := hs; exact fulcrumref01_Shift.of k a n hk
  by_cases h1 : n < -1048576
  · refine ⟨0, ?_⟩
    rw [if_pos (by omega)]
    simp (disch := omega) only [c_dec, c_beq, c_bne, c_and, c_or, c_not, blt_dec, up1, dn1, if_t, if_f, if_true, if_false, Int.toNat_natCast, Option.bind_some, ne_eq, not_true_eq_false, not_false_eq_true, true_and, and_true, fulcrumref01_Shift.e]
  by_cases h2 : n > 1048576
  · refine ⟨0, ?_⟩
    rw [if_pos (by omega)]
    simp (disch := omega) only [c_dec, c_beq, c_bne, c_and, c_or, c_not, blt_dec, up1, dn1, if_t, if_f, if_true, if_false, Int.toNat_natCast, Option.bind_some, ne_eq, not_true_eq_false, not_false_eq_true, true_and, and_true, fulcrumref01_Shift.e]
  rw [if_neg (by omega)]
  have hN := rNorm_F ha (by omega)
  have hcl := canon_len_zero hx
  by_cases hz : val a = 0
  · have hl := hcl.2 hz
    have hs0 : shiftV (val a) n = 0 := by unfold shiftV; rw [hz]; split <;> simp
    refine ⟨0, ?_⟩
    rw [hs0, canon_zero]
    simp (disch := omega) only [c_dec, c_beq, c_bne, c_and, c_or, c_not, blt_dec, up1, dn1, if_t, if_f, if_true, if_false, Int.toNat_natCast, Option.bind_some, ne_eq, not_true_eq_false, not_false_eq_true, true_and, and_true, fulcrumref01_Shift.e, hN, hl]
  have hl : (canon (val a)).length ≠ 0 := fun h => hz (hcl.1 h)
  have hl' : ((canon (val a)).length : Int) ≠ 0 := by omega
  unfold shiftV
  by_cases h0 : 0 < n
  · obtain ⟨N, rfl⟩ := Int.eq_ofNat_of_zero_le (Int.le_of_lt h0)
    rw [if_pos (by omega), Int.toNat_natCast]
    obtain ⟨j, hj⟩ := rshift_up ha (by omega) (s := N % 32) (q := N / 32) (Nat.mod_lt _ (by decide)) (by omega) (by omega)
    have hv : val a * 2 ^ (N % 32) * pw (N / 32) = val a * 2 ^ N := by rw [pow_split N, Int.mul_assoc, Int.mul_comm (2 ^ (N % 32))]
    rw [hv] at hj
    have e1 : (N : Int) / 32 = ((N / 32 : Nat) : Int) := by omega
    have e2 : (N : Int) % 32 = ((N % 32 : Nat) : Int) := by omega
    have e3 : (a.length : Int) + (((N / 32 : Nat) : Int) + 1) = ((a.length + N / 32 + 1 : Nat) : Int) := by omega
    refine ⟨0 + j, ?_⟩
    simp (disch := omega) only [c_dec, c_beq, c_bne, c_and, c_or, c_not, blt_dec, up1, dn1, if_t, if_f, if_true, if_false, Int.toNat_natCast, Option.bind_some, ne_eq, not_true_eq_false, not_false_eq_true, true_and, and_true, fulcrumref01_Shift.e, hN, IntWalk.i64_quo, IntWalk.rem_in, IntWalk.i64_in, e1, e2, e3]
    exact hj 0
  · by_cases hn0 : n = 0
    · subst hn0
      rw [if_pos (by omega), show (0 : Int).toNat = 0 from rfl, Int.pow_zero, Int.mul_one]
      obtain ⟨j, hj⟩ := rshift_zero ha (by omega)
      have e1 : IntKind.i64.wrap (Int.tdiv 0 32) = 0 := by decide
      have e2 : Int.tmod 0 32 = 0 := by decide
      refine ⟨0 + j, ?_⟩
      simp (disch := omega) only [c_dec, c_beq, c_bne, c_and, c_or, c_not, blt_dec, up1, dn1, if_t, if_f, if_true, if_false, Int.toNat_natCast, Option.bind_some, ne_eq, not_true_eq_false, not_false_eq_true, true_and, and_true, fulcrumref01_Shift.e, hN, e1, e2]
      exact hj 0
    · obtain ⟨N, hN'⟩ := Int.eq_ofNat_of_zero_le (show 0 ≤ -n by omega)
      obtain rfl : n = -(N : Int) := by omega
      rw [if_neg (by omega), Int.neg_neg, Int.toNat_natCast]
      have e1 : IntKind.i64.wrap (Int.tdiv (-(N : Int)) 32) = -((N / 32 : Nat) : Int) := by
        rw [Int.neg_tdiv, show Int.tdiv (N : Int) 32 = ((N / 32 : Nat) : Int) from rfl, IntWalk.i64_in _ (by omega)]
      have e2 : Int.tmod (-(N : Int)) 32 = -((N % 32 : Nat) : Int) := by
        rw [Int.neg_tmod]; rfl
      by_cases hm : N % 32 = 0
      · obtain ⟨j, hj⟩ := rshift_down ha (by omega) (s := 0) (w := N / 32) (by decide) (by omega) (by omega)
        have hv : val a * 2 ^ 0 / pw (N / 32) = val a / 2 ^ N := by rw [pow_split N, hm, Int.pow_zero, Int.mul_one, Int.mul_one]
        rw [Int.pow_zero, Int.mul_one] at hv
        rw [Int.pow_zero, Int.mul_one, hv] at hj
        have e3 : -((N % 32 : Nat) : Int) = ((0 : Nat) : Int) := by omega
        refine ⟨0 + j, ?_⟩
        simp (disch := omega) only [c_dec, c_beq, c_bne, c_and, c_or, c_not, blt_dec, up1, dn1, if_t, if_f, if_true, if_false, Int.toNat_natCast, Option.bind_some, ne_eq, not_true_eq_false, not_false_eq_true, true_and, and_true, fulcrumref01_Shift.e, hN, e1, e2, e3]
        exact hj 0
      · obtain ⟨j, hj⟩ := rshift_down ha (by omega) (s := 32 - N % 32) (w := N / 32 + 1) (by omega) (by omega) (by omega)
        have hv : val a * 2 ^ (32 - N % 32) / pw (N / 32 + 1) = val a / 2 ^ N := by
          have hB := two_split (u := 32 - N % 32) (by omega)
          rw [show 32 - (32 - N % 32) = N % 32 by omega] at hB
          rw [pow_split N, pw_succ, hB, Int.mul_comm (val a), Int.mul_assoc, Int.mul_ediv_mul_of_pos _ _ (two_pos _), Int.mul_comm (2 ^ (N % 32))]
        rw [hv] at hj
        have e3 : IntKind.i64.wrap (-((N / 32 : Nat) : Int) - 1) = -((N / 32 + 1 : Nat) : Int) := by rw [IntWalk.i64_in _ (by omega)]; omega
        have e4 : IntKind.i64.wrap (-((N % 32 : Nat) : Int) + 32) = ((32 - N % 32 : Nat) : Int) := by rw [IntWalk.i64_in _ (by omega)]; omega
        refine ⟨0 + j, ?_⟩
        simp (disch := omega) only [c_dec, c_beq, c_bne, c_and, c_or, c_not, blt_dec, up1, dn1, if_t, if_f, if_true, if_false, Int.toNat_natCast, Option.bind_some, ne_eq, not_true_eq_false, not_false_eq_true, true_and, and_true, fulcrumref01_Shift.e, hN, e1, e2, e3, e4]
        exact hj 0
end Go.Fx.Try

namespace Go.Fx.Try
open Go Go.Fx Go.Fx.Num
set_option linter.unusedVariables false
set_option linter.unusedSimpArgs false

theorem Nm.Shift_F {a x n} (h : Nm a x n) (hn : n ≤ 70368744100000) {i : Int} (hi : -9223372036854775808 ≤ i ∧ i ≤ 9223372036854775807) : nat_Shift.F (a, i, ()) = some (shiftI x i) := by
  rw [Try.Shift_F h.limbs (Nat.le_trans h.len hn) hi, h.val]
theorem Nm.rShift_F {a x n} (h : Nm a x n) (hn : n ≤ 70368744100000) {i : Int} (hi : -9223372036854775808 ≤ i ∧ i ≤ 9223372036854775807) : fulcrumref01_Shift.F (a, i, ()) = some (shiftI x i) := by
  rw [Try.rShift_F h.limbs (Nat.le_trans h.len hn) hi, h.val]
theorem two_le_pw {N m : Nat} (h : N ≤ 32 * m) : (2 : Int) ^ N ≤ pw m := by
  rw [pw_two]
  have h1 : (2 : Nat) ^ N ≤ 2 ^ (32 * m) := Nat.pow_le_pow_right (by decide) h
  have h2 := two_nat N
  have h3 := two_nat (32 * m)
  have := Int.ofNat_le.2 h1
  rw [h2, h3] at this
  exact this
theorem Nm.up {a x n} (h : Nm a x n) {N m : Nat} (hN : N ≤ 32 * m) : Nm (Num.canon (x * 2 ^ N)) (x * 2 ^ N) (n + m) := by
  have p := two_pos N
  refine .canon (Int.mul_nonneg h.pos (Int.le_of_lt p)) ?_
  rw [pw_add]
  have h1 := two_le_pw hN
  have h2 : x * 2 ^ N ≤ x * pw m := Int.mul_le_mul_of_nonneg_left h1 h.pos
  have h3 : x * pw m < pw n * pw m := Int.mul_lt_mul_of_pos_right h.lt (pw_pos m)
  omega
theorem Nm.down {a x n} (h : Nm a x n) (N : Nat) : Nm (Num.canon (x / 2 ^ N)) (x / 2 ^ N) n := by
  have p := two_pos N
  have := h.lt
  have := Int.ediv_le_self (2 ^ N) h.pos
  exact .canon (Int.ediv_nonneg h.pos (Int.le_of_lt p)) (by omega)
theorem Nm.shifted {a x n} (h : Nm a x n) {i : Int} (hi : ¬(i < -1048576 ∨ 1048576 < i)) : Nm (Num.canon (shiftV x i)) (shiftV x i) (n + 32768) := by
  unfold shiftV
  split
  · exact h.up (by omega)
  · exact (h.down _).mono (by omega)
theorem shiftI_out {x i : Int} (h : i < -1048576 ∨ 1048576 < i) : shiftI x i = ([], 12, ()) := if_pos h
theorem shiftI_in {x i : Int} (h : ¬(i < -1048576 ∨ 1048576 < i)) : shiftI x i = (canon (shiftV x i), 0, ()) := if_neg h
end Go.Fx.Try

namespace Go.Fx.Try
open Go Go.Fx Go.Fx.Num
set_option linter.unusedVariables false
set_option linter.unusedSimpArgs false

def gcdI (x y : Int) : Int := (Int.gcd x y : Int)
theorem gcdI_nonneg (x y : Int) : 0 ≤ gcdI x y := Int.natCast_nonneg _
theorem gcdI_comm (x y : Int) : gcdI x y = gcdI y x := by unfold gcdI; rw [Int.gcd_comm]
theorem gcdI_zero {x : Int} (h : 0 ≤ x) : gcdI x 0 = x := by unfold gcdI; rw [Int.gcd_zero_right]; omega
theorem gcdI_one (x : Int) : gcdI x 1 = 1 := by unfold gcdI; rw [Int.gcd_one]; rfl
theorem gcdI_pos {x y : Int} (h : x ≠ 0 ∨ y ≠ 0) : 0 < gcdI x y := by
  have := Int.gcd_pos_iff.2 h
  unfold gcdI; omega
theorem gcdI_dvd_left (x y : Int) : gcdI x y ∣ x := Int.gcd_dvd_left ..
theorem gcdI_dvd_right (x y : Int) : gcdI x y ∣ y := Int.gcd_dvd_right ..
theorem gcdI_le {x y : Int} (hx : 0 < x) : gcdI x y ≤ x := Int.le_of_dvd hx (gcdI_dvd_left x y)
theorem gcdI_le' {x y : Int} (hx : 0 ≤ x) (hy : 0 < y) : gcdI x y ≤ y := Int.le_of_dvd hy (gcdI_dvd_right x y)
theorem gcdI_emod (x y : Int) : gcdI y (x % y) = gcdI x y := by
  unfold gcdI
  rw [Int.emod_def, Int.gcd_sub_mul_left_right, Int.gcd_comm]
theorem gcdI_sub (x y : Int) : gcdI y (x - y) = gcdI x y := by
  unfold gcdI
  rw [Int.gcd_sub_self_right, Int.gcd_comm]
theorem gcdI_mul (x y c : Int) (hc : 0 ≤ c) : gcdI (x * c) (y * c) = gcdI x y * c := by
  unfold gcdI
  rw [Int.gcd_mul_right, Int.natCast_mul]
  congr 1; omega
theorem gcdI_two (x y : Int) : gcdI (2 * x) (2 * y) = 2 * gcdI x y := by
  rw [Int.mul_comm 2, Int.mul_comm 2, gcdI_mul _ _ 2 (by decide), Int.mul_comm]
theorem gcdI_half {x y : Int} (hy : y % 2 = 1) : gcdI (2 * x) y = gcdI x y := by
  have h2 : Int.gcd 2 y = 1 := by
    have h3 := Int.gcd_dvd_left (a := 2) (b := y)
    have h4 := Int.gcd_dvd_right (a := 2) (b := y)
    have h5 : 0 < Int.gcd 2 y := Int.gcd_pos_iff.2 (.inl (by decide))
    have h6 := Int.le_of_dvd (by decide) h3
    rcases (show Int.gcd 2 y = 1 ∨ Int.gcd 2 y = 2 by omega) with h | h
    · exact h
    · rw [h] at h4
      have : y % 2 = 0 := Int.emod_eq_zero_of_dvd h4
      omega
  unfold gcdI
  rw [Int.gcd_mul_right_left_of_gcd_eq_one h2]
/-- The gcd within a length. -/
theorem gcdI_lt {x y : Int} {n : Nat} (hx : 0 ≤ x) (hy : 0 ≤ y) (h1 : x < pw n) (h2 : y < pw n) : gcdI x y < pw n := by
  by_cases h : x = 0
  · subst h; rw [gcdI_comm, gcdI_zero hy]; exact h2
  · have := gcdI_le (y := y) (show 0 < x by omega); omega

theorem Gcd_F {a b : List Int} {x y : Int} {n : Nat} (ha : Nm a x n) (hb : Nm b y n) (hn : n < 70368744177664) : nat_Gcd.F (a, b, ()) = some (canon (gcdI x y), ()) := by
  have hx := ha.pos
  have hy := hb.pos
  obtain ⟨j, hj⟩ := ends (fun k (s : Int × Int) => nat_Gcd.L2 k (canon s.1) (canon s.2)) (canon (gcdI x y), ()) (fun s => 0 ≤ s.1 ∧ 0 ≤ s.2 ∧ s.1 < pw n ∧ s.2 < pw n ∧ gcdI s.1 s.2 = gcdI x y) (fun s => s.2.toNat) (fun s hs => by
    obtain ⟨u, v⟩ := s
    obtain ⟨h1, h2, h3, h4, h5⟩ := hs
    simp only at h1 h2 h3 h4 h5
    have hz := canon_len_zero h2
    by_cases h0 : v = 0
    · have hl := hz.2 h0
      refine .inr ⟨1, fun k => ?_⟩
      rw [h0, gcdI_zero h1] at h5
      simp (disch := omega) only [c_dec, c_beq, c_bne, c_and, c_or, c_not, blt_dec, up1, dn1, if_t, if_f, if_true, if_false, Int.toNat_natCast, Option.bind_some, ne_eq, not_true_eq_false, not_false_eq_true, true_and, and_true, nat_Gcd.L2_succ, nat_Gcd.b2, hl]
      rw [h5]
    · have hl : (canon v).length ≠ 0 := fun h => h0 (hz.1 h)
      have d := (Nm.canon h1 h3).Div_F (Nm.canon h2 h4) hn hn
      rw [divI_pos h0] at d
      have m1 := Int.emod_nonneg u h0
      have m2 := Int.emod_lt_of_pos u (show 0 < v by omega)
      refine .inl ⟨(v, u % v), ⟨h2, m1, h4, by simp only; omega, by simp only; rw [gcdI_emod, h5]⟩, by simp only; omega, 1, fun k => ?_⟩
      simp (disch := omega) only [c_dec, c_beq, c_bne, c_and, c_or, c_not, blt_dec, up1, dn1, if_t, if_f, if_true, if_false, Int.toNat_natCast, Option.bind_some, ne_eq, not_true_eq_false, not_false_eq_true, true_and, and_true, nat_Gcd.L2_succ, nat_Gcd.b2, d]) (x, y) ⟨hx, hy, ha.lt, hb.lt, rfl⟩
  refine nat_Gcd.of (0 + j) a b ?_
  have o1 := own_F ha.limbs (by have := ha.len; omega)
  have o2 := own_F hb.limbs (by have := hb.len; omega)
  rw [ha.val] at o1
  rw [hb.val] at o2
  simp only [nat_Gcd.e, o1, o2, Option.bind_some]
  exact hj 0

theorem Nm.Gcd_F {a b x y n} (h : Nm a x n) (g : Nm b y n) (hn : n < 70368744177664) : nat_Gcd.F (a, b, ()) = some (Num.canon (gcdI x y), ()) := Try.Gcd_F h g hn
end Go.Fx.Try
