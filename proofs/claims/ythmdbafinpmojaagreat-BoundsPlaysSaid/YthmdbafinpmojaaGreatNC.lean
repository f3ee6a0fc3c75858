/- Bits and Bit, both. -/
import Derived.Test.YthmdbafinpmojaaGreatNB
namespace Go.Fx.Tryz
open Go Go.Fx Go.Fx.Num
set_option linter.unusedVariables false
set_option linter.unusedSimpArgs false

/-! ### how many digits a number has in base 2 -/
def blen (n : Nat) : Nat := if n = 0 then 0 else Nat.log2 n + 1
theorem blen_zero : blen 0 = 0 := rfl
theorem blen_unique {n t : Nat} (h1 : 2 ^ t ≤ n) (h2 : n < 2 ^ (t + 1)) : blen n = t + 1 := by
  have h0 : n ≠ 0 := by have := Nat.two_pow_pos t; omega
  unfold blen
  rw [if_neg h0, (Nat.log2_eq_iff h0).2 ⟨h1, h2⟩]
theorem blen_spec {n : Nat} (h : n ≠ 0) : ∃ t, blen n = t + 1 ∧ 2 ^ t ≤ n ∧ n < 2 ^ (t + 1) := by
  refine ⟨Nat.log2 n, by unfold blen; rw [if_neg h], Nat.log2_self_le h, Nat.lt_log2_self⟩
theorem blen_shift {n k : Nat} (h : 0 < n / 2 ^ k) : blen n = k + blen (n / 2 ^ k) := by
  obtain ⟨t, h1, h2, h3⟩ := blen_spec (Nat.pos_iff_ne_zero.1 h)
  rw [h1, ← Nat.add_assoc]
  have hk := Nat.two_pow_pos k
  refine blen_unique ?_ ?_
  · rw [Nat.add_comm, Nat.pow_add]
    exact (Nat.le_div_iff_mul_le hk).1 h2
  · rw [Nat.add_assoc, Nat.add_comm, Nat.pow_add]
    exact (Nat.div_lt_iff_lt_mul hk).1 h3

def tab : ByteArray := ⟨#[0, 1, 2, 2, 3, 3, 3, 3, 4, 4, 4, 4, 4, 4, 4, 4, 5, 5, 5, 5, 5, 5, 5, 5, 5, 5, 5, 5, 5, 5, 5, 5, 6, 6, 6, 6, 6, 6, 6, 6, 6, 6, 6, 6, 6, 6, 6, 6, 6, 6, 6, 6, 6, 6, 6, 6, 6, 6, 6, 6, 6, 6, 6, 6, 7, 7, 7, 7, 7, 7, 7, 7, 7, 7, 7, 7, 7, 7, 7, 7, 7, 7, 7, 7, 7, 7, 7, 7, 7, 7, 7, 7, 7, 7, 7, 7, 7, 7, 7, 7, 7, 7, 7, 7, 7, 7, 7, 7, 7, 7, 7, 7, 7, 7, 7, 7, 7, 7, 7, 7, 7, 7, 7, 7, 7, 7, 7, 7, 8, 8, 8, 8, 8, 8, 8, 8, 8, 8, 8, 8, 8, 8, 8, 8, 8, 8, 8, 8, 8, 8, 8, 8, 8, 8, 8, 8, 8, 8, 8, 8, 8, 8, 8, 8, 8, 8, 8, 8, 8, 8, 8, 8, 8, 8, 8, 8, 8, 8, 8, 8, 8, 8, 8, 8, 8, 8, 8, 8, 8, 8, 8, 8, 8, 8, 8, 8, 8, 8, 8, 8, 8, 8, 8, 8, 8, 8, 8, 8, 8, 8, 8, 8, 8, 8, 8, 8, 8, 8, 8, 8, 8, 8, 8, 8, 8, 8, 8, 8, 8, 8, 8, 8, 8, 8, 8, 8, 8, 8, 8, 8, 8, 8, 8, 8, 8, 8, 8, 8, 8, 8, 8, 8, 8, 8, 8, 8]⟩
theorem tab_size : ByteArray.size tab = 256 := by decide +kernel
theorem tab_fin : ∀ v : Fin 256, btI tab ((v.val : Nat) : Int) = (blen v.val : Int) := by decide +kernel
theorem tab_at {v : Nat} (h : v < 256) : btI tab (v : Int) = (blen v : Int) := tab_fin ⟨v, h⟩
noncomputable def len32e  (a0 : Int) : Option (Int × Unit) :=
  let v1 := decide (a0 ≥ (65536 : Int))
  bif v1 then (bif decide ((16 : Int) < 0) then none
  else (let v2 := shrI .u32 a0 (16 : Int)
  let v3 := decide (v2 ≥ (256 : Int))
  bif v3 then (bif decide ((8 : Int) < 0) then none
  else (let v4 := shrI .u32 v2 (8 : Int)
  let v5 := IntKind.i64.wrap ((16 : Int) + (8 : Int))
  let v6 := IntKind.u8.wrap v4
  bif decide (0 ≤ v6) && decide (v6 < (ByteArray.size tab : Int)) then (let v7 := btI tab v6
  let v8 := IntKind.i64.wrap v7
  let v9 := IntKind.i64.wrap (v5 + v8)
  some (v9, ()))
  else none))
  else (let v10 := IntKind.u8.wrap v2
  bif decide (0 ≤ v10) && decide (v10 < (ByteArray.size tab : Int)) then (let v11 := btI tab v10
  let v12 := IntKind.i64.wrap v11
  let v13 := IntKind.i64.wrap ((16 : Int) + v12)
  some (v13, ()))
  else none)))
  else (let v14 := decide (a0 ≥ (256 : Int))
  bif v14 then (bif decide ((8 : Int) < 0) then none
  else (let v15 := shrI .u32 a0 (8 : Int)
  let v16 := IntKind.i64.wrap ((0 : Int) + (8 : Int))
  let v17 := IntKind.u8.wrap v15
  bif decide (0 ≤ v17) && decide (v17 < (ByteArray.size tab : Int)) then (let v18 := btI tab v17
  let v19 := IntKind.i64.wrap v18
  let v20 := IntKind.i64.wrap (v16 + v19)
  some (v20, ()))
  else none))
  else (let v21 := IntKind.u8.wrap a0
  bif decide (0 ≤ v21) && decide (v21 < (ByteArray.size tab : Int)) then (let v22 := btI tab v21
  let v23 := IntKind.i64.wrap v22
  let v24 := IntKind.i64.wrap ((0 : Int) + v23)
  some (v24, ()))
  else none))
theorem len32e_eq (x : Int) : bits_Len32.e x = len32e x := by kernel_rfl

theorem shr32 (a : Int) (n : Nat) (h : n ≤ 32) : shrI .u32 a n = a / 2 ^ n := shr_eq .u32 a n h
theorem Len32_F {x : Nat} (hx : x < 4294967296) : bits_Len32.F ((x : Int), ()) = some ((blen x : Int), ()) := by
  refine bits_Len32.of 0 x ?_
  rw [len32e_eq]
  have e16 : shrI .u32 (x : Int) 16 = ((x / 65536 : Nat) : Int) := (shr32 x 16 (by decide)).trans (by omega)
  have e8 : shrI .u32 (x : Int) 8 = ((x / 256 : Nat) : Int) := (shr32 x 8 (by decide)).trans (by omega)
  have e24 : shrI .u32 ((x / 65536 : Nat) : Int) 8 = ((x / 65536 / 256 : Nat) : Int) := (shr32 _ 8 (by decide)).trans (by omega)
  have b8 : ∀ v : Nat, v < 256 → blen v ≤ 8 := by
    intro v hv
    by_cases h0 : v = 0
    · subst h0; decide
    · obtain ⟨t, h1, h2, h3⟩ := blen_spec h0
      by_cases ht : t < 8
      · omega
      · have := Nat.pow_le_pow_right (n := 2) (by decide) (show 8 ≤ t by omega)
        omega
  by_cases h1 : 65536 ≤ x
  · by_cases h2 : 256 ≤ x / 65536
    · have hv : x / 65536 / 256 < 256 := by omega
      have hb := b8 _ hv
      have hs : blen x = 24 + blen (x / 65536 / 256) := by
        have := blen_shift (n := x) (k := 24) (by omega)
        rwa [show x / 2 ^ 24 = x / 65536 / 256 by omega] at this
      simp (disch := omega) only [c_dec, c_beq, c_bne, c_and, c_or, c_not, blt_dec, up1, dn1, if_t, if_f, if_true, if_false, Int.toNat_natCast, Option.bind_some, ne_eq, not_true_eq_false, not_false_eq_true, true_and, and_true, len32e, e16, e24, tab_size, IntWalk.i64_in, IntWalk.u8_in, tab_at hv]
      rw [hs]; simp
    · have hv : x / 65536 < 256 := by omega
      have hb := b8 _ hv
      have hs : blen x = 16 + blen (x / 65536) := blen_shift (n := x) (k := 16) (by omega)
      simp (disch := omega) only [c_dec, c_beq, c_bne, c_and, c_or, c_not, blt_dec, up1, dn1, if_t, if_f, if_true, if_false, Int.toNat_natCast, Option.bind_some, ne_eq, not_true_eq_false, not_false_eq_true, true_and, and_true, len32e, e16, tab_size, IntWalk.i64_in, IntWalk.u8_in, tab_at hv]
      rw [hs]; simp
  · by_cases h2 : 256 ≤ x
    · have hv : x / 256 < 256 := by omega
      have hb := b8 _ hv
      have hs : blen x = 8 + blen (x / 256) := blen_shift (n := x) (k := 8) (by omega)
      simp (disch := omega) only [c_dec, c_beq, c_bne, c_and, c_or, c_not, blt_dec, up1, dn1, if_t, if_f, if_true, if_false, Int.toNat_natCast, Option.bind_some, ne_eq, not_true_eq_false, not_false_eq_true, true_and, and_true, len32e, e8, tab_size, IntWalk.i64_in, IntWalk.u8_in, tab_at hv]
      rw [hs]; simp
    · have hv : x < 256 := by omega
      have hb := b8 _ hv
      simp (disch := omega) only [c_dec, c_beq, c_bne, c_and, c_or, c_not, blt_dec, up1, dn1, if_t, if_f, if_true, if_false, Int.toNat_natCast, Option.bind_some, ne_eq, not_true_eq_false, not_false_eq_true, true_and, and_true, len32e, tab_size, IntWalk.i64_in, IntWalk.u8_in, tab_at hv]
      simp

theorem pw_two (n : Nat) : pw n = 2 ^ (32 * n) := by
  unfold pw
  rw [Int.pow_mul]; rfl
theorem two_pos (n : Nat) : (0 : Int) < 2 ^ n := Int.pow_pos (by decide)
/-- A number's limbs from a place on. -/
theorem val_div {a : List Int} (ha : Limbs a) {q : Nat} (hq : q ≤ a.length) : val a / pw q = val (a.drop q) := by
  have h1 := val_take_drop a q hq
  have h2 := val_lt (ha.take q)
  have h3 := val_nonneg (ha.take q)
  have h4 := pw_pos q
  rw [List.length_take, Nat.min_eq_left hq] at h2
  rw [h1, Int.add_mul_ediv_left _ _ (by omega), Int.ediv_eq_zero_of_lt h3 h2, Int.zero_add]
theorem drop_next {a : List Int} {q : Nat} (h : q < a.length) : a.drop q = a.getD q 0 :: a.drop (q + 1) := by
  rw [List.drop_eq_getElem_cons h]
  simp [List.getD, h]
theorem bit_at {a : List Int} (ha : Limbs a) {n : Nat} (h : n / 32 < a.length) : (a.getD (n / 32) 0 / 2 ^ (n % 32)) % 2 = (val a / 2 ^ n) % 2 := by
  have e : (2 : Int) ^ n = pw (n / 32) * 2 ^ (n % 32) := by
    rw [pw_two, ← Int.pow_add]; congr 1; omega
  have h1 := pw_pos (n / 32)
  have h2 := two_pos (n % 32)
  rw [e, ← Int.ediv_ediv_of_nonneg (by omega), val_div ha (Nat.le_of_lt h), drop_next h, val_cons]
  have e2 : (4294967296 : Int) = 2 ^ (n % 32) * (2 * 2 ^ (31 - n % 32)) := by
    rw [← Int.mul_assoc, Int.mul_comm _ 2, Int.mul_assoc, ← Int.pow_add, show n % 32 + (31 - n % 32) = 31 by omega]; decide
  rw [e2, Int.mul_assoc, Int.add_mul_ediv_left _ _ (by omega), Int.mul_assoc]
  omega
theorem bit_out {a : List Int} (ha : Limbs a) {n : Nat} (h : a.length ≤ n / 32) : val a / 2 ^ n = 0 := by
  have h1 := val_lt ha
  have h2 := val_nonneg ha
  have h3 : pw a.length ≤ 2 ^ n := by
    rw [pw_two]
    exact_mod_cast Nat.pow_le_pow_right (n := 2) (by decide) (show 32 * a.length ≤ n by omega)
  exact Int.ediv_eq_zero_of_lt h2 (by omega)

def bitI (x i : Int) : Bool := decide (0 ≤ i ∧ (x / 2 ^ i.toNat) % 2 = 1)
theorem rBit_F {a : List Int} {i : Int} (ha : Limbs a) (la : a.length ≤ 70368744177664) (hi : -9223372036854775808 ≤ i ∧ i ≤ 9223372036854775807) : fulcrumref01_Bit.F (a, i, ()) = some (bitI (val a) i, ()) := by
  refine fulcrumref01_Bit.of 0 a i ?_
  by_cases h0 : i < 0
  · simp (disch := omega) only [c_dec, c_beq, c_bne, c_and, c_or, c_not, blt_dec, up1, dn1, if_t, if_f, if_true, if_false, Int.toNat_natCast, Option.bind_some, ne_eq, not_true_eq_false, not_false_eq_true, true_and, and_true, fulcrumref01_Bit.e]
    unfold bitI; rw [decide_eq_false (by omega)]
  · obtain ⟨n, rfl⟩ := Int.eq_ofNat_of_zero_le (show 0 ≤ i by omega)
    have eq : (n : Int) / 32 = ((n / 32 : Nat) : Int) := by omega
    have em : (n : Int) % 32 = ((n % 32 : Nat) : Int) := by omega
    by_cases h1 : n / 32 < a.length
    · have hb := bit_at ha h1
      have hg := ha.get (n / 32)
      have hd : 0 ≤ a.getD (n / 32) 0 / 2 ^ (n % 32) ∧ a.getD (n / 32) 0 / 2 ^ (n % 32) < 4294967296 := by
        have := Int.ediv_nonneg hg.1 (Int.le_of_lt (two_pos (n % 32)))
        have := Int.ediv_le_self (2 ^ (n % 32)) hg.1
        omega
      simp (disch := omega) only [c_dec, c_beq, c_bne, c_and, c_or, c_not, blt_dec, up1, dn1, if_t, if_f, if_true, if_false, Int.toNat_natCast, Option.bind_some, ne_eq, not_true_eq_false, not_false_eq_true, true_and, and_true, fulcrumref01_Bit.e, IntWalk.i64_quo, IntWalk.rem_in, IntWalk.u64_in, eq, em, shr32, and32_one hd, hb]
      unfold bitI
      rw [show ((val a / 2 ^ n % 2 == 1 : Bool)) = decide (val a / 2 ^ n % 2 = 1) from rfl]
      congr 2
      simp
    · have hb := bit_out ha (n := n) (by omega)
      simp (disch := omega) only [c_dec, c_beq, c_bne, c_and, c_or, c_not, blt_dec, up1, dn1, if_t, if_f, if_true, if_false, Int.toNat_natCast, Option.bind_some, ne_eq, not_true_eq_false, not_false_eq_true, true_and, and_true, fulcrumref01_Bit.e, IntWalk.i64_quo, IntWalk.rem_in, eq, em]
      unfold bitI
      rw [Int.toNat_natCast, hb]; simp
end Go.Fx.Tryz

namespace Go.Fx.Tryz
open Go Go.Fx Go.Fx.Num
set_option linter.unusedVariables false
set_option linter.unusedSimpArgs false

theorem blen_int {v : Int} {t : Nat} (h1 : 2 ^ t ≤ v) (h2 : v < 2 ^ (t + 1)) : blen v.toNat = t + 1 := by
  have h3 := two_pos t
  obtain ⟨n, rfl⟩ := Int.eq_ofNat_of_zero_le (show 0 ≤ v by omega)
  rw [Int.toNat_natCast]
  exact blen_unique (by exact_mod_cast h1) (by exact_mod_cast h2)

theorem Bits_F {a : List Int} (ha : Limbs a) (la : a.length ≤ 70368744177664) : nat_Bits.F (a, ()) = some ((blen (val a).toNat : Int), ()) := by
  refine nat_Bits.of 0 a ?_
  have hc := canon_nrm (val a)
  have hv := val_canon (val_nonneg ha)
  have hl := canon_val_len ha
  simp only [nat_Bits.e, trim_F ha la, Option.bind_some]
  rw [← hv, hv]
  generalize canon (val a) = c at hc hv hl ⊢
  rw [← hv]
  by_cases h0 : c.length = 0
  · rw [List.length_eq_zero_iff.1 h0]; rfl
  · obtain ⟨m, hm⟩ : ∃ m, c.length = m + 1 := ⟨c.length - 1, by omega⟩
    have hg := hc.1.get m
    have hz : c.getD m 0 ≠ 0 := by
      have := hc.2.resolve_left h0
      rwa [hm, Nat.add_sub_cancel] at this
    obtain ⟨x, hx⟩ := Int.eq_ofNat_of_zero_le hg.1
    have hx0 : x ≠ 0 := by omega
    obtain ⟨t, h1, h2, h3⟩ := blen_spec hx0
    have ht : t < 32 := by
      by_cases h : t < 32
      · exact h
      · have := Nat.pow_le_pow_right (n := 2) (by decide) (show 32 ≤ t by omega)
        omega
    have e1 := val_take_succ (a := c) (i := m) (by omega)
    rw [← hm, List.take_length, hx] at e1
    have h4 := val_lt (hc.1.take m)
    have h5 := val_nonneg (hc.1.take m)
    rw [List.length_take, Nat.min_eq_left (by omega)] at h4
    have hp := pw_pos m
    have h2' : (2 : Int) ^ t ≤ x := by exact_mod_cast h2
    have h3' : (x : Int) + 1 ≤ 2 ^ (t + 1) := by exact_mod_cast h3
    have hb : blen (val c).toNat = 32 * m + t + 1 := by
      refine blen_int ?_ ?_
      · rw [Int.pow_add, ← pw_two, Int.mul_comm]
        have := Int.mul_le_mul_of_nonneg_right h2' (Int.le_of_lt hp)
        omega
      · rw [Nat.add_assoc, Int.pow_add, ← pw_two, Int.mul_comm]
        have := Int.mul_le_mul_of_nonneg_right h3' (Int.le_of_lt hp)
        rw [Int.add_mul] at this
        omega
    have hL := Len32_F (x := x) (by omega)
    have e2 : (c.length : Int) - 1 = m := by omega
    simp (disch := omega) only [c_dec, c_beq, c_bne, c_and, c_or, c_not, blt_dec, up1, dn1, if_t, if_f, if_true, if_false, Int.toNat_natCast, Option.bind_some, ne_eq, not_true_eq_false, not_false_eq_true, true_and, and_true, e2, hm, sub1, IntWalk.i64_in, hx, hL, h1, hb]
    rw [show ((32 * m + t + 1 : Nat) : Int) = 32 * (m : Int) + ((t + 1 : Nat) : Int) by omega]

end Go.Fx.Tryz

namespace Go.Fx.Tryz
open Go Go.Fx Go.Fx.Num
set_option linter.unusedVariables false
set_option linter.unusedSimpArgs false

theorem c_t {α : Type} {p : Prop} {d : Decidable p} (h : p) (a b : α) : (bif @decide p d then a else b) = a := by rw [decide_eq_true h]; rfl
theorem n_drop_next {a : List Int} {q : Nat} (h : q < a.length) : a.drop q = a.getD q 0 :: a.drop (q + 1) := by
  rw [List.drop_eq_getElem_cons h]
  simp [List.getD, h]
theorem drop_set_same {a : List Int} {q : Nat} {v : Int} (h : q < a.length) : (a.set q v).drop q = v :: a.drop (q + 1) := by
  rw [n_drop_next (by simpa using h), getD_set h, if_pos rfl]
  congr 1
  rw [List.drop_set]; simp
theorem div_unique {x q b r : Int} (h : x = q * b + r) (h0 : 0 ≤ r) (h1 : r < b) : x / b = q ∧ x % b = r := by
  subst h
  rw [Int.mul_comm, Int.add_comm]
  constructor
  · rw [Int.add_mul_ediv_left _ _ (by omega), Int.ediv_eq_zero_of_lt h0 h1, Int.zero_add]
  · rw [Int.add_mul_emod_self_left, Int.emod_eq_of_lt h0 h1]

theorem hi_bound {hi lo y : Int} (h : 0 ≤ hi ∧ hi < y) (hy : y < 4294967296) (hl : 0 ≤ lo ∧ lo < 4294967296) :
    0 ≤ (lo + 4294967296 * hi) / y ∧ (lo + 4294967296 * hi) / y < 4294967296 ∧ 0 ≤ (lo + 4294967296 * hi) % y ∧ (lo + 4294967296 * hi) % y < y := by
  have h1 := Int.ediv_nonneg (a := lo + 4294967296 * hi) (b := y) (by omega) (by omega)
  have h2 := (Int.ediv_lt_iff_lt_mul (a := lo + 4294967296 * hi) (b := 4294967296) (c := y) (by omega)).2 (by omega)
  have h3 := Int.emod_nonneg (lo + 4294967296 * hi) (b := y) (by omega)
  have h4 := Int.emod_lt_of_pos (lo + 4294967296 * hi) (b := y) (by omega)
  omega
theorem Div32_F {hi lo y : Int} (h : 0 ≤ hi ∧ hi < y) (hy : y < 4294967296) (hl : 0 ≤ lo ∧ lo < 4294967296) : bits_Div32.F (hi, lo, y, ()) = some ((lo + 4294967296 * hi) / y, (lo + 4294967296 * hi) % y, ()) := by
  refine bits_Div32.of 0 hi lo y ?_
  have hb := hi_bound h hy hl
  have e := or64_lo hl (show 0 ≤ hi ∧ hi < 4294967296 by omega)
  rw [← shl64_32] at e
  simp (disch := omega) only [c_dec, c_beq, c_bne, c_and, c_or, c_not, blt_dec, up1, dn1, if_t, if_f, if_true, if_false, Int.toNat_natCast, Option.bind_some, ne_eq, not_true_eq_false, not_false_eq_true, true_and, and_true, bits_Div32.e, IntWalk.u64_in, IntWalk.u32_in, e, IntWalk.u64_quo, IntWalk.rem_in]

/-- What a division by one limb keeps. -/
def ShortInv (a : List Int) (b : Int) (n : Nat) (q : List Int) (r : Int) : Prop :=
  n ≤ a.length ∧ q.length = a.length ∧ Limbs q ∧ (0 ≤ r ∧ r < b) ∧ val (a.drop n) = val (q.drop n) * b + r
theorem ShortInv.start {a : List Int} {b : Int} (hb : 0 < b) : ShortInv a b a.length (List.replicate a.length 0) 0 :=
  ⟨Nat.le_refl _, by simp, Limbs.zeros _, ⟨Int.le_refl _, hb⟩, by simp [val_nil]⟩
theorem ShortInv.next {a : List Int} {b : Int} {m : Nat} {q : List Int} {r : Int} (ha : Limbs a) (hb : b < 4294967296) (h : ShortInv a b (m + 1) q r) :
    ShortInv a b m (q.set m ((a.getD m 0 + 4294967296 * r) / b)) ((a.getD m 0 + 4294967296 * r) % b) := by
  obtain ⟨h1, h2, h3, h4, h5⟩ := h
  have g := ha.get m
  have hh := hi_bound h4 hb g
  refine ⟨by omega, by simpa using h2, h3.set m ⟨hh.1, hh.2.1⟩, ⟨hh.2.2.1, hh.2.2.2⟩, ?_⟩
  rw [n_drop_next (by omega), drop_set_same (by omega), val_cons, val_cons, h5]
  have := Int.mul_ediv_add_emod (a.getD m 0 + 4294967296 * r) b
  rw [Int.add_mul, Int.mul_add, Int.mul_assoc, Int.mul_comm ((a.getD m 0 + 4294967296 * r) / b)]
  omega
theorem ShortInv.last {a : List Int} {b : Int} {q : List Int} {r : Int} (h : ShortInv a b 0 q r) : val q = val a / b ∧ r = val a % b := by
  obtain ⟨h1, h2, h3, h4, h5⟩ := h
  rw [List.drop_zero, List.drop_zero] at h5
  have := div_unique h5 h4.1 h4.2
  exact ⟨this.1.symm, this.2.symm⟩

theorem short_F {a : List Int} {b : Int} (ha : Limbs a) (la : a.length ≤ 70368744177664) (hb : 0 < b ∧ b < 4294967296) :
    ∃ q, nat_short.F (a, b, ()) = some (q, val a % b, ()) ∧ Limbs q ∧ q.length = a.length ∧ val q = val a / b := by
  obtain ⟨q, ⟨hq1, hq2, hq3⟩, j, hj⟩ := reach (fun k (s : Nat × List Int × Int) => nat_short.L4 k a b s.2.1 s.2.2 ((s.1 : Int) - 1)) (fun k (q : List Int) => some (q, val a % b, ())) (fun s => ShortInv a b s.1 s.2.1 s.2.2) (fun s => s.1) (fun q => Limbs q ∧ q.length = a.length ∧ val q = val a / b) (fun s hs => by
    obtain ⟨n, q, r⟩ := s
    rcases n with _ | m
    · have hl := hs.last
      obtain ⟨h1, h2, h3, h4, h5⟩ := hs
      simp only at hl
      refine .inr ⟨q, ⟨h3, h2, hl.1⟩, 1, fun k => ?_⟩
      simp (disch := omega) only [c_dec, c_beq, c_bne, c_and, c_or, c_not, blt_dec, up1, dn1, if_t, if_f, if_true, if_false, Int.toNat_natCast, Option.bind_some, ne_eq, not_true_eq_false, not_false_eq_true, true_and, and_true, nat_short.L4_succ, nat_short.b4, sub0, hl]
    · have hn := hs.next ha hb.2
      obtain ⟨h1, h2, h3, h4, h5⟩ := hs
      simp only at h1 h2 h4
      refine .inl ⟨(m, _, _), hn, Nat.lt_succ_self m, 1, fun k => ?_⟩
      simp (disch := omega) only [c_dec, c_beq, c_bne, c_and, c_or, c_not, blt_dec, up1, dn1, if_t, if_f, if_true, if_false, Int.toNat_natCast, Option.bind_some, ne_eq, not_true_eq_false, not_false_eq_true, true_and, and_true, nat_short.L4_succ, nat_short.b4, sub1, Div32_F h4 hb.2 (ha.get m), IntWalk.i64_in]) (a.length, List.replicate a.length 0, 0) (ShortInv.start hb.1)
  refine ⟨q, nat_short.of (0 + j) a b ?_, hq1, hq2, hq3⟩
  simp (disch := omega) only [c_dec, c_beq, c_bne, c_and, c_or, c_not, blt_dec, up1, dn1, if_t, if_f, if_true, if_false, Int.toNat_natCast, Option.bind_some, ne_eq, not_true_eq_false, not_false_eq_true, true_and, and_true, nat_short.e, IntWalk.i64_in]
  exact hj 0

/-! ### texts -/
def dtab : ByteArray := ⟨#[48, 49, 50, 51, 52, 53, 54, 55, 56, 57, 97, 98, 99, 100, 101, 102]⟩
/-- A number's digits, the lowest first. -/
def digs (b : Nat) (n : Nat) : List Int := if h : n = 0 ∨ b < 2 then [] else btI dtab ((n % b : Nat) : Int) :: digs b (n / b)
termination_by n
decreasing_by exact Nat.div_lt_self (by omega) (by omega)
theorem digs_zero (b : Nat) : digs b 0 = [] := by rw [digs]; simp
theorem digs_pos {b n : Nat} (hb : 2 ≤ b) (h : n ≠ 0) : digs b n = btI dtab ((n % b : Nat) : Int) :: digs b (n / b) := by rw [digs]; rw [dif_neg (by omega)]
theorem digs_len {b : Nat} (hb : 2 ≤ b) : ∀ (k n : Nat), n < 2 ^ k → (digs b n).length ≤ k := by
  intro k
  induction k with
  | zero => intro n h; obtain rfl : n = 0 := by simpa using h
            rw [digs_zero]; simp
  | succ k ih =>
    intro n h
    by_cases h0 : n = 0
    · subst h0; rw [digs_zero]; simp
    · rw [digs_pos hb h0, List.length_cons]
      have h1 : n / b ≤ n / 2 := Nat.div_le_div_left hb (by decide)
      have := ih (n / b) (by rw [Nat.pow_succ] at h; omega)
      omega
/-- A number's text. -/
def txt (b n : Nat) : ByteArray := if n = 0 then ⟨#[48]⟩ else strOfNums (digs b n).reverse

theorem rev_set {l : List Int} {i : Nat} (h : i < l.length) : (List.replicate (l.length - i) (0 : Int) ++ (l.take i).reverse).set (l.length - 1 - i) (l.getD i 0) = List.replicate (l.length - (i + 1)) 0 ++ (l.take (i + 1)).reverse := by
  obtain ⟨m, hm⟩ : ∃ m, l.length - i = m + 1 := ⟨l.length - i - 1, by omega⟩
  have e1 : l.length - 1 - i = m := by omega
  have e2 : l.length - (i + 1) = m := by omega
  rw [hm, e1, e2, List.replicate_succ', List.append_assoc, List.set_append_right m _ (by simp), List.length_replicate, Nat.sub_self, List.take_add_one]
  have : l[i]? = some (l.getD i 0) := by simp [List.getD, h]
  rw [this]; simp
theorem rev_len {l : List Int} {i : Nat} (h : i ≤ l.length) : (List.replicate (l.length - i) (0 : Int) ++ (l.take i).reverse).length = l.length := by
  simp; omega

theorem dig_mod {v : Int} {b : Nat} (hv : 0 ≤ v) (hb : 2 ≤ b) (h0 : v ≠ 0) : digs b v.toNat = btI dtab (v % b) :: digs b (v / b).toNat := by
  obtain ⟨n, rfl⟩ := Int.eq_ofNat_of_zero_le hv
  rw [Int.toNat_natCast, digs_pos hb (by omega)]
  rw [← Int.natCast_ediv, Int.toNat_natCast, Int.natCast_emod]
theorem dtab_size : ByteArray.size dtab = 16 := rfl

end Go.Fx.Tryz

namespace Go.Fx.Tryz
open Go Go.Fx Go.Fx.Num
set_option linter.unusedVariables false
set_option linter.unusedSimpArgs false

theorem two_nat (n : Nat) : ((2 ^ n : Nat) : Int) = 2 ^ n := by push_cast; rfl
theorem two_split {u : Nat} (h : u ≤ 32) : (4294967296 : Int) = 2 ^ u * 2 ^ (32 - u) := by
  rw [← Int.pow_add, show u + (32 - u) = 32 by omega]; decide
theorem shift_parts {x : Int} {u : Nat} (hx : 0 ≤ x ∧ x < 4294967296) (hu : u < 32) :
    (x * 2 ^ u) % 4294967296 + 4294967296 * (x / 2 ^ (32 - u)) = x * 2 ^ u ∧ 0 ≤ x / 2 ^ (32 - u) ∧ x / 2 ^ (32 - u) < 2 ^ u ∧ ∃ z, 0 ≤ z ∧ (x * 2 ^ u) % 4294967296 = 2 ^ u * z := by
  have hB := two_split (u := u) (by omega)
  have p1 := two_pos u
  have p2 := two_pos (32 - u)
  have e : x * 2 ^ u / 4294967296 = x / 2 ^ (32 - u) := by
    rw [hB, Int.mul_comm x, Int.mul_ediv_mul_of_pos _ _ p1]
  refine ⟨by have := Int.emod_add_mul_ediv (x * 2 ^ u) 4294967296; rw [e] at this; exact this, Int.ediv_nonneg hx.1 (Int.le_of_lt p2), ?_, x % 2 ^ (32 - u), Int.emod_nonneg _ (by omega), ?_⟩
  · rw [Int.ediv_lt_iff_lt_mul p2, ← hB]; exact hx.2
  · rw [hB, Int.mul_comm x, Int.mul_emod_mul_of_pos _ _ p1]

theorem moved_F {a : List Int} {up : Nat} (ha : Limbs a) (la : a.length < 70368744177664) (hu : up < 32) :
    ∃ c, nat_moved.F (a, (up : Int), ()) = some (c, ()) ∧ Limbs c ∧ c.length = a.length + 1 ∧ val c = val a * 2 ^ up := by
  have p1 := two_pos up
  have p32 : (2 : Int) ^ up < 4294967296 := by
    have : (2 : Nat) ^ up < 2 ^ 32 := Nat.pow_lt_pow_right (by decide) hu
    have h := two_nat up
    omega
  obtain ⟨c, ⟨h1, h2, h3⟩, j, hj⟩ := upTo (fun k (s : Nat × List Int) => nat_moved.L3 k a up s.2 a.length (s.1 : Int)) (fun k (c : List Int) => some (c, ()))
    (fun i c => c.length = a.length + 1 ∧ Limbs c ∧ (∀ j, i < j → c.getD j 0 = 0) ∧ c.getD i 0 < 2 ^ up ∧ val c = val (a.take i) * 2 ^ up) (fun c => Limbs c ∧ c.length = a.length + 1 ∧ val c = val a * 2 ^ up) a.length
    (fun i c hi ⟨h1, h2, h3, h4, h5⟩ => by
      have ga := ha.get i
      have gc := h2.get i
      obtain ⟨s1, s2, s3, z, s4, s5⟩ := shift_parts ga hu
      have e1 : shlI .u32 (a.getD i 0) up = (a.getD i 0 * 2 ^ up) % 4294967296 := by rw [shl_eq .u32 _ up (by show up ≤ 32; omega), w32]
      have e2 : bitsOp .or .u32 (c.getD i 0) ((a.getD i 0 * 2 ^ up) % 4294967296) = (a.getD i 0 * 2 ^ up) % 4294967296 + c.getD i 0 :=
        or32_add' up z s5 s4 ⟨gc.1, h4⟩ (by
          have hm : (a.getD i 0 * 2 ^ up) % 4294967296 ≤ 4294967296 - 2 ^ up := by
            rw [s5]
            have hB := two_split (u := up) (by omega)
            have hlt : 2 ^ up * z < 2 ^ up * 2 ^ (32 - up) := by rw [← hB, ← s5]; omega
            have := Int.lt_of_mul_lt_mul_left hlt (Int.le_of_lt p1)
            have h8 : 2 ^ up * z ≤ 2 ^ up * (2 ^ (32 - up) - 1) := Int.mul_le_mul_of_nonneg_left (by omega) (Int.le_of_lt p1)
            rw [Int.mul_sub, ← hB, Int.mul_one] at h8
            exact h8
          omega)
      have e3 : (32 : Int) - (up : Int) = ((32 - up : Nat) : Int) := by omega
      have e4 : shrI .u64 (a.getD i 0) ((32 - up : Nat) : Int) = a.getD i 0 / 2 ^ (32 - up) := shr_eq .u64 _ _ (by show 32 - up ≤ 64; omega)
      have hb : (a.getD i 0 * 2 ^ up) % 4294967296 + c.getD i 0 < 4294967296 := by
        have h0 := s1
        have hm : 0 ≤ (a.getD i 0 * 2 ^ up) % 4294967296 := Int.emod_nonneg _ (by decide)
        have hB := two_split (u := up) (by omega)
        have hlt : 2 ^ up * z < 2 ^ up * 2 ^ (32 - up) := by rw [← hB, ← s5]; omega
        have := Int.lt_of_mul_lt_mul_left hlt (Int.le_of_lt p1)
        have h8 : 2 ^ up * z ≤ 2 ^ up * (2 ^ (32 - up) - 1) := Int.mul_le_mul_of_nonneg_left (by omega) (Int.le_of_lt p1)
        rw [Int.mul_sub, ← hB, Int.mul_one] at h8
        omega
      have hm : 0 ≤ (a.getD i 0 * 2 ^ up) % 4294967296 := Int.emod_nonneg _ (by decide)
      refine ⟨(c.set i ((a.getD i 0 * 2 ^ up) % 4294967296 + c.getD i 0)).set (i + 1) (a.getD i 0 / 2 ^ (32 - up)), ⟨by simpa using h1, (h2.set i ⟨by omega, hb⟩).set (i + 1) (by omega), fun j hj => ?_, ?_, ?_⟩, 1, fun k => ?_⟩
      · rw [getD_set (by simp; omega), if_neg (by omega), getD_set (by omega), if_neg (by omega)]; exact h3 j (by omega)
      · rw [getD_set (by simp; omega), if_pos rfl]; exact s3
      · have hn := carry_step (c := c) (i := i) (v := (a.getD i 0 * 2 ^ up) % 4294967296 + c.getD i 0) (carry := 0) (carry' := a.getD i 0 / 2 ^ (32 - up)) (x := a.getD i 0 * 2 ^ up) (S := val c) (by omega) (by omega) (by omega)
        rw [val_set _ (by simp; omega), getD_set (by omega), if_neg (by omega), h3 (i + 1) (by omega), Int.sub_zero, hn, h5, val_take_next, Int.add_mul, Int.mul_assoc, Int.mul_comm (2 ^ up), Int.mul_assoc]
      · simp (disch := omega) only [c_dec, c_beq, c_bne, c_and, c_or, c_not, blt_dec, up1, dn1, if_t, if_f, if_true, if_false, Int.toNat_natCast, Option.bind_some, ne_eq, not_true_eq_false, not_false_eq_true, true_and, and_true, nat_moved.L3_succ, nat_moved.b3, e1, e2, e3, e4, IntWalk.i64_in, IntWalk.u64_in, IntWalk.u32_in, List.length_set, Int.toNat_natCast]
        rw [show (i : Int) + 1 = ((i + 1 : Nat) : Int) by omega, Int.toNat_natCast])
    (fun c ⟨h1, h2, h3, h4, h5⟩ => by
      rw [List.take_length] at h5
      refine ⟨c, ⟨h2, h1, h5⟩, 1, fun k => ?_⟩
      simp (disch := omega) only [c_dec, c_beq, c_bne, c_and, c_or, c_not, blt_dec, up1, dn1, if_t, if_f, if_true, if_false, Int.toNat_natCast, Option.bind_some, ne_eq, not_true_eq_false, not_false_eq_true, true_and, and_true, nat_moved.L3_succ, nat_moved.b3]) 0 (List.replicate (a.length + 1) 0) (Nat.zero_le _) ⟨by simp, Limbs.zeros _, fun j _ => getD_zeros _ _, by rw [getD_zeros]; exact p1, by simp [val_zeros, val_nil]⟩
  refine ⟨c, nat_moved.of (0 + j) a up ?_, h1, h2, h3⟩
  simp (disch := omega) only [c_dec, c_beq, c_bne, c_and, c_or, c_not, blt_dec, up1, dn1, if_t, if_f, if_true, if_false, Int.toNat_natCast, Option.bind_some, ne_eq, not_true_eq_false, not_false_eq_true, true_and, and_true, nat_moved.e]
  exact hj 0
end Go.Fx.Tryz

namespace Go.Fx.Tryz
open Go Go.Fx Go.Fx.Num
set_option linter.unusedVariables false
set_option linter.unusedSimpArgs false

/-- A divisor V of two limbs at least, what is divided (U), and the quotient's digit q. -/
structure Guess (v1 v2 vl u2 ul top P1 P2 V U q : Int) : Prop where
  hV : V = v1 * P1 + v2 * P2 + vl
  hU : U = top * P1 + u2 * P2 + ul
  hP : P1 = 4294967296 * P2
  p2 : 0 < P2
  v1 : 2147483648 ≤ v1 ∧ v1 < 4294967296
  v2 : 0 ≤ v2 ∧ v2 < 4294967296
  vl : 0 ≤ vl ∧ vl < P2
  u2 : 0 ≤ u2 ∧ u2 < 4294967296
  ul : 0 ≤ ul ∧ ul < P2
  lo : q * V ≤ U
  hi : U < (q + 1) * V
  q : 0 ≤ q ∧ q < 4294967296
  top : 0 ≤ top

section
variable {v1 v2 vl u2 ul top P1 P2 V U q : Int}

theorem Guess.vpos (h : Guess v1 v2 vl u2 ul top P1 P2 V U q) : 0 < V := by
  have h1 := h.hV
  have hP := h.hP
  have p2 := h.p2
  have a1 : 1 * P1 ≤ v1 * P1 := Int.mul_le_mul_of_nonneg_right (by have := h.v1; omega) (by omega)
  have a2 : 0 ≤ v2 * P2 := Int.mul_nonneg h.v2.1 (by omega)
  have := h.vl
  omega
theorem Guess.le_of {g : Int} (h : Guess v1 v2 vl u2 ul top P1 P2 V U q) (hg : g * V ≤ U) : g ≤ q := by
  have hv := h.vpos
  by_cases hc : g ≤ q
  · exact hc
  · have : (q + 1) * V ≤ g * V := Int.mul_le_mul_of_nonneg_right (by omega) (by omega)
    have := h.hi
    omega
theorem Guess.expand (h : Guess v1 v2 vl u2 ul top P1 P2 V U q) (g : Int) : g * V = (g * v1) * P1 + (g * v2) * P2 + g * vl := by
  rw [h.hV, Int.mul_add, Int.mul_add, ← Int.mul_assoc, ← Int.mul_assoc]
theorem Guess.top_le (h : Guess v1 v2 vl u2 ul top P1 P2 V U q) : top * P1 ≤ U := by
  have := h.hU
  have := h.ul
  have := Int.mul_nonneg h.u2.1 (Int.le_of_lt h.p2)
  omega
/-- The first guess is not too small. -/
theorem Guess.first (h : Guess v1 v2 vl u2 ul top P1 P2 V U q) : q ≤ top / v1 := by
  have hP := h.hP
  have p2 := h.p2
  have v1p := h.v1
  refine (Int.le_ediv_iff_mul_le (by omega)).2 ?_
  have e := h.expand q
  have a1 : 0 ≤ (q * v2) * P2 := Int.mul_nonneg (Int.mul_nonneg h.q.1 h.v2.1) (by omega)
  have a2 : 0 ≤ q * vl := Int.mul_nonneg h.q.1 h.vl.1
  have lo := h.lo
  have hU := h.hU
  have ul := h.ul
  have b1 : u2 * P2 ≤ 4294967295 * P2 := Int.mul_le_mul_of_nonneg_right (by have := h.u2; omega) (by omega)
  have b2 : (q * v1) * P1 < (top + 1) * P1 := by rw [Int.add_mul]; omega
  have := Int.lt_of_mul_lt_mul_right b2 (by omega)
  omega
theorem Guess.down {g rest : Int} (h : Guess v1 v2 vl u2 ul top P1 P2 V U q) (hg : 0 ≤ g) (ht : g * v1 + rest = top) (hc : rest * 4294967296 + u2 < g * v2) : q < g := by
  by_cases hle : g ≤ q
  · exfalso
    have hv := h.vpos
    have hP := h.hP
    have p2 := h.p2
    have a0 : g * V ≤ q * V := Int.mul_le_mul_of_nonneg_right hle (by omega)
    have e := h.expand g
    have a1 : (rest * 4294967296 + u2 + 1) * P2 ≤ (g * v2) * P2 := Int.mul_le_mul_of_nonneg_right (by omega) (by omega)
    have a2 : 0 ≤ g * vl := Int.mul_nonneg hg h.vl.1
    have lo := h.lo
    have hU := h.hU
    have ul := h.ul
    have e2 : top * P1 = (g * v1) * P1 + rest * P1 := by rw [← ht, Int.add_mul]
    have e3 : rest * P1 = 4294967296 * (rest * P2) := by rw [hP, Int.mul_left_comm]
    have e4 : (rest * 4294967296 + u2 + 1) * P2 = 4294967296 * (rest * P2) + u2 * P2 + P2 := by rw [Int.add_mul, Int.add_mul, Int.mul_assoc, Int.mul_left_comm, Int.one_mul]
    omega
  · omega
theorem Guess.stop {g rest : Int} (h : Guess v1 v2 vl u2 ul top P1 P2 V U q) (hg : 0 ≤ g ∧ g < 4294967296) (ht : g * v1 + rest = top) (hc : g * v2 ≤ rest * 4294967296 + u2) : g ≤ q + 1 := by
  have hv := h.vpos
  have hP := h.hP
  have p2 := h.p2
  have e := h.expand g
  have a1 : (g * v2) * P2 ≤ (rest * 4294967296 + u2) * P2 := Int.mul_le_mul_of_nonneg_right hc (by omega)
  have a2 : g * vl ≤ 4294967295 * vl := Int.mul_le_mul_of_nonneg_right (by omega) h.vl.1
  have a3 : 1 * P1 ≤ v1 * P1 := Int.mul_le_mul_of_nonneg_right (by have := h.v1; omega) (by omega)
  have a4 : 0 ≤ v2 * P2 := Int.mul_nonneg h.v2.1 (by omega)
  have hU := h.hU
  have hV := h.hV
  have ul := h.ul
  have vl := h.vl
  have e2 : top * P1 = (g * v1) * P1 + rest * P1 := by rw [← ht, Int.add_mul]
  have e3 : rest * P1 = 4294967296 * (rest * P2) := by rw [hP, Int.mul_left_comm]
  have e4 : (rest * 4294967296 + u2) * P2 = 4294967296 * (rest * P2) + u2 * P2 := by rw [Int.add_mul, Int.mul_assoc, Int.mul_left_comm]
  have : (g - 1) * V ≤ U := by rw [Int.sub_mul, Int.one_mul]; omega
  have := h.le_of this
  omega
theorem Guess.great {g rest : Int} (h : Guess v1 v2 vl u2 ul top P1 P2 V U q) (hg : 0 ≤ g ∧ g ≤ 4294967296) (ht : g * v1 + rest = top) (hc : 4294967296 ≤ rest) : g ≤ q := by
  have hv := h.vpos
  have hP := h.hP
  have p2 := h.p2
  have e := h.expand g
  refine h.le_of ?_
  have a1 : v2 * P2 ≤ 4294967295 * P2 := Int.mul_le_mul_of_nonneg_right (by have := h.v2; omega) (by omega)
  have hvl := h.vl
  have a2 : g * (v2 * P2 + vl) ≤ g * P1 := Int.mul_le_mul_of_nonneg_left (by omega) hg.1
  have a3 : g * P1 ≤ 4294967296 * P1 := Int.mul_le_mul_of_nonneg_right hg.2 (by omega)
  have a4 : 4294967296 * P1 ≤ rest * P1 := Int.mul_le_mul_of_nonneg_right hc (by omega)
  have e2 : top * P1 = (g * v1) * P1 + rest * P1 := by rw [← ht, Int.add_mul]
  have e3 : g * (v2 * P2 + vl) = (g * v2) * P2 + g * vl := by rw [Int.mul_add, ← Int.mul_assoc]
  have ht := h.top_le
  omega
end
end Go.Fx.Tryz

namespace Go.Fx.Tryz
open Go Go.Fx Go.Fx.Num
set_option linter.unusedVariables false
set_option linter.unusedSimpArgs false

theorem getD_mid {pre u post : List Int} {i : Nat} (h : i < u.length) : (pre ++ u ++ post).getD (pre.length + i) 0 = u.getD i 0 := by
  simp only [List.getD, List.append_assoc]
  rw [List.getElem?_append_right (by omega), Nat.add_sub_cancel_left, List.getElem?_append_left h]
theorem set_mid {pre u post : List Int} {i : Nat} {x : Int} (h : i < u.length) : (pre ++ u ++ post).set (pre.length + i) x = pre ++ u.set i x ++ post := by
  rw [List.append_assoc, List.set_append_right _ _ (by omega), Nat.add_sub_cancel_left, List.set_append_left _ _ h, List.append_assoc]

/-- What taking a multiple away keeps: i limbs are done. -/
def TakeInv (u0 v : List Int) (g : Int) (i : Nat) (u : List Int) (b c : Int) : Prop :=
  u.length = u0.length ∧ Limbs u ∧ (0 ≤ b ∧ b ≤ 1) ∧ (0 ≤ c ∧ c < 4294967296) ∧ val u = val u0 - g * val (v.take i) + (c + b) * pw i
theorem TakeInv.next {u0 v : List Int} {g : Int} {i : Nat} {u : List Int} {b c : Int} (h : TakeInv u0 v g i u b c) (hg : 0 ≤ g ∧ g < 4294967296) (hv : Limbs v) (hi : i < u0.length) :
    let t := g * v.getD i 0 + c
    (0 ≤ t ∧ t < 18446744073709551616) ∧ TakeInv u0 v g (i + 1) (u.set i ((u.getD i 0 - t % 4294967296 - b) % 4294967296)) (if u.getD i 0 < t % 4294967296 + b then 1 else 0) (t / 4294967296) := by
  obtain ⟨h1, h2, h3, h4, h5⟩ := h
  have gv := hv.get i
  have gu := h2.get i
  have gm := mul_bound hg gv
  intro t
  have ht : t = g * v.getD i 0 + c := rfl
  refine ⟨by omega, by simpa using h1, h2.set i (by omega), by split <;> omega, by omega, ?_⟩
  have hb : ∃ b', b' = (if u.getD i 0 < t % 4294967296 + b then (1 : Int) else 0) ∧ (u.getD i 0 - t % 4294967296 - b) % 4294967296 = u.getD i 0 - t % 4294967296 - b + 4294967296 * b' := ⟨_, rfl, by split <;> omega⟩
  obtain ⟨b', hb', e⟩ := hb
  rw [← hb', val_set _ (by omega), e, h5, val_take_next, pw_succ]
  have e2 : u.getD i 0 - t % 4294967296 - b + 4294967296 * b' - u.getD i 0 = -(g * v.getD i 0) - (c + b) + (t / 4294967296 + b') * 4294967296 := by omega
  rw [e2, Int.mul_add g, Int.add_mul (-(g * v.getD i 0) - (c + b)), Int.sub_mul (-(g * v.getD i 0)), Int.neg_mul, Int.mul_assoc g, Int.mul_assoc (t / 4294967296 + b')]
  omega

/-- So many limbs of a number. -/
def pad : Nat → Int → List Int
  | 0, _ => []
  | n + 1, x => (x % 4294967296) :: pad n (x / 4294967296)
theorem pad_of {a : List Int} (h : Limbs a) : pad a.length (val a) = a := by
  induction a with
  | nil => rfl
  | cons x r ih =>
    have hx := h.head
    have e1 : (x + 4294967296 * val r) % 4294967296 = x := by omega
    have e2 : (x + 4294967296 * val r) / 4294967296 = val r := by omega
    rw [List.length_cons, val_cons, pad, e1, e2, ih h.tail]
theorem pad_spec : ∀ (n : Nat) (x : Int), 0 ≤ x → x < pw n → Limbs (pad n x) ∧ (pad n x).length = n ∧ val (pad n x) = x
  | 0, x, h, h' => ⟨Limbs.nil, rfl, by rw [pw_zero] at h'; rw [show pad 0 x = [] from rfl, val_nil]; omega⟩
  | n + 1, x, h, h' => by
    rw [pw_succ] at h'
    obtain ⟨h1, h2, h3⟩ := pad_spec n (x / 4294967296) (by omega) (by omega)
    rw [pad]
    exact ⟨Limbs.cons (by omega) h1, by rw [List.length_cons, h2], by rw [val_cons, h3]; omega⟩

theorem digit_F {pre u post v : List Int} {m : Nat} (hu : Limbs u) (hv : Limbs v) (lv : v.length = m + 2) (lu : u.length = m + 3) (hm : m < 70368744177664) (hn : 2147483648 ≤ v.getD (m + 1) 0) (hlt : val u < 4294967296 * val v) :
    nat_digit.F (pre ++ u ++ post) pre.length (m + 3) (v, ()) = some ((val u / val v, ()), pre ++ pad (m + 3) (val u % val v) ++ post) := by
  have g0 := hu.get m
  have g1 := hu.get (m + 1)
  have g2 := hu.get (m + 2)
  have k0 := hv.get m
  have k1 := hv.get (m + 1)
  have eV : val v = v.getD (m + 1) 0 * pw (m + 1) + v.getD m 0 * pw m + val (v.take m) := by
    have e1 := val_take_succ (a := v) (i := m + 1) (by omega)
    have e2 := val_take_succ (a := v) (i := m) (by omega)
    rw [show m + 1 + 1 = v.length by omega, List.take_length] at e1
    omega
  have eU : val u = (u.getD (m + 1) 0 + 4294967296 * u.getD (m + 2) 0) * pw (m + 1) + u.getD m 0 * pw m + val (u.take m) := by
    have e1 := val_take_succ (a := u) (i := m + 2) (by omega)
    have e2 := val_take_succ (a := u) (i := m + 1) (by omega)
    have e3 := val_take_succ (a := u) (i := m) (by omega)
    rw [show m + 2 + 1 = u.length by omega, List.take_length, pw_succ (m + 1)] at e1
    have e4 : u.getD (m + 2) 0 * (4294967296 * pw (m + 1)) = 4294967296 * (u.getD (m + 2) 0 * pw (m + 1)) := Int.mul_left_comm _ _ _
    rw [show m + 1 + 1 = m + 2 from rfl] at e2
    rw [Int.add_mul, Int.mul_assoc]
    omega
  have lvt : (v.take m).length = m := by simp; omega
  have lut : (u.take m).length = m := by simp; omega
  have hvt := val_lt (hv.take m)
  have hut := val_lt (hu.take m)
  rw [lvt] at hvt
  rw [lut] at hut
  have hV0 : 0 < val v := by
    have p1 := pw_pos (m + 1)
    have : 1 * pw (m + 1) ≤ v.getD (m + 1) 0 * pw (m + 1) := Int.mul_le_mul_of_nonneg_right (by omega) (by omega)
    have : 0 ≤ v.getD m 0 * pw m := Int.mul_nonneg k0.1 (Int.le_of_lt (pw_pos m))
    have := val_nonneg (hv.take m)
    omega
  have hU0 := val_nonneg hu
  have hq0 := Int.ediv_nonneg hU0 (Int.le_of_lt hV0)
  have hq1 : val u / val v < 4294967296 := by rw [Int.ediv_lt_iff_lt_mul hV0]; exact hlt
  have hdm := Int.mul_ediv_add_emod (val u) (val v)
  have hr0 := Int.emod_nonneg (val u) (b := val v) (by omega)
  have hr1 := Int.emod_lt_of_pos (val u) hV0
  have G : Guess (v.getD (m + 1) 0) (v.getD m 0) (val (v.take m)) (u.getD m 0) (val (u.take m)) (u.getD (m + 1) 0 + 4294967296 * u.getD (m + 2) 0) (pw (m + 1)) (pw m) (val v) (val u) (val u / val v) :=
    ⟨eV, eU, pw_succ m, pw_pos m, ⟨hn, k1.2⟩, k0, ⟨val_nonneg (hv.take m), hvt⟩, g0, ⟨val_nonneg (hu.take m), hut⟩, by rw [Int.mul_comm]; omega, by rw [Int.add_mul, Int.one_mul, Int.mul_comm]; omega, ⟨hq0, hq1⟩, by omega⟩
  generalize hQ : val u / val v = q at G hq0 hq1 hdm ⊢
  generalize hR : val u % val v = r at hr0 hr1 hdm ⊢
  have hmx : (m + 2 : Nat) < 4611686018427387904 := by omega
  have hUv : val u = q * val v + r := by rw [Int.mul_comm]; omega
  have hvl := val_lt hv
  rw [lv] at hvl
  refine nat_digit.of (pre ++ u ++ post) pre.length (m + 3) v (q, ()) _ fun g => ?_
  -- behind the guess: if one more is taken away, it is given back
  have back : ∀ w : List Int, w.length = m + 3 → Limbs w → val w = val u - (q + 1) * val v + pw (m + 3) → ∃ j, ∀ k, nat_digit.L21 (k + j) (pre ++ w ++ post) pre.length (m + 3) g v ((m + 2 : Nat) : Int) q 0 ((m + 2 : Nat) : Int) 0 = some ((q, ()), pre ++ pad (m + 3) r ++ post, g) := by
    intro w lw hw ew
    refine up (fun k (s : Nat × List Int × Int) => nat_digit.L21 k (pre ++ s.2.1 ++ post) pre.length (m + 3) g v ((m + 2 : Nat) : Int) q s.2.2 ((m + 2 : Nat) : Int) (s.1 : Int)) _ (fun i s => s.1.length = m + 3 ∧ Limbs s.1 ∧ (0 ≤ s.2 ∧ s.2 ≤ 1) ∧ val s.1 + s.2 * pw i = val w + val (v.take i)) (m + 2)
      (fun i s hi ⟨h1, h2, h3, h4⟩ => ?_) (fun s ⟨h1, h2, h3, h4⟩ => ?_) 0 (w, 0) (Nat.zero_le _) ⟨lw, hw, by simp only; omega, by simp [val_nil]⟩
    · obtain ⟨x, c⟩ := s
      simp only at h1 h2 h3 h4
      have gx := h2.get i
      have gv := hv.get i
      refine ⟨(x.set i ((x.getD i 0 + v.getD i 0 + c) % 4294967296), (x.getD i 0 + v.getD i 0 + c) / 4294967296), ⟨by simpa using h1, h2.set i (by omega), by simp only; omega, ?_⟩, 1, fun k => ?_⟩
      · rw [carry_step (x := v.getD i 0) (by omega) (by omega) h4, val_take_next]; omega
      · simp (disch := omega) only [c_dec, c_beq, c_bne, c_and, c_or, c_not, blt_dec, up1, dn1, if_t, if_f, if_true, if_false, Int.toNat_natCast, Option.bind_some, ne_eq, not_true_eq_false, not_false_eq_true, true_and, and_true, nat_digit.L21_succ, nat_digit.b21, getD_mid (show i < x.length by omega), set_mid (show i < x.length by omega), Add32_F gx gv h3]
    · obtain ⟨x, c⟩ := s
      simp only at h1 h2 h3 h4
      have gx := h2.get (m + 2)
      have e1 := val_take_succ (a := x) (i := m + 2) (by omega)
      rw [show m + 2 + 1 = x.length by omega, List.take_length] at e1
      have hxt := val_lt (h2.take (m + 2))
      have hx0 := val_nonneg (h2.take (m + 2))
      rw [show (x.take (m + 2)).length = m + 2 by simp; omega] at hxt
      have p2 := pw_pos (m + 2)
      rw [show v.take (m + 2) = v by rw [← lv, List.take_length], ew, pw_succ (m + 2), hUv, Int.add_mul, Int.one_mul] at h4
      -- low limbs are r, and the highest with the carry is a whole word
      have h5 : val (x.take (m + 2)) + (x.getD (m + 2) 0 + c) * pw (m + 2) = r + 4294967296 * pw (m + 2) := by rw [Int.add_mul]; omega
      have h6 : x.getD (m + 2) 0 + c = 4294967296 := by
        rcases Int.lt_trichotomy (x.getD (m + 2) 0 + c) 4294967296 with hlt | he | hgt
        · exfalso
          have : (x.getD (m + 2) 0 + c) * pw (m + 2) ≤ 4294967295 * pw (m + 2) := Int.mul_le_mul_of_nonneg_right (by omega) (by omega)
          omega
        · exact he
        · omega
      rw [h6] at h5
      have h7 : val (x.set (m + 2) 0) = r := by rw [val_set _ (by omega), Int.sub_mul, Int.zero_mul]; omega
      have h8 := pad_of (h2.set (m + 2) (v := 0) (by decide))
      rw [h7, List.length_set, h1] at h8
      have e7 : IntKind.u32.wrap (x.getD (m + 2) 0 + c) = 0 := by rw [w32, h6]; rfl
      refine ⟨1, fun k => ?_⟩
      simp (disch := omega) only [c_dec, c_beq, c_bne, c_and, c_or, c_not, blt_dec, up1, dn1, if_t, if_f, if_true, if_false, Int.toNat_natCast, Option.bind_some, ne_eq, not_true_eq_false, not_false_eq_true, true_and, and_true, nat_digit.L21_succ, nat_digit.b21, getD_mid (show m + 2 < x.length by omega), set_mid (show m + 2 < x.length by omega), e7, h8, IntWalk.u32_in, cond_true]
  -- a multiple is taken away
  have take : ∀ t : Int, (t = q ∨ t = q + 1) → 0 ≤ t ∧ t < 4294967296 → ∃ j, ∀ k, nat_digit.L10 (k + j) (pre ++ u ++ post) pre.length (m + 3) g v ((m + 2 : Nat) : Int) t 0 0 ((m + 2 : Nat) : Int) 0 = some ((q, ()), pre ++ pad (m + 3) r ++ post, g) := by
    intro t ht htb
    refine up (fun k (s : Nat × List Int × Int × Int) => nat_digit.L10 k (pre ++ s.2.1 ++ post) pre.length (m + 3) g v ((m + 2 : Nat) : Int) t s.2.2.1 s.2.2.2 ((m + 2 : Nat) : Int) (s.1 : Int)) _ (fun i s => TakeInv u v t i s.1 s.2.1 s.2.2) (m + 2)
      (fun i s hi hs => ?_) (fun s hs => ?_) 0 (u, 0, 0) (Nat.zero_le _) ⟨rfl, hu, by simp only; omega, by simp only; omega, by simp [val_nil]⟩
    · obtain ⟨x, b, c⟩ := s
      obtain ⟨hT, hn⟩ := TakeInv.next hs htb hv (by omega)
      obtain ⟨h1, h2, h3, h4, h5⟩ := hs
      simp only at h1 h2 h3 h4 hT
      have gx := h2.get i
      have gm := mul_bound htb (hv.get i)
      have gv := hv.get i
      refine ⟨(x.set i ((x.getD i 0 - (t * v.getD i 0 + c) % 4294967296 - b) % 4294967296), (if x.getD i 0 < (t * v.getD i 0 + c) % 4294967296 + b then 1 else 0), (t * v.getD i 0 + c) / 4294967296), hn, 1, fun k => ?_⟩
      have hS := Sub32_F gx (show 0 ≤ (t * v.getD i 0 + c) % 4294967296 ∧ (t * v.getD i 0 + c) % 4294967296 < 4294967296 by omega) h3
      simp (disch := omega) only [c_dec, c_beq, c_bne, c_and, c_or, c_not, blt_dec, up1, dn1, if_t, if_f, if_true, if_false, Int.toNat_natCast, Option.bind_some, ne_eq, not_true_eq_false, not_false_eq_true, true_and, and_true, nat_digit.L10_succ, nat_digit.b10, getD_mid (show i < x.length by omega), set_mid (show i < x.length by omega), IntWalk.u64_in, w32, shr64_32, hS]
    · obtain ⟨x, b, c⟩ := s
      obtain ⟨h1, h2, h3, h4, h5⟩ := hs
      simp only at h1 h2 h3 h4 h5
      rw [show v.take (m + 2) = v by rw [← lv, List.take_length]] at h5
      have gx := h2.get (m + 2)
      have hS := Sub32_F gx h4 h3
      have hl := h2.set (m + 2) (v := (x.getD (m + 2) 0 - c - b) % 4294967296) (by omega)
      have hv2 : val (x.set (m + 2) ((x.getD (m + 2) 0 - c - b) % 4294967296)) = val u - t * val v + (if x.getD (m + 2) 0 < c + b then 1 else 0) * pw (m + 3) := by
        have hb : ∃ b', b' = (if x.getD (m + 2) 0 < c + b then (1 : Int) else 0) ∧ (x.getD (m + 2) 0 - c - b) % 4294967296 = x.getD (m + 2) 0 - c - b + 4294967296 * b' := ⟨_, rfl, by split <;> omega⟩
        obtain ⟨b', hb', e⟩ := hb
        rw [← hb', val_set _ (by omega), e, h5, pw_succ (m + 2)]
        have e2 : x.getD (m + 2) 0 - c - b + 4294967296 * b' - x.getD (m + 2) 0 = -(c + b) + b' * 4294967296 := by omega
        rw [e2, Int.add_mul (-(c + b)), Int.neg_mul, Int.mul_assoc b']
        omega
      have hvn := val_nonneg hl
      have hvx := val_lt hl
      rw [List.length_set, h1, lu] at hvx
      have hp3 : pw (m + 3) = 4294967296 * pw (m + 2) := pw_succ (m + 2)
      have p2 := pw_pos (m + 2)
      by_cases hb : x.getD (m + 2) 0 < c + b
      · rw [if_pos hb, Int.one_mul] at hv2
        have htq : t = q + 1 := by
          rcases ht with h | h
          · exfalso
            rw [h] at hv2
            omega
          · exact h
        subst htq
        obtain ⟨j, hj⟩ := back _ (by rw [List.length_set, h1, lu]) hl hv2
        refine ⟨j + 1, fun k => ?_⟩
        rw [← Nat.add_assoc]
        simp (disch := omega) only [c_dec, c_beq, c_bne, c_and, c_or, c_not, blt_dec, up1, dn1, if_t, if_f, if_true, if_false, Int.toNat_natCast, Option.bind_some, ne_eq, not_true_eq_false, not_false_eq_true, true_and, and_true, nat_digit.L10_succ, nat_digit.b10, getD_mid (show m + 2 < x.length by omega), set_mid (show m + 2 < x.length by omega), IntWalk.u32_in, hS, c_t]
        rw [show IntKind.u64.wrap (q + 1 - 1) = q by rw [IntWalk.u64_in _ (by omega)]; omega]
        exact hj k
      · rw [if_neg hb, Int.zero_mul, Int.add_zero] at hv2
        have htq : t = q := by
          rcases ht with h | h
          · exact h
          · exfalso
            rw [h, Int.add_mul, Int.one_mul] at hv2
            omega
        subst htq
        have h8 := pad_of hl
        rw [hv2, List.length_set, h1, lu, show val u - t * val v = r by omega] at h8
        refine ⟨1, fun k => ?_⟩
        simp (disch := omega) only [c_dec, c_beq, c_bne, c_and, c_or, c_not, blt_dec, up1, dn1, if_t, if_f, if_true, if_false, Int.toNat_natCast, Option.bind_some, ne_eq, not_true_eq_false, not_false_eq_true, true_and, and_true, nat_digit.L10_succ, nat_digit.b10, getD_mid (show m + 2 < x.length by omega), set_mid (show m + 2 < x.length by omega), IntWalk.u32_in, hS, h8, cond_true]
  -- the guess
  have guess : ∀ s : Int × Int, (q ≤ s.1 ∧ s.1 ≤ 4294967297) ∧ (0 ≤ s.2 ∧ s.2 < 4294967296) ∧ s.1 * v.getD (m + 1) 0 + s.2 = u.getD (m + 1) 0 + 4294967296 * u.getD (m + 2) 0 → ∃ j, ∀ k, nat_digit.L4 (k + j) (pre ++ u ++ post) pre.length (m + 3) g v ((m + 2 : Nat) : Int) s.1 s.2 = some ((q, ()), pre ++ pad (m + 3) r ++ post, g) := by
    refine ends (fun k (s : Int × Int) => nat_digit.L4 k (pre ++ u ++ post) pre.length (m + 3) g v ((m + 2 : Nat) : Int) s.1 s.2) _ _ (fun s => s.1.toNat) (fun s ⟨h1, h2, h3⟩ => ?_)
    obtain ⟨x, y⟩ := s
    simp only at h1 h2 h3
    have e1 : ((m + 2 : Nat) : Int) - 1 = ((m + 1 : Nat) : Int) := by omega
    have e2 : ((m + 2 : Nat) : Int) - 2 = (m : Int) := by omega
    have hor := or64_lo g0 h2
    rw [← shl64_32] at hor
    -- one less
    have less : q < x → (∀ k, nat_digit.L4 (k + 1) (pre ++ u ++ post) pre.length (m + 3) g v ((m + 2 : Nat) : Int) x y = (if y + v.getD (m + 1) 0 < 4294967296 then nat_digit.L4 k (pre ++ u ++ post) pre.length (m + 3) g v ((m + 2 : Nat) : Int) (x - 1) (y + v.getD (m + 1) 0) else nat_digit.L10 k (pre ++ u ++ post) pre.length (m + 3) g v ((m + 2 : Nat) : Int) (x - 1) 0 0 ((m + 2 : Nat) : Int) 0)) →
        (∃ s' : Int × Int, ((q ≤ s'.1 ∧ s'.1 ≤ 4294967297) ∧ (0 ≤ s'.2 ∧ s'.2 < 4294967296) ∧ s'.1 * v.getD (m + 1) 0 + s'.2 = u.getD (m + 1) 0 + 4294967296 * u.getD (m + 2) 0) ∧ s'.1.toNat < x.toNat ∧ ∃ j, ∀ k, nat_digit.L4 (k + j) (pre ++ u ++ post) pre.length (m + 3) g v ((m + 2 : Nat) : Int) x y = nat_digit.L4 k (pre ++ u ++ post) pre.length (m + 3) g v ((m + 2 : Nat) : Int) s'.1 s'.2) ∨
        ∃ j, ∀ k, nat_digit.L4 (k + j) (pre ++ u ++ post) pre.length (m + 3) g v ((m + 2 : Nat) : Int) x y = some ((q, ()), pre ++ pad (m + 3) r ++ post, g) := by
      intro hq hL
      have h4 : (x - 1) * v.getD (m + 1) 0 + (y + v.getD (m + 1) 0) = u.getD (m + 1) 0 + 4294967296 * u.getD (m + 2) 0 := by rw [Int.sub_mul, Int.one_mul]; omega
      by_cases hy : y + v.getD (m + 1) 0 < 4294967296
      · exact .inl ⟨(x - 1, y + v.getD (m + 1) 0), ⟨by simp only; omega, by simp only; omega, h4⟩, by simp only; omega, 1, fun k => by rw [hL k, if_pos hy]⟩
      · have := G.great (g := x - 1) (rest := y + v.getD (m + 1) 0) (by omega) h4 (by omega)
        obtain ⟨j, hj⟩ := take (x - 1) (by omega) (by omega)
        exact .inr ⟨j + 1, fun k => by rw [← Nat.add_assoc, hL, if_neg hy]; exact hj k⟩
    by_cases hx : 4294967296 ≤ x
    · refine less (by omega) fun k => ?_
      by_cases hy : y + v.getD (m + 1) 0 < 4294967296
      · simp (disch := omega) only [c_dec, c_beq, c_bne, c_and, c_or, c_not, blt_dec, up1, dn1, if_t, if_f, if_true, if_false, Int.toNat_natCast, Option.bind_some, ne_eq, not_true_eq_false, not_false_eq_true, true_and, and_true, nat_digit.L4_succ, nat_digit.b4, shr64_32, IntWalk.u64_in, IntWalk.i64_in, e1]
      · simp (disch := omega) only [c_dec, c_beq, c_bne, c_and, c_or, c_not, blt_dec, up1, dn1, if_t, if_f, if_true, if_false, Int.toNat_natCast, Option.bind_some, ne_eq, not_true_eq_false, not_false_eq_true, true_and, and_true, nat_digit.L4_succ, nat_digit.b4, shr64_32, IntWalk.u64_in, IntWalk.i64_in, e1]
    · have gm := mul_bound (show 0 ≤ x ∧ x < 4294967296 by omega) k0
      by_cases hc : y * 4294967296 + u.getD m 0 < x * v.getD m 0
      · have hqx := G.down (g := x) (rest := y) (by omega) h3 hc
        refine less hqx fun k => ?_
        by_cases hy : y + v.getD (m + 1) 0 < 4294967296
        · simp (disch := omega) only [c_dec, c_beq, c_bne, c_and, c_or, c_not, blt_dec, up1, dn1, if_t, if_f, if_true, if_false, Int.toNat_natCast, Option.bind_some, ne_eq, not_true_eq_false, not_false_eq_true, true_and, and_true, nat_digit.L4_succ, nat_digit.b4, shr64_32, IntWalk.u64_in, IntWalk.i64_in, e1, e2, getD_mid (show m < u.length by omega), hor]
        · simp (disch := omega) only [c_dec, c_beq, c_bne, c_and, c_or, c_not, blt_dec, up1, dn1, if_t, if_f, if_true, if_false, Int.toNat_natCast, Option.bind_some, ne_eq, not_true_eq_false, not_false_eq_true, true_and, and_true, nat_digit.L4_succ, nat_digit.b4, shr64_32, IntWalk.u64_in, IntWalk.i64_in, e1, e2, getD_mid (show m < u.length by omega), hor]
      · have := G.stop (g := x) (rest := y) (by omega) h3 (by omega)
        obtain ⟨j, hj⟩ := take x (by omega) (by omega)
        refine .inr ⟨j + 1, fun k => ?_⟩
        rw [← Nat.add_assoc]
        simp (disch := omega) only [c_dec, c_beq, c_bne, c_and, c_or, c_not, blt_dec, up1, dn1, if_t, if_f, if_true, if_false, Int.toNat_natCast, Option.bind_some, ne_eq, not_true_eq_false, not_false_eq_true, true_and, and_true, nat_digit.L4_succ, nat_digit.b4, shr64_32, IntWalk.u64_in, IntWalk.i64_in, e1, e2, getD_mid (show m < u.length by omega), hor]
        exact hj k
  have hf := G.first
  have hun : u.getD (m + 2) 0 ≤ v.getD (m + 1) 0 := by
    by_cases hc : u.getD (m + 2) 0 ≤ v.getD (m + 1) 0
    · exact hc
    · exfalso
      have a1 : (v.getD (m + 1) 0 + 1) * pw (m + 2) ≤ u.getD (m + 2) 0 * pw (m + 2) := Int.mul_le_mul_of_nonneg_right (by omega) (Int.le_of_lt (pw_pos _))
      have e1 := val_take_succ (a := u) (i := m + 2) (by omega)
      rw [show m + 2 + 1 = u.length by omega, List.take_length] at e1
      have := val_nonneg (hu.take (m + 2))
      have e2 := val_take_succ (a := v) (i := m + 1) (by omega)
      rw [show m + 1 + 1 = v.length by omega, List.take_length] at e2
      have hvt2 := val_lt (hv.take (m + 1))
      rw [show (v.take (m + 1)).length = m + 1 by simp; omega] at hvt2
      rw [Int.add_mul, Int.one_mul, pw_succ (m + 1)] at a1
      have e3 : v.getD (m + 1) 0 * (4294967296 * pw (m + 1)) = 4294967296 * (v.getD (m + 1) 0 * pw (m + 1)) := Int.mul_left_comm _ _ _
      rw [pw_succ (m + 1)] at e1
      omega
  have htop : (u.getD (m + 1) 0 + 4294967296 * u.getD (m + 2) 0) / v.getD (m + 1) 0 ≤ 4294967297 := by
    have h1 : (u.getD (m + 1) 0 + 4294967296 * u.getD (m + 2) 0) / v.getD (m + 1) 0 < 4294967298 := by
      rw [Int.ediv_lt_iff_lt_mul (by omega)]; omega
    omega
  have hmod := Int.mul_ediv_add_emod (u.getD (m + 1) 0 + 4294967296 * u.getD (m + 2) 0) (v.getD (m + 1) 0)
  have hm0 := Int.emod_nonneg (u.getD (m + 1) 0 + 4294967296 * u.getD (m + 2) 0) (b := v.getD (m + 1) 0) (by omega)
  have hm1 := Int.emod_lt_of_pos (u.getD (m + 1) 0 + 4294967296 * u.getD (m + 2) 0) (b := v.getD (m + 1) 0) (by omega)
  obtain ⟨j, hj⟩ := guess ((u.getD (m + 1) 0 + 4294967296 * u.getD (m + 2) 0) / v.getD (m + 1) 0, (u.getD (m + 1) 0 + 4294967296 * u.getD (m + 2) 0) % v.getD (m + 1) 0) ⟨⟨hf, htop⟩, ⟨hm0, by simp only; omega⟩, by simp only; rw [Int.mul_comm]; exact hmod⟩
  refine ⟨0 + j, ?_⟩
  have hor := or64_lo g1 g2
  rw [← shl64_32] at hor
  have e1 : ((m + 2 : Nat) : Int) - 1 = ((m + 1 : Nat) : Int) := by omega
  simp (disch := omega) only [c_dec, c_beq, c_bne, c_and, c_or, c_not, blt_dec, up1, dn1, if_t, if_f, if_true, if_false, Int.toNat_natCast, Option.bind_some, ne_eq, not_true_eq_false, not_false_eq_true, true_and, and_true, nat_digit.e, lv, e1, IntWalk.i64_in, getD_mid (show m + 2 < u.length by omega), getD_mid (show m + 1 < u.length by omega), IntWalk.u64_in, hor, IntWalk.u64_quo, IntWalk.rem_in]
  exact hj 0
end Go.Fx.Tryz
