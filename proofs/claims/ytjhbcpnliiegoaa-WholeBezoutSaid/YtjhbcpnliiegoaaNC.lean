/- Bits and Bit, both. -/
import Derived.Test.YtjhbcpnliiegoaaNB
namespace Go.Fx.Try
open Go Go.Fx Go.Fx.Num
set_option linter.unusedVariables false
set_option linter.unusedSimpArgs false

/-! ### how many digits a number has in base 2 -/
def blen (n : Nat) : Nat := if n = 0 then 0 else Nat.log2 n + 1
theorem blen_zero : blen 0 = 0 := rfl
theorem blen_unique {n t : Nat} (h1 : 2 ^ t ≤ n) (h2 : n < 2 ^ (t + 1)) : blen n = t + 1 := by
  have h0 : n ≠ 0 := by have := Nat.two_pow_pos t; omega
  unfold blen
  rw [if_neg h0, (Nat.log2_eq_iff h0).2 ⟨h1, h2⟩]
theorem blen_spec {n : Nat} (h : n ≠ 0) : ∃ t, blen n = t + 1 ∧ 2 ^ t ≤ n ∧ n < 2 ^ (t + 1) := by
  refine ⟨Nat.log2 n, by unfold blen; rw [if_neg h], Nat.log2_self_le h, Nat.lt_log2_self⟩
theorem blen_shift {n k : Nat} (h : 0 < n / 2 ^ k) : blen n = k + blen (n / 2 ^ k) := by
  obtain ⟨t, h1, h2, h3⟩ := blen_spec (Nat.pos_iff_ne_zero.1 h)
  rw [h1, ← Nat.add_assoc]
  have hk := Nat.two_pow_pos k
  refine blen_unique ?_ ?_
  · rw [Nat.add_comm, Nat.pow_add]
    exact (Nat.le_div_iff_mul_le hk).1 h2
  · rw [Nat.add_assoc, Nat.add_comm, Nat.pow_add]
    exact (Nat.div_lt_iff_lt_mul hk).1 h3

def tab : ByteArray := ⟨#[0, 1, 2, 2, 3, 3, 3, 3, 4, 4, 4, 4, 4, 4, 4, 4, 5, 5, 5, 5, 5, 5, 5, 5, 5, 5, 5, 5, 5, 5, 5, 5, 6, 6, 6, 6, 6, 6, 6, 6, 6, 6, 6, 6, 6, 6, 6, 6, 6, 6, 6, 6, 6, 6, 6, 6, 6, 6, 6, 6, 6, 6, 6, 6, 7, 7, 7, 7, 7, 7, 7, 7, 7, 7, 7, 7, 7, 7, 7, 7, 7, 7, 7, 7, 7, 7, 7, 7, 7, 7, 7, 7, 7, 7, 7, 7, 7, 7, 7, 7, 7, 7, 7, 7, 7, 7, 7, 7, 7, 7, 7, 7, 7, 7, 7, 7, 7, 7, 7, 7, 7, 7, 7, 7, 7, 7, 7, 7, 8, 8, 8, 8, 8, 8, 8, 8, 8, 8, 8, 8, 8, 8, 8, 8, 8, 8, 8, 8, 8, 8, 8, 8, 8, 8, 8, 8, 8, 8, 8, 8, 8, 8, 8, 8, 8, 8, 8, 8, 8, 8, 8, 8, 8, 8, 8, 8, 8, 8, 8, 8, 8, 8, 8, 8, 8, 8, 8, 8, 8, 8, 8, 8, 8, 8, 8, 8, 8, 8, 8, 8, 8, 8, 8, 8, 8, 8, 8, 8, 8, 8, 8, 8, 8, 8, 8, 8, 8, 8, 8, 8, 8, 8, 8, 8, 8, 8, 8, 8, 8, 8, 8, 8, 8, 8, 8, 8, 8, 8, 8, 8, 8, 8, 8, 8, 8, 8, 8, 8, 8, 8, 8, 8, 8, 8, 8, 8]⟩
theorem tab_size : ByteArray.size tab = 256 := by decide +kernel
theorem tab_fin : ∀ v : Fin 256, btI tab ((v.val : Nat) : Int) = (blen v.val : Int) := by decide +kernel
theorem tab_at {v : Nat} (h : v < 256) : btI tab (v : Int) = (blen v : Int) := tab_fin ⟨v, h⟩
noncomputable def len32e  (a0 : Int) : Option (Int × Unit) :=
  let v1 := decide (a0 ≥ (65536 : Int))
  bif v1 then (bif decide ((16 : Int) < 0) then none
  else (let v2 := shrI .u32 a0 (16 : Int)
  let v3 := decide (v2 ≥ (256 : Int))
  bif v3 then (bif decide ((8 : Int) < 0) then none
  else (let v4 := shrI .u32 v2 (8 : Int)
  let v5 := IntKind.i64.wrap ((16 : Int) + (8 : Int))
  let v6 := IntKind.u8.wrap v4
  bif decide (0 ≤ v6) && decide (v6 < (ByteArray.size tab : Int)) then (let v7 := btI tab v6
  let v8 := IntKind.i64.wrap v7
  let v9 := IntKind.i64.wrap (v5 + v8)
  some (v9, ()))
  else none))
  else (let v10 := IntKind.u8.wrap v2
  bif decide (0 ≤ v10) && decide (v10 < (ByteArray.size tab : Int)) then (let v11 := btI tab v10
  let v12 := IntKind.i64.wrap v11
  let v13 := IntKind.i64.wrap ((16 : Int) + v12)
  some (v13, ()))
  else none)))
  else (let v14 := decide (a0 ≥ (256 : Int))
  bif v14 then (bif decide ((8 : Int) < 0) then none
  else (let v15 := shrI .u32 a0 (8 : Int)
  let v16 := IntKind.i64.wrap ((0 : Int) + (8 : Int))
  let v17 := IntKind.u8.wrap v15
  bif decide (0 ≤ v17) && decide (v17 < (ByteArray.size tab : Int)) then (let v18 := btI tab v17
  let v19 := IntKind.i64.wrap v18
  let v20 := IntKind.i64.wrap (v16 + v19)
  some (v20, ()))
  else none))
  else (let v21 := IntKind.u8.wrap a0
  bif decide (0 ≤ v21) && decide (v21 < (ByteArray.size tab : Int)) then (let v22 := btI tab v21
  let v23 := IntKind.i64.wrap v22
  let v24 := IntKind.i64.wrap ((0 : Int) + v23)
  some (v24, ()))
  else none))
theorem len32e_eq (x : Int) : bits_Len32.e x = len32e x := by kernel_rfl

theorem shr32 (a : Int) (n : Nat) (h : n ≤ 32) : shrI .u32 a n = a / 2 ^ n := shr_eq .u32 a n h
theorem Len32_F {x : Nat} (hx : x < 4294967296) : bits_Len32.F ((x : Int), ()) = some ((blen x : Int), ()) := by
  refine bits_Len32.of 0 x ?_
  rw [len32e_eq]
  have e16 : shrI .u32 (x : Int) 16 = ((x / 65536 : Nat) : Int) := (shr32 x 16 (by decide)).trans (by omega)
  have e8 : shrI .u32 (x : Int) 8 = ((x / 256 : Nat) : Int) := (shr32 x 8 (by decide)).trans (by omega)
  have e24 : shrI .u32 ((x / 65536 : Nat) : Int) 8 = ((x / 65536 / 256 : Nat) : Int) := (shr32 _ 8 (by decide)).trans (by omega)
  have b8 : ∀ v : Nat, v < 256 → blen v ≤ 8 := by
    intro v hv
    by_cases h0 : v = 0
    · subst h0; decide
    · obtain ⟨t, h1, h2, h3⟩ := blen_spec h0
      by_cases ht : t < 8
      · omega
      · have := Nat.pow_le_pow_right (n := 2) (by decide) (show 8 ≤ t by omega)
        omega
  by_cases h1 : 65536 ≤ x
  · by_cases h2 : 256 ≤ x / 65536
    · have hv : x / 65536 / 256 < 256 := by omega
      have hb := b8 _ hv
      have hs : blen x = 24 + blen (x / 65536 / 256) := by
        have := blen_shift (n := x) (k := 24) (by omega)
        rwa [show x / 2 ^ 24 = x / 65536 / 256 by omega] at this
      simp (disch := omega) only [c_dec, c_beq, c_bne, c_and, c_or, c_not, blt_dec, up1, dn1, if_t, if_f, if_true, if_false, Int.toNat_natCast, Option.bind_some, ne_eq, not_true_eq_false, not_false_eq_true, true_and, and_true, len32e, e16, e24, tab_size, IntWalk.i64_in, IntWalk.u8_in, tab_at hv]
      rw [hs]; simp
    · have hv : x / 65536 < 256 := by omega
      have hb := b8 _ hv
      have hs : blen x = 16 + blen (x / 65536) := blen_shift (n := x) (k := 16) (by omega)
      simp (disch := omega) only [c_dec, c_beq, c_bne, c_and, c_or, c_not, blt_dec, up1, dn1, if_t, if_f, if_true, if_false, Int.toNat_natCast, Option.bind_some, ne_eq, not_true_eq_false, not_false_eq_true, true_and, and_true, len32e, e16, tab_size, IntWalk.i64_in, IntWalk.u8_in, tab_at hv]
      rw [hs]; simp
  · by_cases h2 : 256 ≤ x
    · have hv : x / 256 < 256 := by omega
      have hb := b8 _ hv
      have hs : blen x = 8 + blen (x / 256) := blen_shift (n := x) (k := 8) (by omega)
      simp (disch := omega) only [c_dec, c_beq, c_bne, c_and, c_or, c_not, blt_dec, up1, dn1, if_t, if_f, if_true, if_false, Int.toNat_natCast, Option.bind_some, ne_eq, not_true_eq_false, not_false_eq_true, true_and, and_true, len32e, e8, tab_size, IntWalk.i64_in, IntWalk.u8_in, tab_at hv]
      rw [hs]; simp
    · have hv : x < 256 := by omega
      have hb := b8 _ hv
      simp (disch := omega) only [c_dec, c_beq, c_bne, c_and, c_or, c_not, blt_dec, up1, dn1, if_t, if_f, if_true, if_false, Int.toNat_natCast, Option.bind_some, ne_eq, not_true_eq_false, not_false_eq_true, true_and, and_true, len32e, tab_size, IntWalk.i64_in, IntWalk.u8_in, tab_at hv]
      simp

theorem pw_two (n : Nat) : pw n = 2 ^ (32 * n) := by
  unfold pw
  rw [Int.pow_mul]; rfl
theorem two_pos (n : Nat) : (0 : Int) < 2 ^ n := Int.pow_pos (by decide)
/-- A number's limbs from a place on. -/
theorem val_div {a : List Int} (ha : Limbs a) {q : Nat} (hq : q ≤ a.length) : val a / pw q = val (a.drop q) := by
  have h1 := val_take_drop a q hq
  have h2 := val_lt (ha.take q)
  have h3 := val_nonneg (ha.take q)
  have h4 := pw_pos q
  rw [List.length_take, Nat.min_eq_left hq] at h2
  rw [h1, Int.add_mul_ediv_left _ _ (by omega), Int.ediv_eq_zero_of_lt h3 h2, Int.zero_add]
theorem drop_next {a : List Int} {q : Nat} (h : q < a.length) : a.drop q = a.getD q 0 :: a.drop (q + 1) := by
  rw [List.drop_eq_getElem_cons h]
  simp [List.getD, h]
theorem bit_at {a : List Int} (ha : Limbs a) {n : Nat} (h : n / 32 < a.length) : (a.getD (n / 32) 0 / 2 ^ (n % 32)) % 2 = (val a / 2 ^ n) % 2 := by
  have e : (2 : Int) ^ n = pw (n / 32) * 2 ^ (n % 32) := by
    rw [pw_two, ← Int.pow_add]; congr 1; omega
  have h1 := pw_pos (n / 32)
  have h2 := two_pos (n % 32)
  rw [e, ← Int.ediv_ediv_of_nonneg (by omega), val_div ha (Nat.le_of_lt h), drop_next h, val_cons]
  have e2 : (4294967296 : Int) = 2 ^ (n % 32) * (2 * 2 ^ (31 - n % 32)) := by
    rw [← Int.mul_assoc, Int.mul_comm _ 2, Int.mul_assoc, ← Int.pow_add, show n % 32 + (31 - n % 32) = 31 by omega]; decide
  rw [e2, Int.mul_assoc, Int.add_mul_ediv_left _ _ (by omega), Int.mul_assoc]
  omega
theorem bit_out {a : List Int} (ha : Limbs a) {n : Nat} (h : a.length ≤ n / 32) : val a / 2 ^ n = 0 := by
  have h1 := val_lt ha
  have h2 := val_nonneg ha
  have h3 : pw a.length ≤ 2 ^ n := by
    rw [pw_two]
    exact_mod_cast Nat.pow_le_pow_right (n := 2) (by decide) (show 32 * a.length ≤ n by omega)
  exact Int.ediv_eq_zero_of_lt h2 (by omega)

def bitI (x i : Int) : Bool := decide (0 ≤ i ∧ (x / 2 ^ i.toNat) % 2 = 1)
theorem rBit_F {a : List Int} {i : Int} (ha : Limbs a) (la : a.length ≤ 70368744177664) (hi : -9223372036854775808 ≤ i ∧ i ≤ 9223372036854775807) : fulcrumref01_Bit.F (a, i, ()) = some (bitI (val a) i, ()) := by
  refine fulcrumref01_Bit.of 0 a i ?_
  by_cases h0 : i < 0
  · simp (disch := omega) only [c_dec, c_beq, c_bne, c_and, c_or, c_not, blt_dec, up1, dn1, if_t, if_f, if_true, if_false, Int.toNat_natCast, Option.bind_some, ne_eq, not_true_eq_false, not_false_eq_true, true_and, and_true, fulcrumref01_Bit.e]
    unfold bitI; rw [decide_eq_false (by omega)]
  · obtain ⟨n, rfl⟩ := Int.eq_ofNat_of_zero_le (show 0 ≤ i by omega)
    have eq : (n : Int) / 32 = ((n / 32 : Nat) : Int) := by omega
    have em : (n : Int) % 32 = ((n % 32 : Nat) : Int) := by omega
    by_cases h1 : n / 32 < a.length
    · have hb := bit_at ha h1
      have hg := ha.get (n / 32)
      have hd : 0 ≤ a.getD (n / 32) 0 / 2 ^ (n % 32) ∧ a.getD (n / 32) 0 / 2 ^ (n % 32) < 4294967296 := by
        have := Int.ediv_nonneg hg.1 (Int.le_of_lt (two_pos (n % 32)))
        have := Int.ediv_le_self (2 ^ (n % 32)) hg.1
        omega
      simp (disch := omega) only [c_dec, c_beq, c_bne, c_and, c_or, c_not, blt_dec, up1, dn1, if_t, if_f, if_true, if_false, Int.toNat_natCast, Option.bind_some, ne_eq, not_true_eq_false, not_false_eq_true, true_and, and_true, fulcrumref01_Bit.e, IntWalk.i64_quo, IntWalk.rem_in, IntWalk.u64_in, eq, em, shr32, and32_one hd, hb]
      unfold bitI
      rw [show ((val a / 2 ^ n % 2 == 1 : Bool)) = decide (val a / 2 ^ n % 2 = 1) from rfl]
      congr 2
      simp
    · have hb := bit_out ha (n := n) (by omega)
      simp (disch := omega) only [c_dec, c_beq, c_bne, c_and, c_or, c_not, blt_dec, up1, dn1, if_t, if_f, if_true, if_false, Int.toNat_natCast, Option.bind_some, ne_eq, not_true_eq_false, not_false_eq_true, true_and, and_true, fulcrumref01_Bit.e, IntWalk.i64_quo, IntWalk.rem_in, eq, em]
      unfold bitI
      rw [Int.toNat_natCast, hb]; simp
end Go.Fx.Try

namespace Go.Fx.Try
open Go Go.Fx Go.Fx.Num
set_option linter.unusedVariables false
set_option linter.unusedSimpArgs false

theorem blen_int {v : Int} {t : Nat} (h1 : 2 ^ t ≤ v) (h2 : v < 2 ^ (t + 1)) : blen v.toNat = t + 1 := by
  have h3 := two_pos t
  obtain ⟨n, rfl⟩ := Int.eq_ofNat_of_zero_le (show 0 ≤ v by omega)
  rw [Int.toNat_natCast]
  exact blen_unique (by exact_mod_cast h1) (by exact_mod_cast h2)

end Go.Fx.Try

namespace Go.Fx.Try
open Go Go.Fx Go.Fx.Num
set_option linter.unusedVariables false
set_option linter.unusedSimpArgs false

theorem c_t {α : Type} {p : Prop} {d : Decidable p} (h : p) (a b : α) : (bif @decide p d then a else b) = a := by rw [decide_eq_true h]; rfl
theorem n_drop_next {a : List Int} {q : Nat} (h : q < a.length) : a.drop q = a.getD q 0 :: a.drop (q + 1) := by
  rw [List.drop_eq_getElem_cons h]
  simp [List.getD, h]
theorem drop_set_same {a : List Int} {q : Nat} {v : Int} (h : q < a.length) : (a.set q v).drop q = v :: a.drop (q + 1) := by
  rw [n_drop_next (by simpa using h), getD_set h, if_pos rfl]
  congr 1
  rw [List.drop_set]; simp
theorem div_unique {x q b r : Int} (h : x = q * b + r) (h0 : 0 ≤ r) (h1 : r < b) : x / b = q ∧ x % b = r := by
  subst h
  rw [Int.mul_comm, Int.add_comm]
  constructor
  · rw [Int.add_mul_ediv_left _ _ (by omega), Int.ediv_eq_zero_of_lt h0 h1, Int.zero_add]
  · rw [Int.add_mul_emod_self_left, Int.emod_eq_of_lt h0 h1]

theorem hi_bound {hi lo y : Int} (h : 0 ≤ hi ∧ hi < y) (hy : y < 4294967296) (hl : 0 ≤ lo ∧ lo < 4294967296) :
    0 ≤ (lo + 4294967296 * hi) / y ∧ (lo + 4294967296 * hi) / y < 4294967296 ∧ 0 ≤ (lo + 4294967296 * hi) % y ∧ (lo + 4294967296 * hi) % y < y := by
  have h1 := Int.ediv_nonneg (a := lo + 4294967296 * hi) (b := y) (by omega) (by omega)
  have h2 := (Int.ediv_lt_iff_lt_mul (a := lo + 4294967296 * hi) (b := 4294967296) (c := y) (by omega)).2 (by omega)
  have h3 := Int.emod_nonneg (lo + 4294967296 * hi) (b := y) (by omega)
  have h4 := Int.emod_lt_of_pos (lo + 4294967296 * hi) (b := y) (by omega)
  omega
theorem Div32_F {hi lo y : Int} (h : 0 ≤ hi ∧ hi < y) (hy : y < 4294967296) (hl : 0 ≤ lo ∧ lo < 4294967296) : bits_Div32.F (hi, lo, y, ()) = some ((lo + 4294967296 * hi) / y, (lo + 4294967296 * hi) % y, ()) := by
  refine bits_Div32.of 0 hi lo y ?_
  have hb := hi_bound h hy hl
  have e := or64_lo hl (show 0 ≤ hi ∧ hi < 4294967296 by omega)
  rw [← shl64_32] at e
  simp (disch := omega) only [c_dec, c_beq, c_bne, c_and, c_or, c_not, blt_dec, up1, dn1, if_t, if_f, if_true, if_false, Int.toNat_natCast, Option.bind_some, ne_eq, not_true_eq_false, not_false_eq_true, true_and, and_true, bits_Div32.e, IntWalk.u64_in, IntWalk.u32_in, e, IntWalk.u64_quo, IntWalk.rem_in]

/-- What a division by one limb keeps. -/
def ShortInv (a : List Int) (b : Int) (n : Nat) (q : List Int) (r : Int) : Prop :=
  n ≤ a.length ∧ q.length = a.length ∧ Limbs q ∧ (0 ≤ r ∧ r < b) ∧ val (a.drop n) = val (q.drop n) * b + r
theorem ShortInv.start {a : List Int} {b : Int} (hb : 0 < b) : ShortInv a b a.length (List.replicate a.length 0) 0 :=
  ⟨Nat.le_refl _, by simp, Limbs.zeros _, ⟨Int.le_refl _, hb⟩, by simp [val_nil]⟩
theorem ShortInv.next {a : List Int} {b : Int} {m : Nat} {q : List Int} {r : Int} (ha : Limbs a) (hb : b < 4294967296) (h : ShortInv a b (m + 1) q r) :
    ShortInv a b m (q.set m ((a.getD m 0 + 4294967296 * r) / b)) ((a.getD m 0 + 4294967296 * r) % b) := by
  obtain ⟨h1, h2, h3, h4, h5⟩ := h
  have g := ha.get m
  have hh := hi_bound h4 hb g
  refine ⟨by omega, by simpa using h2, h3.set m ⟨hh.1, hh.2.1⟩, ⟨hh.2.2.1, hh.2.2.2⟩, ?_⟩
  rw [n_drop_next (by omega), drop_set_same (by omega), val_cons, val_cons, h5]
  have := Int.mul_ediv_add_emod (a.getD m 0 + 4294967296 * r) b
  rw [Int.add_mul, Int.mul_add, Int.mul_assoc, Int.mul_comm ((a.getD m 0 + 4294967296 * r) / b)]
  omega
theorem ShortInv.last {a : List Int} {b : Int} {q : List Int} {r : Int} (h : ShortInv a b 0 q r) : val q = val a / b ∧ r = val a % b := by
  obtain ⟨h1, h2, h3, h4, h5⟩ := h
  rw [List.drop_zero, List.drop_zero] at h5
  have := div_unique h5 h4.1 h4.2
  exact ⟨this.1.symm, this.2.symm⟩

theorem short_F {a : List Int} {b : Int} (ha : Limbs a) (la : a.length ≤ 70368744177664) (hb : 0 < b ∧ b < 4294967296) :
    ∃ q, nat_short.F (a, b, ()) = some (q, val a % b, ()) ∧ Limbs q ∧ q.length = a.length ∧ val q = val a / b := by
  obtain ⟨q, ⟨hq1, hq2, hq3⟩, j, hj⟩ := reach (fun k (s : Nat × List Int × Int) => nat_short.L4 k a b s.2.1 s.2.2 ((s.1 : Int) - 1)) (fun k (q : List Int) => some (q, val a % b, ())) (fun s => ShortInv a b s.1 s.2.1 s.2.2) (fun s => s.1) (fun q => Limbs q ∧ q.length = a.length ∧ val q = val a / b) (fun s hs => by
    obtain ⟨n, q, r⟩ := s
    rcases n with _ | m
    · have hl := hs.last
      obtain ⟨h1, h2, h3, h4, h5⟩ := hs
      simp only at hl
      refine .inr ⟨q, ⟨h3, h2, hl.1⟩, 1, fun k => ?_⟩
      simp (disch := omega) only [c_dec, c_beq, c_bne, c_and, c_or, c_not, blt_dec, up1, dn1, if_t, if_f, if_true, if_false, Int.toNat_natCast, Option.bind_some, ne_eq, not_true_eq_false, not_false_eq_true, true_and, and_true, nat_short.L4_succ, nat_short.b4, sub0, hl]
    · have hn := hs.next ha hb.2
      obtain ⟨h1, h2, h3, h4, h5⟩ := hs
      simp only at h1 h2 h4
      refine .inl ⟨(m, _, _), hn, Nat.lt_succ_self m, 1, fun k => ?_⟩
      simp (disch := omega) only [c_dec, c_beq, c_bne, c_and, c_or, c_not, blt_dec, up1, dn1, if_t, if_f, if_true, if_false, Int.toNat_natCast, Option.bind_some, ne_eq, not_true_eq_false, not_false_eq_true, true_and, and_true, nat_short.L4_succ, nat_short.b4, sub1, Div32_F h4 hb.2 (ha.get m), IntWalk.i64_in]) (a.length, List.replicate a.length 0, 0) (ShortInv.start hb.1)
  refine ⟨q, nat_short.of (0 + j) a b ?_, hq1, hq2, hq3⟩
  simp (disch := omega) only [c_dec, c_beq, c_bne, c_and, c_or, c_not, blt_dec, up1, dn1, if_t, if_f, if_true, if_false, Int.toNat_natCast, Option.bind_some, ne_eq, not_true_eq_false, not_false_eq_true, true_and, and_true, nat_short.e, IntWalk.i64_in]
  exact hj 0

end Go.Fx.Try
