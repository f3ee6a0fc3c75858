/- Division by one limb; Text, both. -/
import Derived.Test.YtjhbcpnliiegoaaDoorNB
import Derived.Laws.Strings
namespace Go.Fx.Tryd
open Go Go.Fx Go.Fx.Num
set_option linter.unusedVariables false
set_option linter.unusedSimpArgs false

theorem c_t {α : Type} {p : Prop} {d : Decidable p} (h : p) (a b : α) : (bif @decide p d then a else b) = a := by rw [decide_eq_true h]; rfl
theorem n_drop_next {a : List Int} {q : Nat} (h : q < a.length) : a.drop q = a.getD q 0 :: a.drop (q + 1) := by
  rw [List.drop_eq_getElem_cons h]
  simp [List.getD, h]
theorem drop_set_same {a : List Int} {q : Nat} {v : Int} (h : q < a.length) : (a.set q v).drop q = v :: a.drop (q + 1) := by
  rw [n_drop_next (by simpa using h), getD_set h, if_pos rfl]
  congr 1
  rw [List.drop_set]; simp
theorem div_unique {x q b r : Int} (h : x = q * b + r) (h0 : 0 ≤ r) (h1 : r < b) : x / b = q ∧ x % b = r := by
  subst h
  rw [Int.mul_comm, Int.add_comm]
  constructor
  · rw [Int.add_mul_ediv_left _ _ (by omega), Int.ediv_eq_zero_of_lt h0 h1, Int.zero_add]
  · rw [Int.add_mul_emod_self_left, Int.emod_eq_of_lt h0 h1]

theorem hi_bound {hi lo y : Int} (h : 0 ≤ hi ∧ hi < y) (hy : y < 4294967296) (hl : 0 ≤ lo ∧ lo < 4294967296) :
    0 ≤ (lo + 4294967296 * hi) / y ∧ (lo + 4294967296 * hi) / y < 4294967296 ∧ 0 ≤ (lo + 4294967296 * hi) % y ∧ (lo + 4294967296 * hi) % y < y := by
  have h1 := Int.ediv_nonneg (a := lo + 4294967296 * hi) (b := y) (by omega) (by omega)
  have h2 := (Int.ediv_lt_iff_lt_mul (a := lo + 4294967296 * hi) (b := 4294967296) (c := y) (by omega)).2 (by omega)
  have h3 := Int.emod_nonneg (lo + 4294967296 * hi) (b := y) (by omega)
  have h4 := Int.emod_lt_of_pos (lo + 4294967296 * hi) (b := y) (by omega)
  omega
theorem Div32_F {hi lo y : Int} (h : 0 ≤ hi ∧ hi < y) (hy : y < 4294967296) (hl : 0 ≤ lo ∧ lo < 4294967296) : bits_Div32.F (hi, lo, y, ()) = some ((lo + 4294967296 * hi) / y, (lo + 4294967296 * hi) % y, ()) := by
  refine bits_Div32.of 0 hi lo y ?_
  have hb := hi_bound h hy hl
  have e := or64_lo hl (show 0 ≤ hi ∧ hi < 4294967296 by omega)
  rw [← shl64_32] at e
  simp (disch := omega) only [c_dec, c_beq, c_bne, c_and, c_or, c_not, blt_dec, up1, dn1, if_t, if_f, if_true, if_false, Int.toNat_natCast, Option.bind_some, ne_eq, not_true_eq_false, not_false_eq_true, true_and, and_true, bits_Div32.e, IntWalk.u64_in, IntWalk.u32_in, e, IntWalk.u64_quo, IntWalk.rem_in]

/-- What a division by one limb keeps. -/
def ShortInv (a : List Int) (b : Int) (n : Nat) (q : List Int) (r : Int) : Prop :=
  n ≤ a.length ∧ q.length = a.length ∧ Limbs q ∧ (0 ≤ r ∧ r < b) ∧ val (a.drop n) = val (q.drop n) * b + r
theorem ShortInv.start {a : List Int} {b : Int} (hb : 0 < b) : ShortInv a b a.length (List.replicate a.length 0) 0 :=
  ⟨Nat.le_refl _, by simp, Limbs.zeros _, ⟨Int.le_refl _, hb⟩, by simp [val_nil]⟩
theorem ShortInv.next {a : List Int} {b : Int} {m : Nat} {q : List Int} {r : Int} (ha : Limbs a) (hb : b < 4294967296) (h : ShortInv a b (m + 1) q r) :
    ShortInv a b m (q.set m ((a.getD m 0 + 4294967296 * r) / b)) ((a.getD m 0 + 4294967296 * r) % b) := by
  obtain ⟨h1, h2, h3, h4, h5⟩ := h
  have g := ha.get m
  have hh := hi_bound h4 hb g
  refine ⟨by omega, by simpa using h2, h3.set m ⟨hh.1, hh.2.1⟩, ⟨hh.2.2.1, hh.2.2.2⟩, ?_⟩
  rw [n_drop_next (by omega), drop_set_same (by omega), val_cons, val_cons, h5]
  have := Int.mul_ediv_add_emod (a.getD m 0 + 4294967296 * r) b
  rw [Int.add_mul, Int.mul_add, Int.mul_assoc, Int.mul_comm ((a.getD m 0 + 4294967296 * r) / b)]
  omega
theorem ShortInv.last {a : List Int} {b : Int} {q : List Int} {r : Int} (h : ShortInv a b 0 q r) : val q = val a / b ∧ r = val a % b := by
  obtain ⟨h1, h2, h3, h4, h5⟩ := h
  rw [List.drop_zero, List.drop_zero] at h5
  have := div_unique h5 h4.1 h4.2
  exact ⟨this.1.symm, this.2.symm⟩

theorem short_F {a : List Int} {b : Int} (ha : Limbs a) (la : a.length ≤ 70368744177664) (hb : 0 < b ∧ b < 4294967296) :
    ∃ q, nat_short.F (a, b, ()) = some (q, val a % b, ()) ∧ Limbs q ∧ q.length = a.length ∧ val q = val a / b := by
  obtain ⟨q, ⟨hq1, hq2, hq3⟩, j, hj⟩ := reach (fun k (s : Nat × List Int × Int) => nat_short.L4 k a b s.2.1 s.2.2 ((s.1 : Int) - 1)) (fun k (q : List Int) => some (q, val a % b, ())) (fun s => ShortInv a b s.1 s.2.1 s.2.2) (fun s => s.1) (fun q => Limbs q ∧ q.length = a.length ∧ val q = val a / b) (fun s hs => by
    obtain ⟨n, q, r⟩ := s
    rcases n with _ | m
    · have hl := hs.last
      obtain ⟨h1, h2, h3, h4, h5⟩ := hs
      simp only at hl
      refine .inr ⟨q, ⟨h3, h2, hl.1⟩, 1, fun k => ?_⟩
      simp (disch := omega) only [c_dec, c_beq, c_bne, c_and, c_or, c_not, blt_dec, up1, dn1, if_t, if_f, if_true, if_false, Int.toNat_natCast, Option.bind_some, ne_eq, not_true_eq_false, not_false_eq_true, true_and, and_true, nat_short.L4_succ, nat_short.b4, sub0, hl]
    · have hn := hs.next ha hb.2
      obtain ⟨h1, h2, h3, h4, h5⟩ := hs
      simp only at h1 h2 h4
      refine .inl ⟨(m, _, _), hn, Nat.lt_succ_self m, 1, fun k => ?_⟩
      simp (disch := omega) only [c_dec, c_beq, c_bne, c_and, c_or, c_not, blt_dec, up1, dn1, if_t, if_f, if_true, if_false, Int.toNat_natCast, Option.bind_some, ne_eq, not_true_eq_false, not_false_eq_true, true_and, and_true, nat_short.L4_succ, nat_short.b4, sub1, Div32_F h4 hb.2 (ha.get m), IntWalk.i64_in]) (a.length, List.replicate a.length 0, 0) (ShortInv.start hb.1)
  refine ⟨q, nat_short.of (0 + j) a b ?_, hq1, hq2, hq3⟩
  simp (disch := omega) only [c_dec, c_beq, c_bne, c_and, c_or, c_not, blt_dec, up1, dn1, if_t, if_f, if_true, if_false, Int.toNat_natCast, Option.bind_some, ne_eq, not_true_eq_false, not_false_eq_true, true_and, and_true, nat_short.e, IntWalk.i64_in]
  exact hj 0

theorem tenth_F {a : List Int} {b : Int} (ha : Limbs a) (la : a.length ≤ 70368744177664) (hb : 0 < b ∧ b < 4294967296) : fulcrumref01_tenth.F (a, b, ()) = some (canon (val a / b), val a % b, ()) := by
  obtain ⟨j, hj⟩ := ends (fun k (s : Nat × List Int × Int) => fulcrumref01_tenth.L4 k a b s.2.1 s.2.2 ((s.1 : Int) - 1)) (canon (val a / b), val a % b, ()) (fun s => ShortInv a b s.1 s.2.1 s.2.2) (fun s => s.1) (fun s hs => by
    obtain ⟨n, q, r⟩ := s
    rcases n with _ | m
    · have hl := hs.last
      obtain ⟨h1, h2, h3, h4, h5⟩ := hs
      simp only at hl h2 h3 h4
      refine .inr ⟨1, fun k => ?_⟩
      have hr : 0 ≤ val a % b ∧ val a % b < 4294967296 := by omega
      simp (disch := omega) only [c_dec, c_beq, c_bne, c_and, c_or, c_not, blt_dec, up1, dn1, if_t, if_f, if_true, if_false, Int.toNat_natCast, Option.bind_some, ne_eq, not_true_eq_false, not_false_eq_true, true_and, and_true, fulcrumref01_tenth.L4_succ, fulcrumref01_tenth.b4, sub0, rNorm_F h3 (by omega), hl, IntWalk.i64_in]
    · have hn := hs.next ha hb.2
      obtain ⟨h1, h2, h3, h4, h5⟩ := hs
      simp only at h1 h2 h4
      have g := ha.get m
      have hh := hi_bound h4 hb.2 g
      have e := or64_lo g (show 0 ≤ r ∧ r < 4294967296 by omega)
      rw [← shl64_32] at e
      refine .inl ⟨(m, _, _), hn, Nat.lt_succ_self m, 1, fun k => ?_⟩
      simp (disch := omega) only [c_dec, c_beq, c_bne, c_and, c_or, c_not, blt_dec, up1, dn1, if_t, if_f, if_true, if_false, Int.toNat_natCast, Option.bind_some, ne_eq, not_true_eq_false, not_false_eq_true, true_and, and_true, fulcrumref01_tenth.L4_succ, fulcrumref01_tenth.b4, sub1, e, IntWalk.u64_in, IntWalk.u32_in, IntWalk.u64_quo, IntWalk.rem_in, IntWalk.i64_in]) (a.length, List.replicate a.length 0, 0) (ShortInv.start hb.1)
  refine fulcrumref01_tenth.of (0 + j) a b ?_
  simp (disch := omega) only [c_dec, c_beq, c_bne, c_and, c_or, c_not, blt_dec, up1, dn1, if_t, if_f, if_true, if_false, Int.toNat_natCast, Option.bind_some, ne_eq, not_true_eq_false, not_false_eq_true, true_and, and_true, fulcrumref01_tenth.e, IntWalk.i64_in]
  exact hj 0

/-! ### texts -/
def dtab : ByteArray := ⟨#[48, 49, 50, 51, 52, 53, 54, 55, 56, 57, 97, 98, 99, 100, 101, 102]⟩
/-- A number's digits, the lowest first. -/
def digs (b : Nat) (n : Nat) : List Int := if h : n = 0 ∨ b < 2 then [] else btI dtab ((n % b : Nat) : Int) :: digs b (n / b)
termination_by n
decreasing_by exact Nat.div_lt_self (by omega) (by omega)
theorem digs_zero (b : Nat) : digs b 0 = [] := by rw [digs]; simp
theorem digs_pos {b n : Nat} (hb : 2 ≤ b) (h : n ≠ 0) : digs b n = btI dtab ((n % b : Nat) : Int) :: digs b (n / b) := by rw [digs]; rw [dif_neg (by omega)]
theorem digs_len {b : Nat} (hb : 2 ≤ b) : ∀ (k n : Nat), n < 2 ^ k → (digs b n).length ≤ k := by
  intro k
  induction k with
  | zero => intro n h; obtain rfl : n = 0 := by simpa using h
            rw [digs_zero]; simp
  | succ k ih =>
    intro n h
    by_cases h0 : n = 0
    · subst h0; rw [digs_zero]; simp
    · rw [digs_pos hb h0, List.length_cons]
      have h1 : n / b ≤ n / 2 := Nat.div_le_div_left hb (by decide)
      have := ih (n / b) (by rw [Nat.pow_succ] at h; omega)
      omega
/-- A number's text. -/
def txt (b n : Nat) : ByteArray := if n = 0 then ⟨#[48]⟩ else strOfNums (digs b n).reverse

theorem rev_set {l : List Int} {i : Nat} (h : i < l.length) : (List.replicate (l.length - i) (0 : Int) ++ (l.take i).reverse).set (l.length - 1 - i) (l.getD i 0) = List.replicate (l.length - (i + 1)) 0 ++ (l.take (i + 1)).reverse := by
  obtain ⟨m, hm⟩ : ∃ m, l.length - i = m + 1 := ⟨l.length - i - 1, by omega⟩
  have e1 : l.length - 1 - i = m := by omega
  have e2 : l.length - (i + 1) = m := by omega
  rw [hm, e1, e2, List.replicate_succ', List.append_assoc, List.set_append_right m _ (by simp), List.length_replicate, Nat.sub_self, List.take_add_one]
  have : l[i]? = some (l.getD i 0) := by simp [List.getD, h]
  rw [this]; simp
theorem rev_len {l : List Int} {i : Nat} (h : i ≤ l.length) : (List.replicate (l.length - i) (0 : Int) ++ (l.take i).reverse).length = l.length := by
  simp; omega

theorem dig_mod {v : Int} {b : Nat} (hv : 0 ≤ v) (hb : 2 ≤ b) (h0 : v ≠ 0) : digs b v.toNat = btI dtab (v % b) :: digs b (v / b).toNat := by
  obtain ⟨n, rfl⟩ := Int.eq_ofNat_of_zero_le hv
  rw [Int.toNat_natCast, digs_pos hb (by omega)]
  rw [← Int.natCast_ediv, Int.toNat_natCast, Int.natCast_emod]
theorem dtab_size : ByteArray.size dtab = 16 := rfl

theorem Text_F' {a : List Int} {b : Int} (ha : Limbs a) (la : a.length ≤ 70368744177664) (ld : ∀ c : Nat, 2 ≤ c → b = (c : Int) → (digs c (val a).toNat).length ≤ 140737488351232) : nat_Text.F (a, b, ()) = some (if 2 ≤ b ∧ b ≤ 16 then (txt b.toNat (val a).toNat, 0, ()) else (⟨#[]⟩, 14, ())) := by
  by_cases hb : 2 ≤ b ∧ b ≤ 16
  · obtain ⟨c, rfl⟩ := Int.eq_ofNat_of_zero_le (show 0 ≤ b by omega)
    have hc : 2 ≤ c ∧ c ≤ 16 := by omega
    rw [if_pos hb, Int.toNat_natCast]
    have hva := val_nonneg ha
    have hlen : (digs c (val a).toNat).length ≤ 140737488351232 := ld c hc.1 rfl
    have rev : ∀ back : List Int, back = digs c (val a).toNat → back ≠ [] → ∃ j, ∀ k, nat_Text.L14 (k + j) back (List.replicate back.length 0) back.length 0 = some (txt c (val a).toNat, 0, ()) := by
      intro back hback hne
      have hn : (val a).toNat ≠ 0 := fun h => hne (by rw [hback, h, digs_zero])
      have hbl : back.length ≤ 140737488351232 := by rw [hback]; exact hlen
      refine up (fun k (s : Nat × List Int) => nat_Text.L14 k back s.2 back.length (s.1 : Int)) _ (fun i s => s = List.replicate (back.length - i) 0 ++ (back.take i).reverse) back.length (fun i s hi hs => ?_) (fun s hs => ?_) 0 _ (Nat.zero_le _) (by simp)
      · subst hs
        have h1 := rev_len (l := back) (Nat.le_of_lt hi)
        have e : (back.length : Int) - 1 - i = ((back.length - 1 - i : Nat) : Int) := by omega
        refine ⟨_, rfl, 1, fun k => ?_⟩
        simp (disch := omega) only [c_dec, c_beq, c_bne, c_and, c_or, c_not, blt_dec, up1, dn1, if_t, if_f, if_true, if_false, Int.toNat_natCast, Option.bind_some, ne_eq, not_true_eq_false, not_false_eq_true, true_and, and_true, nat_Text.L14_succ, nat_Text.b14, IntWalk.i64_in, e, rev_set hi]
        rw [show (i : Int) + 1 = ((i + 1 : Nat) : Int) by omega]
      · subst hs
        refine ⟨1, fun k => ?_⟩
        simp (disch := omega) only [c_dec, c_beq, c_bne, c_and, c_or, c_not, blt_dec, up1, dn1, if_t, if_f, if_true, if_false, Int.toNat_natCast, Option.bind_some, ne_eq, not_true_eq_false, not_false_eq_true, true_and, and_true, nat_Text.L14_succ, nat_Text.b14, Nat.sub_self, List.replicate_zero, List.nil_append, List.take_length]
        unfold txt
        rw [if_neg hn, hback]
    obtain ⟨j, hj⟩ := ends (fun k (s : List Int × List Int) => nat_Text.L5 k c s.1 s.2) (txt c (val a).toNat, 0, ()) (fun s => s.1 ++ digs c (val s.2).toNat = digs c (val a).toNat ∧ Nrm s.2 ∧ s.2.length ≤ a.length) (fun s => (val s.2).toNat) (fun s ⟨h1, h2, h3⟩ => by
      obtain ⟨back, rest⟩ := s
      simp only at h1 h2 h3
      have hv := val_nonneg h2.1
      by_cases h0 : rest.length = 0
      · have hr : rest = [] := List.length_eq_zero_iff.1 h0
        subst hr
        rw [val_nil, show (0 : Int).toNat = 0 from rfl, digs_zero, List.append_nil] at h1
        by_cases hb0 : back.length = 0
        · refine .inr ⟨1, fun k => ?_⟩
          have hz : (val a).toNat = 0 := by
            by_cases hz : (val a).toNat = 0
            · exact hz
            · rw [digs_pos hc.1 hz] at h1; rw [h1] at hb0; simp at hb0
          simp (disch := omega) only [c_dec, c_beq, c_bne, c_and, c_or, c_not, blt_dec, up1, dn1, if_t, if_f, if_true, if_false, Int.toNat_natCast, Option.bind_some, ne_eq, not_true_eq_false, not_false_eq_true, true_and, and_true, nat_Text.L5_succ, nat_Text.b5]
          unfold txt; rw [if_pos hz]
        · obtain ⟨j, hj⟩ := rev back h1 (fun h => hb0 (by rw [h]; rfl))
          refine .inr ⟨j + 1, fun k => ?_⟩
          have hbl : back.length ≤ 140737488351232 := by rw [h1]; exact hlen
          rw [← Nat.add_assoc]
          simp (disch := omega) only [c_dec, c_beq, c_bne, c_and, c_or, c_not, blt_dec, up1, dn1, if_t, if_f, if_true, if_false, Int.toNat_natCast, Option.bind_some, ne_eq, not_true_eq_false, not_false_eq_true, true_and, and_true, nat_Text.L5_succ, nat_Text.b5]
          exact hj k
      · have hp := nrm_pos h2 h0
        have hp2 := pw_pos (rest.length - 1)
        obtain ⟨q, hq, hq1, hq2, hq3⟩ := short_F (b := (c : Int)) h2.1 (by omega) (by omega)
        have hd := dig_mod (v := val rest) (b := c) hv hc.1 (by omega)
        have hdl := hd ▸ h1
        have hdv : 0 ≤ val rest / c ∧ val rest / c < val rest := by
          have := Int.ediv_nonneg hv (show 0 ≤ (c : Int) by omega)
          have h8 : val rest * 2 ≤ val rest * c := Int.mul_le_mul_of_nonneg_left (by omega) hv
          have := (Int.ediv_lt_iff_lt_mul (a := val rest) (b := val rest) (c := (c : Int)) (by omega)).2 (by omega)
          omega
        have hmd : 0 ≤ val rest % c ∧ val rest % c < 16 := by
          have := Int.emod_nonneg (val rest) (b := (c : Int)) (by omega)
          have := Int.emod_lt_of_pos (val rest) (b := (c : Int)) (by omega)
          omega
        have hbl : back.length + 1 ≤ 140737488351232 := by
          have := congrArg List.length hdl
          simp only [List.length_append, List.length_cons] at this
          omega
        refine .inl ⟨(back ++ [btI dtab (val rest % c)], canon (val rest / c)), ⟨?_, canon_nrm _, ?_⟩, ?_, 1, fun k => ?_⟩
        · simp only; rw [val_canon hdv.1, List.append_assoc]; exact hdl
        · refine Nat.le_trans (canon_len_le (k := rest.length) hdv.1 ?_) h3
          have := val_lt h2.1; omega
        · simp only; rw [val_canon hdv.1]; omega
        · have et : nat_trim.F (q, ()) = some (canon (val rest / c), ()) := by rw [← hq3]; exact trim_F hq1 (by omega)
          simp only [nat_Text.L5_succ, nat_Text.b5, show (⟨#[48, 49, 50, 51, 52, 53, 54, 55, 56, 57, 97, 98, 99, 100, 101, 102]⟩ : ByteArray) = dtab from rfl]
          simp (disch := omega) only [c_dec, c_beq, c_bne, c_and, c_or, c_not, blt_dec, up1, dn1, if_t, if_f, if_true, if_false, Int.toNat_natCast, Option.bind_some, ne_eq, not_true_eq_false, not_false_eq_true, true_and, and_true, IntWalk.u32_in, hq, et, dtab_size, List.length_cons, List.length_nil]
          exact c_t (by omega) _ _) ([], canon (val a)) ⟨by simp only; rw [val_canon hva]; rfl, canon_nrm _, canon_val_len ha⟩
    refine nat_Text.of (0 + j) a c ?_
    simp (disch := omega) only [c_dec, c_beq, c_bne, c_and, c_or, c_not, blt_dec, up1, dn1, if_t, if_f, if_true, if_false, Int.toNat_natCast, Option.bind_some, ne_eq, not_true_eq_false, not_false_eq_true, true_and, and_true, nat_Text.e, own_F ha]
    exact hj 0
  · rw [if_neg hb]
    refine nat_Text.of 0 a b ?_
    by_cases h2 : b < 2
    · simp (disch := omega) only [c_dec, c_beq, c_bne, c_and, c_or, c_not, blt_dec, up1, dn1, if_t, if_f, if_true, if_false, Int.toNat_natCast, Option.bind_some, ne_eq, not_true_eq_false, not_false_eq_true, true_and, and_true, nat_Text.e]
    · simp (disch := omega) only [c_dec, c_beq, c_bne, c_and, c_or, c_not, blt_dec, up1, dn1, if_t, if_f, if_true, if_false, Int.toNat_natCast, Option.bind_some, ne_eq, not_true_eq_false, not_false_eq_true, true_and, and_true, nat_Text.e]
theorem Text_F {a : List Int} {b : Int} (ha : Limbs a) (la : a.length ≤ 1099511627776) : nat_Text.F (a, b, ()) = some (if 2 ≤ b ∧ b ≤ 16 then (txt b.toNat (val a).toNat, 0, ()) else (⟨#[]⟩, 14, ())) := by
  refine Text_F' ha (by omega) fun c hc _ => ?_
  have hva := val_nonneg ha
  have h1 := val_lt ha
  have h2 : pw a.length = (2 : Int) ^ (32 * a.length) := by
    unfold pw; rw [Int.pow_mul]; rfl
  have h3 : ((val a).toNat : Int) < 2 ^ (32 * a.length) := by omega
  have := digs_len hc (32 * a.length) (val a).toNat (by exact_mod_cast h3)
  omega
end Go.Fx.Tryd

namespace Go.Fx.Tryd
open Go Go.Fx Go.Fx.Num
set_option linter.unusedVariables false
set_option linter.unusedSimpArgs false

theorem rText_F {a : List Int} {b : Int} (ha : Limbs a) (la : a.length ≤ 1099511627776) : fulcrumref01_Text.F (a, b, ()) = some (if 2 ≤ b ∧ b ≤ 16 then (txt b.toNat (val a).toNat, 0, ()) else (⟨#[]⟩, 14, ())) := by
  by_cases hb : 2 ≤ b ∧ b ≤ 16
  · obtain ⟨c, rfl⟩ := Int.eq_ofNat_of_zero_le (show 0 ≤ b by omega)
    have hc : 2 ≤ c ∧ c ≤ 16 := by omega
    rw [if_pos hb, Int.toNat_natCast]
    have hva := val_nonneg ha
    have hlen : (digs c (val a).toNat).length ≤ 32 * a.length := by
      refine digs_len hc.1 _ _ ?_
      have h1 := val_lt ha
      have h2 : pw a.length = (2 : Int) ^ (32 * a.length) := by
        unfold pw; rw [Int.pow_mul]; rfl
      have h3 : ((val a).toNat : Int) < 2 ^ (32 * a.length) := by omega
      exact_mod_cast h3
    have rev : ∀ back : List Int, back = digs c (val a).toNat → back ≠ [] → ∃ j, ∀ k, fulcrumref01_Text.L13 (k + j) back (List.replicate back.length 0) 0 = some (txt c (val a).toNat, 0, ()) := by
      intro back hback hne
      have hn : (val a).toNat ≠ 0 := fun h => hne (by rw [hback, h, digs_zero])
      have hbl : back.length ≤ 32 * a.length := by rw [hback]; exact hlen
      refine up (fun k (s : Nat × List Int) => fulcrumref01_Text.L13 k back s.2 (s.1 : Int)) _ (fun i s => s = List.replicate (back.length - i) 0 ++ (back.take i).reverse) back.length (fun i s hi hs => ?_) (fun s hs => ?_) 0 _ (Nat.zero_le _) (by simp)
      · subst hs
        have h1 := rev_len (l := back) (Nat.le_of_lt hi)
        have e : (back.length : Int) - 1 - i = ((back.length - 1 - i : Nat) : Int) := by omega
        refine ⟨_, rfl, 1, fun k => ?_⟩
        simp (disch := omega) only [c_dec, c_beq, c_bne, c_and, c_or, c_not, blt_dec, up1, dn1, if_t, if_f, if_true, if_false, Int.toNat_natCast, Option.bind_some, ne_eq, not_true_eq_false, not_false_eq_true, true_and, and_true, fulcrumref01_Text.L13_succ, fulcrumref01_Text.b13, IntWalk.i64_in, e, rev_set hi]
        rw [show (i : Int) + 1 = ((i + 1 : Nat) : Int) by omega]
      · subst hs
        refine ⟨1, fun k => ?_⟩
        simp (disch := omega) only [c_dec, c_beq, c_bne, c_and, c_or, c_not, blt_dec, up1, dn1, if_t, if_f, if_true, if_false, Int.toNat_natCast, Option.bind_some, ne_eq, not_true_eq_false, not_false_eq_true, true_and, and_true, fulcrumref01_Text.L13_succ, fulcrumref01_Text.b13, Nat.sub_self, List.replicate_zero, List.nil_append, List.take_length]
        unfold txt
        rw [if_neg hn, hback]
    obtain ⟨j, hj⟩ := ends (fun k (s : List Int × List Int) => fulcrumref01_Text.L5 k s.2 c s.1) (txt c (val a).toNat, 0, ()) (fun s => s.1 ++ digs c (val s.2).toNat = digs c (val a).toNat ∧ Nrm s.2 ∧ s.2.length ≤ a.length) (fun s => (val s.2).toNat) (fun s ⟨h1, h2, h3⟩ => by
      obtain ⟨back, rest⟩ := s
      simp only at h1 h2 h3
      have hv := val_nonneg h2.1
      by_cases h0 : rest.length = 0
      · have hr : rest = [] := List.length_eq_zero_iff.1 h0
        subst hr
        rw [val_nil, show (0 : Int).toNat = 0 from rfl, digs_zero, List.append_nil] at h1
        by_cases hb0 : back.length = 0
        · refine .inr ⟨1, fun k => ?_⟩
          have hz : (val a).toNat = 0 := by
            by_cases hz : (val a).toNat = 0
            · exact hz
            · rw [digs_pos hc.1 hz] at h1; rw [h1] at hb0; simp at hb0
          simp (disch := omega) only [c_dec, c_beq, c_bne, c_and, c_or, c_not, blt_dec, up1, dn1, if_t, if_f, if_true, if_false, Int.toNat_natCast, Option.bind_some, ne_eq, not_true_eq_false, not_false_eq_true, true_and, and_true, fulcrumref01_Text.L5_succ, fulcrumref01_Text.b5]
          unfold txt; rw [if_pos hz]
        · obtain ⟨j, hj⟩ := rev back h1 (fun h => hb0 (by rw [h]; rfl))
          refine .inr ⟨j + 1, fun k => ?_⟩
          have hbl : back.length ≤ 32 * a.length := by rw [h1]; exact hlen
          rw [← Nat.add_assoc]
          simp (disch := omega) only [c_dec, c_beq, c_bne, c_and, c_or, c_not, blt_dec, up1, dn1, if_t, if_f, if_true, if_false, Int.toNat_natCast, Option.bind_some, ne_eq, not_true_eq_false, not_false_eq_true, true_and, and_true, fulcrumref01_Text.L5_succ, fulcrumref01_Text.b5]
          exact hj k
      · have hp := nrm_pos h2 h0
        have hp2 := pw_pos (rest.length - 1)
        have hq := tenth_F (b := (c : Int)) h2.1 (by omega) (by omega)
        have hd := dig_mod (v := val rest) (b := c) hv hc.1 (by omega)
        have hdl := hd ▸ h1
        have hdv : 0 ≤ val rest / c ∧ val rest / c < val rest := by
          have := Int.ediv_nonneg hv (show 0 ≤ (c : Int) by omega)
          have h8 : val rest * 2 ≤ val rest * c := Int.mul_le_mul_of_nonneg_left (by omega) hv
          have := (Int.ediv_lt_iff_lt_mul (a := val rest) (b := val rest) (c := (c : Int)) (by omega)).2 (by omega)
          omega
        have hmd : 0 ≤ val rest % c ∧ val rest % c < 16 := by
          have := Int.emod_nonneg (val rest) (b := (c : Int)) (by omega)
          have := Int.emod_lt_of_pos (val rest) (b := (c : Int)) (by omega)
          omega
        have hbl : back.length + 1 ≤ 32 * a.length := by
          have := congrArg List.length hdl
          simp only [List.length_append, List.length_cons] at this
          omega
        refine .inl ⟨(back ++ [btI dtab (val rest % c)], canon (val rest / c)), ⟨?_, canon_nrm _, ?_⟩, ?_, 1, fun k => ?_⟩
        · simp only; rw [val_canon hdv.1, List.append_assoc]; exact hdl
        · refine Nat.le_trans (canon_len_le (k := rest.length) hdv.1 ?_) h3
          have := val_lt h2.1; omega
        · simp only; rw [val_canon hdv.1]; omega
        · simp only [fulcrumref01_Text.L5_succ, fulcrumref01_Text.b5, show (⟨#[48, 49, 50, 51, 52, 53, 54, 55, 56, 57, 97, 98, 99, 100, 101, 102]⟩ : ByteArray) = dtab from rfl]
          simp (disch := omega) only [c_dec, c_beq, c_bne, c_and, c_or, c_not, blt_dec, up1, dn1, if_t, if_f, if_true, if_false, Int.toNat_natCast, Option.bind_some, ne_eq, not_true_eq_false, not_false_eq_true, true_and, and_true, hq, dtab_size, List.length_cons, List.length_nil]
          exact c_t (by omega) _ _) ([], canon (val a)) ⟨by simp only; rw [val_canon hva]; rfl, canon_nrm _, canon_val_len ha⟩
    refine fulcrumref01_Text.of (0 + j) a c ?_
    simp (disch := omega) only [c_dec, c_beq, c_bne, c_and, c_or, c_not, blt_dec, up1, dn1, if_t, if_f, if_true, if_false, Int.toNat_natCast, Option.bind_some, ne_eq, not_true_eq_false, not_false_eq_true, true_and, and_true, fulcrumref01_Text.e, rNorm_F ha]
    exact hj 0
  · rw [if_neg hb]
    refine fulcrumref01_Text.of 0 a b ?_
    by_cases h2 : b < 2
    · simp (disch := omega) only [c_dec, c_beq, c_bne, c_and, c_or, c_not, blt_dec, up1, dn1, if_t, if_f, if_true, if_false, Int.toNat_natCast, Option.bind_some, ne_eq, not_true_eq_false, not_false_eq_true, true_and, and_true, fulcrumref01_Text.e]
    · simp (disch := omega) only [c_dec, c_beq, c_bne, c_and, c_or, c_not, blt_dec, up1, dn1, if_t, if_f, if_true, if_false, Int.toNat_natCast, Option.bind_some, ne_eq, not_true_eq_false, not_false_eq_true, true_and, and_true, fulcrumref01_Text.e]
end Go.Fx.Tryd

namespace Go.Fx.Tryd
open Go Go.Fx Go.Fx.Num
set_option linter.unusedVariables false
set_option linter.unusedSimpArgs false

/-- A letter's value. -/
def dval (c : Int) : Int := if 48 ≤ c ∧ c ≤ 57 then c - 48 else if 97 ≤ c ∧ c ≤ 102 then c - 87 else 99
theorem dval_pos (c : Int) : 0 ≤ dval c := by unfold dval; split <;> (try split) <;> omega
/-- The number of the first digits. -/
def pv (s : ByteArray) (b : Int) : Nat → Int
  | 0 => 0
  | i + 1 => pv s b i * b + dval (btI s (i : Int))
def bad (s : ByteArray) (b : Int) : Prop := ∃ i : Nat, i < s.size ∧ b ≤ dval (btI s (i : Int))
open Classical in
noncomputable def parseI (s : ByteArray) (b : Int) : List Int × Int × Unit :=
  if b < 2 ∨ 16 < b then ([], 14, ()) else if s.size = 0 ∨ (1 < s.size ∧ btI s 0 = 48) then ([], 15, ()) else if bad s b then ([], 15, ()) else (canon (pv s b s.size), 0, ())
theorem btI_bound (s : ByteArray) (i : Int) : 0 ≤ btI s i ∧ btI s i < 256 := by
  unfold btI
  have := (s.data.getD i.toNat 0).toNat_lt
  omega
theorem bytes_toList (s : ByteArray) : s.toList = s.data.toList := by simp [ByteArray.toList_eq]
theorem is_empty (s : ByteArray) : (s.toList == (⟨#[]⟩ : ByteArray).toList) = decide (s.size = 0) := by
  rw [bytes_toList, bytes_toList]
  have : s.size = s.data.toList.length := by show s.data.size = _; rw [Array.length_toList]
  rw [this]
  cases s.data.toList <;> simp
theorem sixteen (i : Nat) : (16 : Int) ^ i ≤ pw (i / 8 + 1) := by
  have h1 : (2 : Nat) ^ (4 * i) ≤ 2 ^ (32 * (i / 8 + 1)) := Nat.pow_le_pow_right (by decide) (by omega)
  have h2 : (16 : Nat) ^ i = 2 ^ (4 * i) := by
    rw [Nat.pow_mul, show (2 : Nat) ^ 4 = 16 by decide]
  have h3 : pw (i / 8 + 1) = ((2 ^ (32 * (i / 8 + 1)) : Nat) : Int) := by
    generalize i / 8 + 1 = m
    induction m with
    | zero => rfl
    | succ m ih =>
      rw [pw_succ, ih, Nat.mul_succ, Nat.pow_add, Int.natCast_mul, show ((2 ^ 32 : Nat) : Int) = 4294967296 by decide]; omega
  rw [h3]
  have h4 : ((16 ^ i : Nat) : Int) = (16 : Int) ^ i := Int.natCast_pow 16 i
  rw [← h4, h2]
  exact Int.ofNat_le.2 h1
theorem pv_bound {s : ByteArray} {b : Int} (hb : 2 ≤ b ∧ b ≤ 16) (i : Nat) (h : ∀ j, j < i → dval (btI s (j : Int)) < b) : 0 ≤ pv s b i ∧ pv s b i < 16 ^ i := by
  induction i with
  | zero => simp [pv]
  | succ i ih =>
    obtain ⟨h1, h2⟩ := ih (fun j hj => h j (by omega))
    have h3 := h i (by omega)
    have h4 := dval_pos (btI s (i : Int))
    have h5 : 0 ≤ pv s b i * b := Int.mul_nonneg h1 (by omega)
    have h6 : (pv s b i + 1) * b ≤ (pv s b i + 1) * 16 := Int.mul_le_mul_of_nonneg_left hb.2 (by omega)
    have h7 : (pv s b i + 1) * 16 ≤ 16 ^ i * 16 := Int.mul_le_mul_of_nonneg_right (by omega) (by decide)
    rw [Int.pow_succ]
    rw [Int.add_mul, Int.one_mul] at h6
    exact ⟨by show 0 ≤ pv s b i * b + _; omega, by show pv s b i * b + _ < _; omega⟩
theorem pv_nm {s : ByteArray} {b : Int} (hb : 2 ≤ b ∧ b ≤ 16) {i : Nat} (h : ∀ j, j < i → dval (btI s (j : Int)) < b) : Nm (canon (pv s b i)) (pv s b i) (i / 8 + 1) := by
  obtain ⟨h1, h2⟩ := pv_bound hb i h
  exact .canon h1 (Int.lt_of_lt_of_le h2 (sixteen i))

/-! ### the code -/
theorem tab_fin' : ∀ v : Fin 55, List.getD tabXs v.val (0 : Int) = dval ((v.val : Nat) + 48 : Int) := by decide
theorem tab_dval {c : Int} (h : 48 ≤ c ∧ c < 103) : List.getD tabXs (c - 48).toNat (0 : Int) = dval c := by
  have := tab_fin' ⟨(c - 48).toNat, by omega⟩
  simp only at this
  rw [this]
  congr 1; omega
theorem dval_out {c : Int} (h : c < 48 ∨ 103 ≤ c) : dval c = 99 := by unfold dval; rw [if_neg (by omega), if_neg (by omega)]
theorem nrm_ge {c : List Int} (hc : Limbs c) (h : c.length = 0 ∨ pw (c.length - 1) ≤ val c) : Nrm c := by
  refine ⟨hc, h.imp id fun h => ?_⟩
  intro h0
  rcases Nat.eq_zero_or_pos c.length with h1 | h1
  · have : c = [] := List.length_eq_zero_iff.1 h1
    subst this
    rw [val_nil] at h
    have := pw_pos ([] : List Int).length
    have h2 : pw (([] : List Int).length - 1) = 1 := rfl
    omega
  · have h2 := val_take_next c (c.length - 1)
    rw [show c.length - 1 + 1 = c.length by omega, List.take_length, h0, Int.zero_mul, Int.add_zero] at h2
    have h3 := val_lt (hc.take (c.length - 1))
    rw [List.length_take, Nat.min_eq_left (by omega)] at h3
    omega
theorem parse_inner {s : ByteArray} {b : Int} (hb : 2 ≤ b ∧ b ≤ 16) {v d : Int} (hv : 0 ≤ v) (hd : 0 ≤ d ∧ d < 16) {n : Nat} (hl : v < pw n) (hn : n < 17592186044500) {x31 x43 x47 x49 x50 x51 : Int} {x44 x52 : Bool} {i : Nat} (hi : i < 4611686018427387904) :
    ∃ j, ∀ k, nat_Parse.L14 (k + j) s b (canon v) d x31 (i : Int) x43 x44 x47 x49 x50 x51 x52 ((canon v).length : Int) 0 = nat_Parse.L7 k s b (canon (v * b + d)) x31 ((i + 1 : Nat) : Int) := by
  have hX := canon_nrm v
  have hvX := val_canon hv
  have hlen := canon_len_le hv hl
  generalize canon v = X at hX hvX hlen
  obtain ⟨t, ht, j, hj⟩ := upTo (fun k (q : Nat × List Int × Int) => nat_Parse.L14 k s b q.2.1 q.2.2 x31 (i : Int) x43 x44 x47 x49 x50 x51 x52 (X.length : Int) (q.1 : Int)) (fun k (t : List Int) => nat_Parse.L7 k s b t x31 ((i + 1 : Nat) : Int))
    (fun m q => q.1.length = X.length ∧ Limbs q.1 ∧ (0 ≤ q.2 ∧ q.2 < 16) ∧ (∀ j, m ≤ j → q.1.getD j 0 = X.getD j 0) ∧ val q.1 + q.2 * pw m = val X + d + (b - 1) * val (X.take m)) (fun t => t = canon (v * b + d)) X.length (fun m q hm ⟨h1, h2, h3, h4, h5⟩ => by
      obtain ⟨c, r⟩ := q
      simp only at h1 h2 h3 h4 h5
      have g := hX.1.get m
      have e0 := h4 m (Nat.le_refl m)
      have hmul : X.getD m 0 * b ≤ X.getD m 0 * 16 := Int.mul_le_mul_of_nonneg_left hb.2 g.1
      have hmul0 : 0 ≤ X.getD m 0 * b := Int.mul_nonneg g.1 (by omega)
      refine ⟨(c.set m ((X.getD m 0 * b + r) % 4294967296), (X.getD m 0 * b + r) / 4294967296), ⟨by simpa using h1, h2.set m (by omega), by simp only; omega, fun j hj => ?_, ?_⟩, 1, fun k => ?_⟩
      · rw [getD_set (by omega), if_neg (by omega)]; exact h4 j (by omega)
      · have := carry_step (v := (X.getD m 0 * b + r) % 4294967296) (carry' := (X.getD m 0 * b + r) / 4294967296) (x := X.getD m 0 * (b - 1)) (by omega) (by rw [e0, Int.mul_sub, Int.mul_one]; omega) h5
        rw [this, val_take_next, Int.mul_add, Int.add_assoc]
        congr 2
        rw [Int.mul_comm (X.getD m 0) (b - 1), Int.mul_assoc]
      · simp (disch := omega) only [c_dec, c_beq, c_bne, c_and, c_or, c_not, blt_dec, up1, dn1, if_t, if_f, if_true, if_false, Int.toNat_natCast, Option.bind_some, ne_eq, not_true_eq_false, not_false_eq_true, true_and, and_true, nat_Parse.L14_succ, nat_Parse.b14, e0, IntWalk.u64_in, w32, shr64_32]) (fun q ⟨h1, h2, h3, h4, h5⟩ => by
      obtain ⟨c, r⟩ := q
      simp only at h1 h2 h3 h4 h5
      rw [List.take_length, hvX] at h5
      have hS : val c + r * pw X.length = v * b + d := by rw [h5, Int.sub_mul, Int.one_mul, Int.mul_comm b]; omega
      by_cases hr : 0 < r
      · have hN : Nrm (c ++ [r]) := ⟨fun x hx => (by
          rcases List.mem_append.1 hx with h | h
          · exact h2 x h
          · simp at h; subst h; omega), .inr (by simp [List.getD]; omega)⟩
        have hV : val (c ++ [r]) = v * b + d := by rw [val_append, val1, h1, ← hS, Int.mul_comm r]
        refine ⟨c ++ [r], by rw [← hV]; exact (canon_val hN).symm, 1, fun k => ?_⟩
        simp (disch := omega) only [c_dec, c_beq, c_bne, c_and, c_or, c_not, blt_dec, up1, dn1, if_t, if_f, if_true, if_false, Int.toNat_natCast, Option.bind_some, ne_eq, not_true_eq_false, not_false_eq_true, true_and, and_true, nat_Parse.L14_succ, nat_Parse.b14, IntWalk.u32_in, List.length_cons, List.length_nil, List.append_eq]
      · obtain rfl : r = 0 := by omega
        rw [Int.zero_mul, Int.add_zero] at hS
        have hN : Nrm c := nrm_ge h2 (by
          by_cases h0 : c.length = 0
          · exact .inl h0
          · refine .inr ?_
            have := nrm_pos hX (by omega)
            rw [h1, hS, ← hvX]
            have h6 : val X * 1 ≤ val X * b := Int.mul_le_mul_of_nonneg_left (by omega) (by omega)
            omega)
        refine ⟨c, by rw [← hS]; exact (canon_val hN).symm, 1, fun k => ?_⟩
        simp (disch := omega) only [c_dec, c_beq, c_bne, c_and, c_or, c_not, blt_dec, up1, dn1, if_t, if_f, if_true, if_false, Int.toNat_natCast, Option.bind_some, ne_eq, not_true_eq_false, not_false_eq_true, true_and, and_true, nat_Parse.L14_succ, nat_Parse.b14]) 0 (X, d) (Nat.zero_le _) ⟨rfl, hX.1, hd, fun _ _ => rfl, by simp [pw_zero, val_nil]⟩
  subst ht
  exact ⟨j, hj⟩
theorem Parse_F {s : ByteArray} {b : Int} (hs : s.size ≤ 140737488355328) (hbw : -9223372036854775808 ≤ b ∧ b ≤ 9223372036854775807) : nat_Parse.F (s, b, ()) = some (parseI s b) := by
  by_cases hb : b < 2 ∨ 16 < b
  · unfold parseI
    rw [if_pos hb]
    refine nat_Parse.of 0 s b ?_
    by_cases h1 : b < 2
    · simp (disch := omega) only [c_dec, c_beq, c_bne, c_and, c_or, c_not, blt_dec, up1, dn1, if_t, if_f, if_true, if_false, Int.toNat_natCast, Option.bind_some, ne_eq, not_true_eq_false, not_false_eq_true, true_and, and_true, nat_Parse.e]
    · simp (disch := omega) only [c_dec, c_beq, c_bne, c_and, c_or, c_not, blt_dec, up1, dn1, if_t, if_f, if_true, if_false, Int.toNat_natCast, Option.bind_some, ne_eq, not_true_eq_false, not_false_eq_true, true_and, and_true, nat_Parse.e]
  · have hb2 : 2 ≤ b ∧ b ≤ 16 := by omega
    obtain ⟨j, hj⟩ := ends (fun k (i : Nat) => nat_Parse.L7 k s b (canon (pv s b i)) (s.size : Int) (i : Int)) (open Classical in if bad s b then ([], 15, ()) else (canon (pv s b s.size), 0, ())) (fun i => i ≤ s.size ∧ ∀ j, j < i → dval (btI s (j : Int)) < b) (fun i => s.size - i) (fun i ⟨hi, hj⟩ => by
      have hnm := pv_nm hb2 hj
      by_cases hlt : i < s.size
      · have hc := btI_bound s (i : Int)
        have hd0 := dval_pos (btI s (i : Int))
        by_cases hbd : b ≤ dval (btI s (i : Int))
        · refine .inr ⟨1, fun k => ?_⟩
          rw [if_pos ⟨i, hlt, hbd⟩]
          by_cases h1 : btI s (i : Int) < 48
          · simp (disch := omega) only [c_dec, c_beq, c_bne, c_and, c_or, c_not, blt_dec, up1, dn1, if_t, if_f, if_true, if_false, Int.toNat_natCast, Option.bind_some, ne_eq, not_true_eq_false, not_false_eq_true, true_and, and_true, nat_Parse.L7_succ, nat_Parse.b7, IntWalk.i64_in]
          · by_cases h2 : 103 ≤ btI s (i : Int)
            · simp (disch := omega) only [c_dec, c_beq, c_bne, c_and, c_or, c_not, blt_dec, up1, dn1, if_t, if_f, if_true, if_false, Int.toNat_natCast, Option.bind_some, ne_eq, not_true_eq_false, not_false_eq_true, true_and, and_true, nat_Parse.L7_succ, nat_Parse.b7, IntWalk.i64_in]
            · have ht := tab_dval (c := btI s (i : Int)) (by omega)
              have hl : tabXs.length = 55 := rfl
              simp (disch := omega) only [c_dec, c_beq, c_bne, c_and, c_or, c_not, blt_dec, up1, dn1, if_t, if_f, if_true, if_false, Int.toNat_natCast, Option.bind_some, ne_eq, not_true_eq_false, not_false_eq_true, true_and, and_true, nat_Parse.L7_succ, nat_Parse.b7, IntWalk.i64_in, ht, hl, IntWalk.u32_in]
        · have hr : 48 ≤ btI s (i : Int) ∧ btI s (i : Int) < 103 := by
            by_cases h : btI s (i : Int) < 48 ∨ 103 ≤ btI s (i : Int)
            · have := dval_out h; omega
            · omega
          have ht := tab_dval hr
          have hl : tabXs.length = 55 := rfl
          obtain ⟨j2, h2⟩ := parse_inner (s := s) (d := dval (btI s (i : Int))) (x31 := (s.size : Int)) (x43 := btI s (i : Int) - 48) (x44 := decide (btI s (i : Int) - 48 ≥ 55)) (x47 := btI s (i : Int) - 48) (x49 := dval (btI s (i : Int))) (x50 := b) (x51 := b) (x52 := decide (dval (btI s (i : Int)) ≥ b)) (i := i) hb2 hnm.pos ⟨hd0, by omega⟩ hnm.lt (by omega) (by omega)
          refine .inl ⟨i + 1, ⟨hlt, fun j' hj' => ?_⟩, by omega, j2 + 1, fun k => ?_⟩
          · rcases Nat.lt_or_eq_of_le (Nat.le_of_lt_succ hj') with h | h
            · exact hj j' h
            · subst h; omega
          · rw [← Nat.add_assoc]
            have h3 := h2 k
            simp only [pv]
            rw [← h3]
            have c1 : ¬ btI s (i : Int) - 48 < 0 := by omega
            have c2 : ¬ btI s (i : Int) - 48 ≥ 55 := by omega
            have c3 : ¬ dval (btI s (i : Int)) ≥ b := by omega
            rw [nat_Parse.L7_succ]
            unfold nat_Parse.b7
            simp only [IntWalk.i64_in (btI s (i : Int)) (by omega), IntWalk.i64_in (btI s (i : Int) - 48) (by omega), ht, hl, IntWalk.u32_in b (by omega), IntWalk.u64_in (dval (btI s (i : Int))) (by omega)]
            simp only [decide_eq_true (show (i : Int) < (s.size : Int) by omega), decide_eq_true (show (0 : Int) ≤ (i : Int) by omega), decide_eq_false c1, decide_eq_false c2, decide_eq_false c3, decide_eq_true (show (0 : Int) ≤ btI s (i : Int) - 48 by omega), decide_eq_true (show btI s (i : Int) - 48 < ((55 : Nat) : Int) by omega), cond_true, cond_false, Bool.and_true]
      · obtain rfl : i = s.size := by omega
        have hnb : ¬ bad s b := fun ⟨i, h1, h2⟩ => by have := hj i h1; omega
        refine .inr ⟨1, fun k => ?_⟩
        rw [if_neg hnb]
        have ho := own_F hnm.limbs (Nat.le_trans hnm.len (by omega))
        rw [hnm.val] at ho
        simp (disch := omega) only [c_dec, c_beq, c_bne, c_and, c_or, c_not, blt_dec, up1, dn1, if_t, if_f, if_true, if_false, Int.toNat_natCast, Option.bind_some, ne_eq, not_true_eq_false, not_false_eq_true, true_and, and_true, nat_Parse.L7_succ, nat_Parse.b7, ho]) 0 ⟨Nat.zero_le _, fun j hj => absurd hj (Nat.not_lt_zero j)⟩
    rw [show canon (pv s b 0) = [] from (canon_nil_iff (Int.le_refl 0)).2 rfl] at hj
    unfold parseI
    rw [if_neg hb]
    by_cases h0 : s.size = 0
    · rw [if_pos (.inl h0)]
      refine nat_Parse.of 0 s b ?_
      simp (disch := omega) only [c_dec, c_beq, c_bne, c_and, c_or, c_not, blt_dec, up1, dn1, if_t, if_f, if_true, if_false, Int.toNat_natCast, Option.bind_some, ne_eq, not_true_eq_false, not_false_eq_true, true_and, and_true, nat_Parse.e, is_empty, h0]
    · by_cases h1 : 1 < s.size
      · by_cases h2 : btI s 0 = 48
        · rw [if_pos (.inr ⟨h1, h2⟩)]
          refine nat_Parse.of 0 s b ?_
          simp (disch := omega) only [c_dec, c_beq, c_bne, c_and, c_or, c_not, blt_dec, up1, dn1, if_t, if_f, if_true, if_false, Int.toNat_natCast, Option.bind_some, ne_eq, not_true_eq_false, not_false_eq_true, true_and, and_true, nat_Parse.e, is_empty, h2]
        · rw [if_neg (by omega)]
          refine nat_Parse.of (0 + j) s b ?_
          simp (disch := omega) only [c_dec, c_beq, c_bne, c_and, c_or, c_not, blt_dec, up1, dn1, if_t, if_f, if_true, if_false, Int.toNat_natCast, Option.bind_some, ne_eq, not_true_eq_false, not_false_eq_true, true_and, and_true, nat_Parse.e, is_empty, h2]
          exact hj 0
      · rw [if_neg (by omega)]
        refine nat_Parse.of (0 + j) s b ?_
        simp (disch := omega) only [c_dec, c_beq, c_bne, c_and, c_or, c_not, blt_dec, up1, dn1, if_t, if_f, if_true, if_false, Int.toNat_natCast, Option.bind_some, ne_eq, not_true_eq_false, not_false_eq_true, true_and, and_true, nat_Parse.e, is_empty]
        exact hj 0
end Go.Fx.Tryd

namespace Go.Fx.Tryd
open Go Go.Fx Go.Fx.Num
set_option linter.unusedVariables false
set_option linter.unusedSimpArgs false

theorem dig_fin : ∀ i : Fin 16, ∀ c : Fin 256, (btI dtab ((i.val : Nat) : Int) = ((c.val : Nat) : Int)) ↔ dval ((c.val : Nat) : Int) = ((i.val : Nat) : Int) := by decide +kernel
theorem dig_at {i : Nat} (hi : i < 16) {c : Int} (hc : 0 ≤ c ∧ c < 256) : btI dtab (i : Int) = c ↔ dval c = (i : Int) := by
  have := dig_fin ⟨i, hi⟩ ⟨c.toNat, by omega⟩
  simp only [show ((c.toNat : Nat) : Int) = c by omega] at this
  exact this
theorem digit_F {c b : Int} (hc : 0 ≤ c ∧ c < 256) (hb : 2 ≤ b ∧ b ≤ 16) : fulcrumref01_digit.F (c, b, ()) = some (if dval c < b then dval c else -1, ()) := by
  have hd := dval_pos c
  obtain ⟨j, hj⟩ := ends (fun k (i : Nat) => fulcrumref01_digit.L2 k c b (i : Int)) (if dval c < b then dval c else -1, ()) (fun i => (i : Int) ≤ b ∧ (i : Int) ≤ dval c) (fun i => 16 - i) (fun i ⟨hi, hle⟩ => by
    by_cases hlt : (i : Int) < b
    · have ha := dig_at (i := i) (by omega) hc
      by_cases he : dval c = (i : Int)
      · refine .inr ⟨1, fun k => ?_⟩
        have h1 := ha.2 he
        rw [if_pos (by omega), he]
        rw [fulcrumref01_digit.L2_succ]
        unfold fulcrumref01_digit.b2
        rw [show (⟨#[48, 49, 50, 51, 52, 53, 54, 55, 56, 57, 97, 98, 99, 100, 101, 102]⟩ : ByteArray) = dtab from rfl]
        simp (disch := omega) only [c_dec, c_beq, c_bne, c_and, c_or, c_not, blt_dec, up1, dn1, if_t, if_f, if_true, if_false, Int.toNat_natCast, Option.bind_some, ne_eq, not_true_eq_false, not_false_eq_true, true_and, and_true, dtab_size, h1]
        exact c_t (by omega) _ _
      · have h1 : btI dtab (i : Int) ≠ c := fun h => he (ha.1 h)
        refine .inl ⟨i + 1, by omega, by omega, 1, fun k => ?_⟩
        rw [fulcrumref01_digit.L2_succ]
        unfold fulcrumref01_digit.b2
        rw [show (⟨#[48, 49, 50, 51, 52, 53, 54, 55, 56, 57, 97, 98, 99, 100, 101, 102]⟩ : ByteArray) = dtab from rfl]
        simp (disch := omega) only [c_dec, c_beq, c_bne, c_and, c_or, c_not, blt_dec, up1, dn1, if_t, if_f, if_true, if_false, Int.toNat_natCast, Option.bind_some, ne_eq, not_true_eq_false, not_false_eq_true, true_and, and_true, dtab_size, h1]
        exact c_t (by omega) _ _
    · refine .inr ⟨1, fun k => ?_⟩
      rw [if_neg (by omega)]
      simp (disch := omega) only [c_dec, c_beq, c_bne, c_and, c_or, c_not, blt_dec, up1, dn1, if_t, if_f, if_true, if_false, Int.toNat_natCast, Option.bind_some, ne_eq, not_true_eq_false, not_false_eq_true, true_and, and_true, fulcrumref01_digit.L2_succ, fulcrumref01_digit.b2]) 0 ⟨by omega, by omega⟩
  refine fulcrumref01_digit.of (0 + j) c b ?_
  simp only [fulcrumref01_digit.e]
  exact hj 0
theorem rParse_F {s : ByteArray} {b : Int} (hs : s.size ≤ 140737488355328) (hbw : -9223372036854775808 ≤ b ∧ b ≤ 9223372036854775807) : fulcrumref01_Parse.F (s, b, ()) = some (parseI s b) := by
  by_cases hb : b < 2 ∨ 16 < b
  · unfold parseI
    rw [if_pos hb]
    refine fulcrumref01_Parse.of 0 s b ?_
    by_cases h1 : b < 2
    · simp (disch := omega) only [c_dec, c_beq, c_bne, c_and, c_or, c_not, blt_dec, up1, dn1, if_t, if_f, if_true, if_false, Int.toNat_natCast, Option.bind_some, ne_eq, not_true_eq_false, not_false_eq_true, true_and, and_true, fulcrumref01_Parse.e]
    · simp (disch := omega) only [c_dec, c_beq, c_bne, c_and, c_or, c_not, blt_dec, up1, dn1, if_t, if_f, if_true, if_false, Int.toNat_natCast, Option.bind_some, ne_eq, not_true_eq_false, not_false_eq_true, true_and, and_true, fulcrumref01_Parse.e]
  · have hb2 : 2 ≤ b ∧ b ≤ 16 := by omega
    obtain ⟨j, hj⟩ := ends (fun k (i : Nat) => fulcrumref01_Parse.L7 k s b (canon (pv s b i)) (i : Int)) (open Classical in if bad s b then ([], 15, ()) else (canon (pv s b s.size), 0, ())) (fun i => i ≤ s.size ∧ ∀ j, j < i → dval (btI s (j : Int)) < b) (fun i => s.size - i) (fun i ⟨hi, hj⟩ => by
      have hnm := pv_nm hb2 hj
      by_cases hlt : i < s.size
      · have hc := btI_bound s (i : Int)
        have hd0 := dval_pos (btI s (i : Int))
        have hD := digit_F hc hb2
        by_cases hbd : b ≤ dval (btI s (i : Int))
        · rw [if_neg (by omega)] at hD
          refine .inr ⟨1, fun k => ?_⟩
          rw [if_pos ⟨i, hlt, hbd⟩]
          simp (disch := omega) only [c_dec, c_beq, c_bne, c_and, c_or, c_not, blt_dec, up1, dn1, if_t, if_f, if_true, if_false, Int.toNat_natCast, Option.bind_some, ne_eq, not_true_eq_false, not_false_eq_true, true_and, and_true, fulcrumref01_Parse.L7_succ, fulcrumref01_Parse.b7, hD]
        · rw [if_pos (by omega)] at hD
          have hM := hnm.rMul_F (Nm.one (x := b) (by omega)) (by omega)
          have hA := (hnm.mul (Nm.one (x := b) (by omega))).rAdd_F ((Nm.one (x := dval (btI s (i : Int))) (by omega)).mono (by omega)) (by omega)
          refine .inl ⟨i + 1, ⟨hlt, fun j' hj' => ?_⟩, by omega, 1, fun k => ?_⟩
          · rcases Nat.lt_or_eq_of_le (Nat.le_of_lt_succ hj') with h | h
            · exact hj j' h
            · subst h; omega
          · simp (disch := omega) only [c_dec, c_beq, c_bne, c_and, c_or, c_not, blt_dec, up1, dn1, if_t, if_f, if_true, if_false, Int.toNat_natCast, Option.bind_some, ne_eq, not_true_eq_false, not_false_eq_true, true_and, and_true, fulcrumref01_Parse.L7_succ, fulcrumref01_Parse.b7, hD, IntWalk.u32_in, hM, hA, pv]
      · obtain rfl : i = s.size := by omega
        have hnb : ¬ bad s b := fun ⟨i, h1, h2⟩ => by have := hj i h1; omega
        refine .inr ⟨1, fun k => ?_⟩
        rw [if_neg hnb]
        simp (disch := omega) only [c_dec, c_beq, c_bne, c_and, c_or, c_not, blt_dec, up1, dn1, if_t, if_f, if_true, if_false, Int.toNat_natCast, Option.bind_some, ne_eq, not_true_eq_false, not_false_eq_true, true_and, and_true, fulcrumref01_Parse.L7_succ, fulcrumref01_Parse.b7]) 0 ⟨Nat.zero_le _, fun j hj => absurd hj (Nat.not_lt_zero j)⟩
    rw [show canon (pv s b 0) = [] from (canon_nil_iff (Int.le_refl 0)).2 rfl] at hj
    unfold parseI
    rw [if_neg hb]
    by_cases h0 : s.size = 0
    · rw [if_pos (.inl h0)]
      refine fulcrumref01_Parse.of 0 s b ?_
      simp (disch := omega) only [c_dec, c_beq, c_bne, c_and, c_or, c_not, blt_dec, up1, dn1, if_t, if_f, if_true, if_false, Int.toNat_natCast, Option.bind_some, ne_eq, not_true_eq_false, not_false_eq_true, true_and, and_true, fulcrumref01_Parse.e, h0]
    · by_cases h1 : 1 < s.size
      · by_cases h2 : btI s 0 = 48
        · rw [if_pos (.inr ⟨h1, h2⟩)]
          refine fulcrumref01_Parse.of 0 s b ?_
          simp (disch := omega) only [c_dec, c_beq, c_bne, c_and, c_or, c_not, blt_dec, up1, dn1, if_t, if_f, if_true, if_false, Int.toNat_natCast, Option.bind_some, ne_eq, not_true_eq_false, not_false_eq_true, true_and, and_true, fulcrumref01_Parse.e, h2]
        · rw [if_neg (by omega)]
          refine fulcrumref01_Parse.of (0 + j) s b ?_
          simp (disch := omega) only [c_dec, c_beq, c_bne, c_and, c_or, c_not, blt_dec, up1, dn1, if_t, if_f, if_true, if_false, Int.toNat_natCast, Option.bind_some, ne_eq, not_true_eq_false, not_false_eq_true, true_and, and_true, fulcrumref01_Parse.e, h2]
          exact hj 0
      · rw [if_neg (by omega)]
        refine fulcrumref01_Parse.of (0 + j) s b ?_
        simp (disch := omega) only [c_dec, c_beq, c_bne, c_and, c_or, c_not, blt_dec, up1, dn1, if_t, if_f, if_true, if_false, Int.toNat_natCast, Option.bind_some, ne_eq, not_true_eq_false, not_false_eq_true, true_and, and_true, fulcrumref01_Parse.e]
        exact hj 0

/-! ### what was written is read -/
theorem strOf_data (l : List Int) : (strOfNums l).data.toList = l.map fun x => (UInt8.ofNat x.toNat) := by
  simp [strOfNums]
/-- The letters of a text. -/
def lets (s : ByteArray) : List Int := s.data.toList.map fun c => (c.toNat : Int)
theorem lets_strOf {l : List Int} (h : ∀ c ∈ l, 0 ≤ c ∧ c < 256) : lets (strOfNums l) = l := by
  unfold lets
  rw [strOf_data, List.map_map]
  conv => rhs; rw [← List.map_id l]
  refine List.map_congr_left fun c hc => ?_
  have := h c hc
  simp only [Function.comp, id]
  rw [UInt8.toNat_ofNat', Nat.mod_eq_of_lt (by omega)]; omega
theorem lets_len (s : ByteArray) : (lets s).length = s.size := by
  unfold lets
  rw [List.length_map, Array.length_toList]; rfl
theorem btI_lets (s : ByteArray) (i : Nat) (h : i < s.size) : btI s (i : Int) = (lets s).getD i 0 := by
  have h' : i < s.data.size := h
  unfold btI lets
  rw [Int.toNat_natCast]
  simp [List.getD, Array.getElem?_eq_getElem h']
theorem pv_fold (s : ByteArray) (b : Int) : ∀ i, i ≤ s.size → pv s b i = ((lets s).take i).foldl (fun v c => v * b + dval c) 0
  | 0, _ => by simp [pv]
  | i + 1, h => by
    have hl : i < (lets s).length := by rw [lets_len]; omega
    have e : (lets s)[i]? = some ((lets s).getD i 0) := by simp [List.getD, hl]
    rw [pv, pv_fold s b i (by omega), List.take_add_one, e, List.foldl_append, btI_lets s i (by omega)]
    rfl
theorem dval_dig {d : Nat} (h : d < 16) : dval (btI dtab (d : Int)) = d := (dig_at h (btI_bound _ _)).1 rfl
theorem digs_all {b : Nat} (hb : 2 ≤ b ∧ b ≤ 16) (n : Nat) : ∀ c ∈ digs b n, (0 ≤ c ∧ c < 256) ∧ dval c < b := by
  induction n using Nat.strongRecOn with
  | ind n ih =>
    by_cases h0 : n = 0
    · subst h0; rw [digs_zero]; simp
    · rw [digs_pos hb.1 h0]
      have hlt : n % b < b := Nat.mod_lt _ (by omega)
      intro c hc
      rcases List.mem_cons.1 hc with rfl | hc
      · refine ⟨btI_bound _ _, ?_⟩
        rw [dval_dig (by omega)]; omega
      · exact ih (n / b) (Nat.div_lt_self (by omega) (by omega)) c hc
theorem digs_val {b : Nat} (hb : 2 ≤ b ∧ b ≤ 16) (n : Nat) : (digs b n).foldr (fun c v => v * (b : Int) + dval c) 0 = n := by
  induction n using Nat.strongRecOn with
  | ind n ih =>
    by_cases h0 : n = 0
    · subst h0; rw [digs_zero]; rfl
    · rw [digs_pos hb.1 h0, List.foldr_cons, ih (n / b) (Nat.div_lt_self (by omega) (by omega)), dval_dig (by have : n % b < b := Nat.mod_lt _ (by omega); omega)]
      have := Nat.div_add_mod n b
      rw [← Int.natCast_mul, ← Int.natCast_add, Nat.mul_comm, this]
theorem digs_last {b : Nat} (hb : 2 ≤ b ∧ b ≤ 16) (n : Nat) : ∀ c, (digs b n).getLast? = some c → dval c ≠ 0 := by
  induction n using Nat.strongRecOn with
  | ind n ih =>
    intro c hc
    by_cases h0 : n = 0
    · subst h0; rw [digs_zero] at hc; simp at hc
    · rw [digs_pos hb.1 h0] at hc
      by_cases h1 : n / b = 0
      · rw [h1, digs_zero] at hc
        simp at hc
        subst hc
        have hlt : n < b := by
          rcases Nat.lt_or_ge n b with h | h
          · exact h
          · have := Nat.div_pos h (by omega); omega
        rw [show (n : Int) % (b : Int) = ((n % b : Nat) : Int) from (Int.natCast_emod n b).symm, dval_dig (by rw [Nat.mod_eq_of_lt hlt]; omega), Nat.mod_eq_of_lt hlt]; omega
      · refine ih (n / b) (Nat.div_lt_self (by omega) (by omega)) c ?_
        rw [digs_pos hb.1 h1] at hc ⊢
        rw [List.getLast?_cons_cons] at hc
        exact hc
theorem lets_txt {b : Nat} (hb : 2 ≤ b ∧ b ≤ 16) {n : Nat} (h : n ≠ 0) : lets (txt b n) = (digs b n).reverse := by
  unfold txt
  rw [if_neg h]
  exact lets_strOf fun c hc => (digs_all hb n c (by simpa using hc)).1
theorem pv_txt {b : Nat} (hb : 2 ≤ b ∧ b ≤ 16) (n : Nat) : pv (txt b n) b (txt b n).size = n := by
  by_cases h : n = 0
  · subst h
    have : txt b 0 = ⟨#[48]⟩ := if_pos rfl
    rw [this]
    show (0 : Int) * b + dval 48 = 0
    rw [Int.zero_mul]; rfl
  · rw [pv_fold _ _ _ (Nat.le_refl _), ← lets_len, List.take_length, lets_txt hb h, List.foldl_reverse]
    exact digs_val hb n
/-- What Text writes Parse reads. -/
theorem parse_txt {b : Nat} (hb : 2 ≤ b ∧ b ≤ 16) (n : Nat) : parseI (txt b n) b = (canon n, 0, ()) := by
  have hnb : ¬ bad (txt b n) b := by
    rintro ⟨i, hi, hbi⟩
    by_cases h : n = 0
    · subst h
      have : txt b 0 = ⟨#[48]⟩ := if_pos rfl
      rw [this] at hi hbi
      have : i = 0 := by have : (⟨#[48]⟩ : ByteArray).size = 1 := rfl; omega
      subst this
      have : dval (btI ⟨#[48]⟩ ((0 : Nat) : Int)) = 0 := by decide
      omega
    · rw [btI_lets _ _ hi, lets_txt hb h] at hbi
      have hl : i < (digs b n).reverse.length := by rw [← lets_txt hb h, lets_len]; exact hi
      have hm : (digs b n).reverse.getD i 0 ∈ (digs b n).reverse := by
        simp only [List.getD, List.getElem?_eq_getElem hl, Option.getD_some]; exact List.getElem_mem hl
      have := (digs_all hb n _ (List.mem_reverse.1 hm)).2
      omega
  unfold parseI
  rw [if_neg (by omega), if_neg, if_neg hnb, pv_txt hb]
  by_cases h : n = 0
  · subst h
    have : txt b 0 = ⟨#[48]⟩ := if_pos rfl
    rw [this]
    have : (⟨#[48]⟩ : ByteArray).size = 1 := rfl
    omega
  · have hne : digs b n ≠ [] := by rw [digs_pos hb.1 h]; simp
    have hs : (txt b n).size = (digs b n).length := by rw [← lets_len, lets_txt hb h, List.length_reverse]
    have hpos : 0 < (digs b n).length := List.length_pos_iff.2 hne
    rintro (h1 | ⟨h1, h2⟩)
    · omega
    · have h3 := btI_lets (txt b n) 0 (by omega)
      rw [show ((0 : Nat) : Int) = 0 from rfl, h2, lets_txt hb h] at h3
      have h4 : (digs b n).getLast? = some 48 := by
        rw [List.getLast?_eq_head?_reverse]
        cases hr : (digs b n).reverse with
        | nil => simp at hr; exact absurd hr hne
        | cons c r => rw [hr] at h3; simp [List.getD] at h3; simp [← h3]
      exact digs_last hb n 48 h4 (by decide)
end Go.Fx.Tryd
