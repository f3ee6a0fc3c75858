/- Whole numbers: a sign and limbs; what makes them. -/
import Derived.Test.YtjhbcpnliiegoaaM6
namespace Go.Fx.Try
open Go Go.Fx Go.Fx.Num
set_option linter.unusedVariables false
set_option linter.unusedSimpArgs false

/-- The number of a sign and limbs. -/
def wv (p : Bool × List Int) : Int := if p.1 = true then -(val p.2) else val p.2
/-- A number's sign and limbs. -/
def wc (z : Int) : Bool × List Int := (decide (z < 0), canon (if z < 0 then -z else z))
def sgn (z : Int) : Int := if z < 0 then -1 else if z = 0 then 0 else 1
theorem wc_pos {z : Int} (h : 0 ≤ z) : wc z = (false, canon z) := by
  unfold wc; rw [if_neg (by omega), decide_eq_false (by omega)]
theorem wc_neg {z : Int} (h : z < 0) : wc z = (true, canon (-z)) := by
  unfold wc; rw [if_pos h, decide_eq_true h]
/-- A sign, limbs, their number, and a bound of the limbs. -/
structure Wn (p : Bool × List Int) (z : Int) (n : Nat) : Prop where
  limbs : Limbs p.2
  val : wv p = z
  len : p.2.length ≤ n
/-- A number's amount. -/
def ab (z : Int) : Int := if z < 0 then -z else z
theorem tri (z : Int) : (z < 0 ∧ sgn z = -1 ∧ ab z = -z) ∨ (z = 0 ∧ sgn z = 0 ∧ ab z = 0) ∨ (0 < z ∧ sgn z = 1 ∧ ab z = z) := by
  unfold sgn ab
  by_cases h : z < 0
  · rw [if_pos h, if_pos h]; omega
  · by_cases h0 : z = 0
    · rw [if_neg h, if_pos h0, if_neg h]; omega
    · rw [if_neg h, if_neg h0, if_neg h]; omega
theorem ab_nonneg (z : Int) : 0 ≤ ab z := by unfold ab; split <;> omega
theorem Wn.nm {p z n} (h : Wn p z n) : Nm p.2 (ab z) n := by
  refine ⟨h.limbs, ?_, h.len⟩
  unfold ab
  have hv := val_nonneg h.limbs
  have := h.val
  unfold wv at this
  split at this <;> split <;> omega
theorem Wn.sign {p z n} (h : Wn p z n) : (z < 0 → p.1 = true) ∧ (0 < z → p.1 = false) := by
  have hv := val_nonneg h.limbs
  have := h.val
  unfold wv at this
  constructor
  · intro hz
    cases hp : p.1
    · rw [hp, if_neg (by simp)] at this; omega
    · rfl
  · intro hz
    cases hp : p.1
    · rfl
    · rw [hp, if_pos rfl] at this; omega
theorem Wn.mono {p z n m} (h : Wn p z n) (hm : n ≤ m) : Wn p z m := ⟨h.limbs, h.val, Nat.le_trans h.len hm⟩
theorem Wn.bound {p z n} (h : Wn p z n) : -pw n < z ∧ z < pw n := by
  have := h.nm.lt
  unfold ab at this
  split at this <;> omega
theorem wv_wc (z : Int) : wv (wc z) = z := by
  by_cases h : z < 0
  · rw [wc_neg h]; unfold wv; simp only [if_true]; rw [val_canon (by omega)]; omega
  · rw [wc_pos (by omega)]; unfold wv; rw [if_neg (by simp)]; exact val_canon (by omega)
theorem Wn.of {z : Int} {n : Nat} (h : -pw n < z ∧ z < pw n) : Wn (wc z) z n := by
  refine ⟨canon_limbs _, wv_wc z, ?_⟩
  show (canon (if z < 0 then -z else z)).length ≤ n
  refine canon_len_le ?_ ?_ <;> split <;> omega
theorem Wn.norm {p z n} (h : Wn p z n) : Wn (wc z) z n := .of h.bound
theorem wc_inj {y z : Int} (h : wc y = wc z) : y = z := by rw [← wv_wc y, ← wv_wc z, h]
theorem wc_eta (z : Int) : ((wc z).1, (wc z).2) = wc z := rfl
theorem Nm.wn {a x n} (h : Nm a x n) : Wn (false, a) x n := ⟨h.limbs, by unfold wv; rw [if_neg (by simp)]; exact h.val, h.len⟩

/-! ### what the code makes of a sign and an amount -/
theorem made_len {v : Int} (h : 0 ≤ v) : decide (((canon v).length : Int) > 0) = decide (-v < 0) := by
  refine decide_eq_decide.2 ?_
  have := canon_len_zero h
  omega
theorem core_F {xs : List Int} (h : Limbs xs) (hl : xs.length ≤ 70368744177664) : whole_core.F (xs, ()) = some (canon (val xs), ()) := by
  obtain ⟨j, hj⟩ := ends (fun k (n : Nat) => whole_core.L2 k xs (n : Int)) (canon (val xs), ()) (fun n => n ≤ xs.length ∧ ∀ j, n ≤ j → xs.getD j 0 = 0) id (fun n ⟨hn, hz⟩ => by
    by_cases h0 : 0 < n
    · by_cases h1 : xs.getD (n - 1) 0 = 0
      · refine .inl ⟨n - 1, ⟨by omega, fun j hj => ?_⟩, by show n - 1 < n; omega, 1, fun k => ?_⟩
        · by_cases hjn : j = n - 1
          · rw [hjn, h1]
          · exact hz j (by omega)
        · simp (disch := omega) only [c_dec, c_beq, c_bne, c_and, c_or, c_not, blt_dec, up1, dn1, if_t, if_f, if_true, if_false, Int.toNat_natCast, Option.bind_some, ne_eq, not_true_eq_false, not_false_eq_true, true_and, and_true, whole_core.L2_succ, whole_core.b2, h1]
      · refine .inr ⟨1, fun k => ?_⟩
        simp (disch := omega) only [c_dec, c_beq, c_bne, c_and, c_or, c_not, blt_dec, up1, dn1, if_t, if_f, if_true, if_false, Int.toNat_natCast, Option.bind_some, ne_eq, not_true_eq_false, not_false_eq_true, true_and, and_true, whole_core.L2_succ, whole_core.b2, h1, take_canon h hn hz (.inr h1)]
    · refine .inr ⟨1, fun k => ?_⟩
      obtain rfl : n = 0 := by omega
      simp (disch := omega) only [c_dec, c_beq, c_bne, c_and, c_or, c_not, blt_dec, up1, dn1, if_t, if_f, if_true, if_false, Int.toNat_natCast, Option.bind_some, ne_eq, not_true_eq_false, not_false_eq_true, true_and, and_true, whole_core.L2_succ, whole_core.b2, take_canon h hn hz (.inl rfl)]) xs.length ⟨Nat.le_refl _, fun j hj => getD_out hj⟩
  refine whole_core.of (0 + j) xs ?_
  simp only [whole_core.e]
  exact hj 0

theorem Wn.Sign_F {p z n} (h : Wn p z n) (hn : n ≤ 70368744177664) : whole_Sign.F (p, ()) = some (sgn z, ()) := by
  obtain ⟨b, a⟩ := p
  have hm := h.nm
  have hs := h.sign
  refine whole_Sign.of 0 (b, a) ?_
  have hp := hm.pos
  have hc := core_F h.limbs (Nat.le_trans h.len hn)
  have hv := hm.val
  unfold ab at hp hv
  have hmz : (if z < 0 then -z else z) = 0 ↔ z = 0 := by split <;> omega
  simp only at hv hc hs
  rw [hv] at hc
  generalize (if z < 0 then -z else z) = m at hp hc hmz
  have hl := canon_len_zero hp
  by_cases h0 : z = 0
  · have : (canon m).length = 0 := hl.2 (hmz.2 h0)
    simp (disch := omega) only [c_dec, c_beq, c_bne, c_and, c_or, c_not, blt_dec, up1, dn1, if_t, if_f, if_true, if_false, Int.toNat_natCast, Option.bind_some, ne_eq, not_true_eq_false, not_false_eq_true, true_and, and_true, whole_Sign.e, hc]
    unfold sgn; rw [if_neg (by omega), if_pos h0]
  · have : (canon m).length ≠ 0 := fun h => h0 (hmz.1 (hl.1 h))
    by_cases hz : z < 0
    · simp (disch := omega) only [c_dec, c_beq, c_bne, c_and, c_or, c_not, blt_dec, up1, dn1, if_t, if_f, if_true, if_false, Int.toNat_natCast, Option.bind_some, ne_eq, not_true_eq_false, not_false_eq_true, true_and, and_true, whole_Sign.e, hc, hs.1 hz, cond_true]
      unfold sgn; rw [if_pos hz]
    · simp (disch := omega) only [c_dec, c_beq, c_bne, c_and, c_or, c_not, blt_dec, up1, dn1, if_t, if_f, if_true, if_false, Int.toNat_natCast, Option.bind_some, ne_eq, not_true_eq_false, not_false_eq_true, true_and, and_true, whole_Sign.e, hc, hs.2 (by omega), cond_false]
      unfold sgn; rw [if_neg hz, if_neg h0]

/-- The product of signs. -/
def prod : List Int → Int
  | [] => 1
  | s :: r => s * prod r
theorem signed_F {a : List Int} {x : Int} {n : Nat} (h : Nm a x n) (hn : n ≤ 70368744177664) {ss : List Int} (hs : ∀ s ∈ ss, s = -1 ∨ s = 0 ∨ s = 1) (hl : ss.length ≤ 1000) :
    whole_signed.F (a, ss, ()) = some (wc (if prod ss < 0 then -x else x), ()) := by
  have hx := h.pos
  have last : ∀ (s : Int) (ss : List Int) (i : Nat), i = ss.length → ∀ k, whole_signed.L4 (k + 1) (canon x) false s ss ss.length i = some (wc (if s < 0 then -x else x), ()) := by
    intro s ss i hi k
    subst hi
    by_cases hs : s < 0
    · by_cases h0 : x = 0
      · have hc : (canon x).length = 0 := (canon_len_zero hx).2 h0
        simp (disch := omega) only [c_dec, c_beq, c_bne, c_and, c_or, c_not, blt_dec, up1, dn1, if_t, if_f, if_true, if_false, Int.toNat_natCast, Option.bind_some, ne_eq, not_true_eq_false, not_false_eq_true, true_and, and_true, whole_signed.L4_succ, whole_signed.b4, wc_pos (show 0 ≤ -x by omega), hc]
        subst h0; rfl
      · have hc : (canon x).length ≠ 0 := fun h => h0 ((canon_len_zero hx).1 h)
        simp (disch := omega) only [c_dec, c_beq, c_bne, c_and, c_or, c_not, blt_dec, up1, dn1, if_t, if_f, if_true, if_false, Int.toNat_natCast, Option.bind_some, ne_eq, not_true_eq_false, not_false_eq_true, true_and, and_true, whole_signed.L4_succ, whole_signed.b4, wc_neg (show -x < 0 by omega)]
        rw [Int.neg_neg, decide_eq_true (by omega)]
    · simp (disch := omega) only [c_dec, c_beq, c_bne, c_and, c_or, c_not, blt_dec, up1, dn1, if_t, if_f, if_true, if_false, Int.toNat_natCast, Option.bind_some, ne_eq, not_true_eq_false, not_false_eq_true, true_and, and_true, whole_signed.L4_succ, whole_signed.b4, wc_pos hx]
  have tri : ∀ {p q : Int}, (p = -1 ∨ p = 0 ∨ p = 1) → (q = -1 ∨ q = 0 ∨ q = 1) → (p * q = -1 ∨ p * q = 0 ∨ p * q = 1) := by
    intro p q hp hq
    rcases hp with rfl | rfl | rfl <;> rcases hq with rfl | rfl | rfl <;> simp
  obtain ⟨j, hj⟩ := up (fun k (s : Nat × Int) => whole_signed.L4 k (canon x) false s.2 ss ss.length (s.1 : Int)) (wc (if prod ss < 0 then -x else x), ()) (fun i p => (p = -1 ∨ p = 0 ∨ p = 1) ∧ p * prod (ss.drop i) = prod ss) ss.length (fun i p hi ⟨h1, h2⟩ => by
      have hg : ss.drop i = ss.getD i 0 :: ss.drop (i + 1) := by
        rw [List.drop_eq_getElem_cons hi]; simp [List.getD, hi]
      have h3 : ss.getD i 0 = -1 ∨ ss.getD i 0 = 0 ∨ ss.getD i 0 = 1 := hs _ (by rw [show ss.getD i 0 = ss[i] by simp [List.getD, hi]]; exact List.getElem_mem hi)
      have h4 := tri h1 h3
      refine ⟨p * ss.getD i 0, ⟨h4, by rw [← h2, hg]; simp only [prod]; rw [Int.mul_assoc]⟩, 1, fun k => ?_⟩
      simp (disch := omega) only [c_dec, c_beq, c_bne, c_and, c_or, c_not, blt_dec, up1, dn1, if_t, if_f, if_true, if_false, Int.toNat_natCast, Option.bind_some, ne_eq, not_true_eq_false, not_false_eq_true, true_and, and_true, whole_signed.L4_succ, whole_signed.b4]
      rw [IntWalk.i64_in (p * ss.getD i 0) (by omega)]) (fun p ⟨h1, h2⟩ => ⟨1, fun k => by
      have := last p ss ss.length rfl k
      rw [List.drop_length] at h2
      simp only [prod, Int.mul_one] at h2
      rw [← h2]; exact this⟩) 0 1 (Nat.zero_le _) ⟨by simp, by simp⟩
  refine whole_signed.of (0 + j) a ss ?_
  simp only [whole_signed.e, h.Norm_F hn, Option.bind_some]
  exact hj 0
theorem sgn_cases (z : Int) : sgn z = -1 ∨ sgn z = 0 ∨ sgn z = 1 := by unfold sgn; split <;> (try split) <;> simp
end Go.Fx.Try
