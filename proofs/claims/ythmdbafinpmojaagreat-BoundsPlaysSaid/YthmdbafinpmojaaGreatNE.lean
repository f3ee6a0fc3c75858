/- Whole numbers: a sign and limbs; what makes them. -/
import Derived.Test.YthmdbafinpmojaaGreatNB
namespace Go.Fx.Tryz
open Go Go.Fx Go.Fx.Num
set_option linter.unusedVariables false
set_option linter.unusedSimpArgs false

/-- The number of a sign and limbs. -/
def wv (p : Bool × List Int) : Int := if p.1 = true then -(val p.2) else val p.2
/-- A number's sign and limbs. -/
def wc (z : Int) : Bool × List Int := (decide (z < 0), canon (if z < 0 then -z else z))
def sgn (z : Int) : Int := if z < 0 then -1 else if z = 0 then 0 else 1
theorem wc_pos {z : Int} (h : 0 ≤ z) : wc z = (false, canon z) := by
  unfold wc; rw [if_neg (by omega), decide_eq_false (by omega)]
theorem wc_neg {z : Int} (h : z < 0) : wc z = (true, canon (-z)) := by
  unfold wc; rw [if_pos h, decide_eq_true h]
/-- A sign, limbs, their number, and a bound of the limbs. -/
structure Wn (p : Bool × List Int) (z : Int) (n : Nat) : Prop where
  limbs : Limbs p.2
  val : wv p = z
  len : p.2.length ≤ n
/-- A number's amount. -/
def ab (z : Int) : Int := if z < 0 then -z else z
theorem tri (z : Int) : (z < 0 ∧ sgn z = -1 ∧ ab z = -z) ∨ (z = 0 ∧ sgn z = 0 ∧ ab z = 0) ∨ (0 < z ∧ sgn z = 1 ∧ ab z = z) := by
  unfold sgn ab
  by_cases h : z < 0
  · rw [if_pos h, if_pos h]; omega
  · by_cases h0 : z = 0
    · rw [if_neg h, if_pos h0, if_neg h]; omega
    · rw [if_neg h, if_neg h0, if_neg h]; omega
theorem ab_nonneg (z : Int) : 0 ≤ ab z := by unfold ab; split <;> omega
theorem Wn.nm {p z n} (h : Wn p z n) : Nm p.2 (ab z) n := by
  refine ⟨h.limbs, ?_, h.len⟩
  unfold ab
  have hv := val_nonneg h.limbs
  have := h.val
  unfold wv at this
  split at this <;> split <;> omega
theorem Wn.sign {p z n} (h : Wn p z n) : (z < 0 → p.1 = true) ∧ (0 < z → p.1 = false) := by
  have hv := val_nonneg h.limbs
  have := h.val
  unfold wv at this
  constructor
  · intro hz
    cases hp : p.1
    · rw [hp, if_neg (by simp)] at this; omega
    · rfl
  · intro hz
    cases hp : p.1
    · rfl
    · rw [hp, if_pos rfl] at this; omega
theorem Wn.mono {p z n m} (h : Wn p z n) (hm : n ≤ m) : Wn p z m := ⟨h.limbs, h.val, Nat.le_trans h.len hm⟩
theorem Wn.bound {p z n} (h : Wn p z n) : -pw n < z ∧ z < pw n := by
  have := h.nm.lt
  unfold ab at this
  split at this <;> omega
theorem wv_wc (z : Int) : wv (wc z) = z := by
  by_cases h : z < 0
  · rw [wc_neg h]; unfold wv; simp only [if_true]; rw [val_canon (by omega)]; omega
  · rw [wc_pos (by omega)]; unfold wv; rw [if_neg (by simp)]; exact val_canon (by omega)
theorem Wn.of {z : Int} {n : Nat} (h : -pw n < z ∧ z < pw n) : Wn (wc z) z n := by
  refine ⟨canon_limbs _, wv_wc z, ?_⟩
  show (canon (if z < 0 then -z else z)).length ≤ n
  refine canon_len_le ?_ ?_ <;> split <;> omega
theorem Wn.norm {p z n} (h : Wn p z n) : Wn (wc z) z n := .of h.bound
theorem wc_inj {y z : Int} (h : wc y = wc z) : y = z := by rw [← wv_wc y, ← wv_wc z, h]
theorem wc_eta (z : Int) : ((wc z).1, (wc z).2) = wc z := rfl
theorem Nm.wn {a x n} (h : Nm a x n) : Wn (false, a) x n := ⟨h.limbs, by unfold wv; rw [if_neg (by simp)]; exact h.val, h.len⟩

/-! ### what the code makes of a sign and an amount -/
theorem made_len {v : Int} (h : 0 ≤ v) : decide (((canon v).length : Int) > 0) = decide (-v < 0) := by
  refine decide_eq_decide.2 ?_
  have := canon_len_zero h
  omega
theorem core_F {xs : List Int} (h : Limbs xs) (hl : xs.length ≤ 70368744177664) : whole_core.F (xs, ()) = some (canon (val xs), ()) := by
  obtain ⟨j, hj⟩ := ends (fun k (n : Nat) => whole_core.L2 k xs (n : Int)) (canon (val xs), ()) (fun n => n ≤ xs.length ∧ ∀ j, n ≤ j → xs.getD j 0 = 0) id (fun n ⟨hn, hz⟩ => by
    by_cases h0 : 0 < n
    · by_cases h1 : xs.getD (n - 1) 0 = 0
      · refine .inl ⟨n - 1, ⟨by omega, fun j hj => ?_⟩, by show n - 1 < n; omega, 1, fun k => ?_⟩
        · by_cases hjn : j = n - 1
          · rw [hjn, h1]
          · exact hz j (by omega)
        · simp (disch := omega) only [c_dec, c_beq, c_bne, c_and, c_or, c_not, blt_dec, up1, dn1, if_t, if_f, if_true, if_false, Int.toNat_natCast, Option.bind_some, ne_eq, not_true_eq_false, not_false_eq_true, true_and, and_true, whole_core.L2_succ, whole_core.b2, h1]
      · refine .inr ⟨1, fun k => ?_⟩
        simp (disch := omega) only [c_dec, c_beq, c_bne, c_and, c_or, c_not, blt_dec, up1, dn1, if_t, if_f, if_true, if_false, Int.toNat_natCast, Option.bind_some, ne_eq, not_true_eq_false, not_false_eq_true, true_and, and_true, whole_core.L2_succ, whole_core.b2, h1, take_canon h hn hz (.inr h1)]
    · refine .inr ⟨1, fun k => ?_⟩
      obtain rfl : n = 0 := by omega
      simp (disch := omega) only [c_dec, c_beq, c_bne, c_and, c_or, c_not, blt_dec, up1, dn1, if_t, if_f, if_true, if_false, Int.toNat_natCast, Option.bind_some, ne_eq, not_true_eq_false, not_false_eq_true, true_and, and_true, whole_core.L2_succ, whole_core.b2, take_canon h hn hz (.inl rfl)]) xs.length ⟨Nat.le_refl _, fun j hj => getD_out hj⟩
  refine whole_core.of (0 + j) xs ?_
  simp only [whole_core.e]
  exact hj 0

theorem Wn.Sign_F {p z n} (h : Wn p z n) (hn : n ≤ 70368744177664) : whole_Sign.F (p, ()) = some (sgn z, ()) := by
  obtain ⟨b, a⟩ := p
  have hm := h.nm
  have hs := h.sign
  refine whole_Sign.of 0 (b, a) ?_
  have hp := hm.pos
  have hc := core_F h.limbs (Nat.le_trans h.len hn)
  have hv := hm.val
  unfold ab at hp hv
  have hmz : (if z < 0 then -z else z) = 0 ↔ z = 0 := by split <;> omega
  simp only at hv hc hs
  rw [hv] at hc
  generalize (if z < 0 then -z else z) = m at hp hc hmz
  have hl := canon_len_zero hp
  by_cases h0 : z = 0
  · have : (canon m).length = 0 := hl.2 (hmz.2 h0)
    simp (disch := omega) only [c_dec, c_beq, c_bne, c_and, c_or, c_not, blt_dec, up1, dn1, if_t, if_f, if_true, if_false, Int.toNat_natCast, Option.bind_some, ne_eq, not_true_eq_false, not_false_eq_true, true_and, and_true, whole_Sign.e, hc]
    unfold sgn; rw [if_neg (by omega), if_pos h0]
  · have : (canon m).length ≠ 0 := fun h => h0 (hmz.1 (hl.1 h))
    by_cases hz : z < 0
    · simp (disch := omega) only [c_dec, c_beq, c_bne, c_and, c_or, c_not, blt_dec, up1, dn1, if_t, if_f, if_true, if_false, Int.toNat_natCast, Option.bind_some, ne_eq, not_true_eq_false, not_false_eq_true, true_and, and_true, whole_Sign.e, hc, hs.1 hz, cond_true]
      unfold sgn; rw [if_pos hz]
    · simp (disch := omega) only [c_dec, c_beq, c_bne, c_and, c_or, c_not, blt_dec, up1, dn1, if_t, if_f, if_true, if_false, Int.toNat_natCast, Option.bind_some, ne_eq, not_true_eq_false, not_false_eq_true, true_and, and_true, whole_Sign.e, hc, hs.2 (by omega), cond_false]
      unfold sgn; rw [if_neg hz, if_neg h0]

/-- The product of signs. -/
def prod : List Int → Int
  | [] => 1
  | s :: r => s * prod r
theorem signed_F {a : List Int} {x : Int} {n : Nat} (h : Nm a x n) (hn : n ≤ 70368744177664) {ss : List Int} (hs : ∀ s ∈ ss, s = -1 ∨ s = 0 ∨ s = 1) (hl : ss.length ≤ 1000) :
    whole_signed.F (a, ss, ()) = some (wc (if prod ss < 0 then -x else x), ()) := by
  have hx := h.pos
  have last : ∀ (s : Int) (ss : List Int) (i : Nat), i = ss.length → ∀ k, whole_signed.L4 (k + 1) (canon x) false s ss ss.length i = some (wc (if s < 0 then -x else x), ()) := by
    intro s ss i hi k
    subst hi
    by_cases hs : s < 0
    · by_cases h0 : x = 0
      · have hc : (canon x).length = 0 := (canon_len_zero hx).2 h0
        simp (disch := omega) only [c_dec, c_beq, c_bne, c_and, c_or, c_not, blt_dec, up1, dn1, if_t, if_f, if_true, if_false, Int.toNat_natCast, Option.bind_some, ne_eq, not_true_eq_false, not_false_eq_true, true_and, and_true, whole_signed.L4_succ, whole_signed.b4, wc_pos (show 0 ≤ -x by omega), hc]
        subst h0; rfl
      · have hc : (canon x).length ≠ 0 := fun h => h0 ((canon_len_zero hx).1 h)
        simp (disch := omega) only [c_dec, c_beq, c_bne, c_and, c_or, c_not, blt_dec, up1, dn1, if_t, if_f, if_true, if_false, Int.toNat_natCast, Option.bind_some, ne_eq, not_true_eq_false, not_false_eq_true, true_and, and_true, whole_signed.L4_succ, whole_signed.b4, wc_neg (show -x < 0 by omega)]
        rw [Int.neg_neg, decide_eq_true (by omega)]
    · simp (disch := omega) only [c_dec, c_beq, c_bne, c_and, c_or, c_not, blt_dec, up1, dn1, if_t, if_f, if_true, if_false, Int.toNat_natCast, Option.bind_some, ne_eq, not_true_eq_false, not_false_eq_true, true_and, and_true, whole_signed.L4_succ, whole_signed.b4, wc_pos hx]
  have tri : ∀ {p q : Int}, (p = -1 ∨ p = 0 ∨ p = 1) → (q = -1 ∨ q = 0 ∨ q = 1) → (p * q = -1 ∨ p * q = 0 ∨ p * q = 1) := by
    intro p q hp hq
    rcases hp with rfl | rfl | rfl <;> rcases hq with rfl | rfl | rfl <;> simp
  obtain ⟨j, hj⟩ := up (fun k (s : Nat × Int) => whole_signed.L4 k (canon x) false s.2 ss ss.length (s.1 : Int)) (wc (if prod ss < 0 then -x else x), ()) (fun i p => (p = -1 ∨ p = 0 ∨ p = 1) ∧ p * prod (ss.drop i) = prod ss) ss.length (fun i p hi ⟨h1, h2⟩ => by
      have hg : ss.drop i = ss.getD i 0 :: ss.drop (i + 1) := by
        rw [List.drop_eq_getElem_cons hi]; simp [List.getD, hi]
      have h3 : ss.getD i 0 = -1 ∨ ss.getD i 0 = 0 ∨ ss.getD i 0 = 1 := hs _ (by rw [show ss.getD i 0 = ss[i] by simp [List.getD, hi]]; exact List.getElem_mem hi)
      have h4 := tri h1 h3
      refine ⟨p * ss.getD i 0, ⟨h4, by rw [← h2, hg]; simp only [prod]; rw [Int.mul_assoc]⟩, 1, fun k => ?_⟩
      simp (disch := omega) only [c_dec, c_beq, c_bne, c_and, c_or, c_not, blt_dec, up1, dn1, if_t, if_f, if_true, if_false, Int.toNat_natCast, Option.bind_some, ne_eq, not_true_eq_false, not_false_eq_true, true_and, and_true, whole_signed.L4_succ, whole_signed.b4]
      rw [IntWalk.i64_in (p * ss.getD i 0) (by omega)]) (fun p ⟨h1, h2⟩ => ⟨1, fun k => by
      have := last p ss ss.length rfl k
      rw [List.drop_length] at h2
      simp only [prod, Int.mul_one] at h2
      rw [← h2]; exact this⟩) 0 1 (Nat.zero_le _) ⟨by simp, by simp⟩
  refine whole_signed.of (0 + j) a ss ?_
  simp only [whole_signed.e, h.Norm_F hn, Option.bind_some]
  exact hj 0
theorem sgn_cases (z : Int) : sgn z = -1 ∨ sgn z = 0 ∨ sgn z = 1 := by unfold sgn; split <;> (try split) <;> simp
end Go.Fx.Tryz

namespace Go.Fx.Tryz
open Go Go.Fx Go.Fx.Num
set_option linter.unusedVariables false
set_option linter.unusedSimpArgs false

theorem pe {α β : Type} (p : α × β) : (p.1, p.2) = p := rfl
theorem prod1 (s : Int) : prod [s] = s := by simp [prod]
theorem prod2 (s t : Int) : prod [s, t] = s * t := by simp [prod]
theorem signs1 {s : Int} (h : s = -1 ∨ s = 0 ∨ s = 1) : ∀ x ∈ [s], x = -1 ∨ x = 0 ∨ x = 1 := by intro x hx; simp at hx; rw [hx]; exact h
theorem signs2 {s t : Int} (h : s = -1 ∨ s = 0 ∨ s = 1) (g : t = -1 ∨ t = 0 ∨ t = 1) : ∀ x ∈ [s, t], x = -1 ∨ x = 0 ∨ x = 1 := by
  intro x hx; simp at hx; rcases hx with rfl | rfl
  · exact h
  · exact g
theorem Nm.signed0 {a x n} (h : Nm a x n) (hn : n ≤ 70368744177664) : whole_signed.F (a, [], ()) = some (wc x, ()) := by
  rw [signed_F h hn (ss := []) (by simp) (by simp)]; rfl
theorem Nm.signed1 {a x n} (h : Nm a x n) (hn : n ≤ 70368744177664) {s : Int} (hs : s = -1 ∨ s = 0 ∨ s = 1) : whole_signed.F (a, [s], ()) = some (wc (if s < 0 then -x else x), ()) := by
  rw [signed_F h hn (signs1 hs) (by simp), prod1]
theorem Nm.signed2 {a x n} (h : Nm a x n) (hn : n ≤ 70368744177664) {s t : Int} (hs : s = -1 ∨ s = 0 ∨ s = 1) (ht : t = -1 ∨ t = 0 ∨ t = 1) : whole_signed.F (a, [s, t], ()) = some (wc (if s * t < 0 then -x else x), ()) := by
  rw [signed_F h hn (signs2 hs ht) (by simp), prod2]
theorem Nm.made {a x n} (h : Nm a x n) (hn : n ≤ 70368744177664) (b : Bool) : fulcrumref02_made.F (b, a, ()) = some (wc (if b = true then -x else x), ()) := by
  refine fulcrumref02_made.of 0 b a ?_
  have hx := h.pos
  have hl := made_len hx
  cases b
  · simp (disch := omega) only [c_dec, c_beq, c_bne, c_and, c_or, c_not, blt_dec, up1, dn1, if_t, if_f, if_true, if_false, Int.toNat_natCast, Option.bind_some, ne_eq, not_true_eq_false, not_false_eq_true, true_and, and_true, fulcrumref02_made.e, h.rNorm_F hn, cond_false, wc_pos hx, Bool.false_eq_true]
  · simp (disch := omega) only [c_dec, c_beq, c_bne, c_and, c_or, c_not, blt_dec, up1, dn1, if_t, if_f, if_true, if_false, Int.toNat_natCast, Option.bind_some, ne_eq, not_true_eq_false, not_false_eq_true, true_and, and_true, fulcrumref02_made.e, h.rNorm_F hn, cond_true]
    rw [hl]
    by_cases h0 : -x < 0
    · rw [wc_neg h0, decide_eq_true h0, Int.neg_neg]
    · have : x = 0 := by omega
      subst this
      rfl

theorem Wn.Norm_F {p z n} (h : Wn p z n) (hn : n ≤ 70368744177664) : whole_Norm.F (p, ()) = some (wc z, ()) := by
  refine whole_Norm.of 0 p ?_
  have e : (if sgn z < 0 then -ab z else ab z) = z := by
    rcases tri z with ⟨_, h1, h2⟩ | ⟨_, h1, h2⟩ | ⟨_, h1, h2⟩ <;> rw [h1, h2] <;> simp <;> omega
  simp only [whole_Norm.e, pe, h.Sign_F hn, Option.bind_some, h.nm.signed1 hn (sgn_cases z), e]
theorem Wn.Neg_F {p z n} (h : Wn p z n) (hn : n ≤ 70368744177664) : whole_Neg.F (p, ()) = some (wc (-z), ()) := by
  refine whole_Neg.of 0 p ?_
  have e : (if -1 * sgn z < 0 then -ab z else ab z) = -z := by
    rcases tri z with ⟨_, h1, h2⟩ | ⟨_, h1, h2⟩ | ⟨_, h1, h2⟩ <;> rw [h1, h2] <;> simp <;> omega
  simp only [whole_Neg.e, pe, h.Sign_F hn, Option.bind_some, h.nm.signed2 hn (Or.inl rfl) (sgn_cases z), e]
theorem Wn.made_eq {p z n} (h : Wn p z n) : (if p.1 = true then -ab z else ab z) = z := by
  have hs := h.sign
  rcases tri z with ⟨hz, _, h2⟩ | ⟨hz, _, h2⟩ | ⟨hz, _, h2⟩
  · rw [hs.1 hz, h2, if_pos rfl]; omega
  · rw [h2, hz]; simp
  · rw [hs.2 hz, h2, if_neg (by simp)]
theorem Wn.rNorm_F {p z n} (h : Wn p z n) (hn : n ≤ 70368744177664) : fulcrumref02_Norm.F (p, ()) = some (wc z, ()) := by
  refine fulcrumref02_Norm.of 0 p ?_
  simp only [fulcrumref02_Norm.e, pe, h.nm.made hn, Option.bind_some, h.made_eq]
theorem Wn.rNeg_F {p z n} (h : Wn p z n) (hn : n ≤ 70368744177664) : fulcrumref02_Neg.F (p, ()) = some (wc (-z), ()) := by
  refine fulcrumref02_Neg.of 0 p ?_
  have e : (if (!p.1) = true then -ab z else ab z) = -z := by
    have := h.made_eq
    cases hp : p.1 <;> rw [hp] at this <;> simp at this ⊢ <;> omega
  simp only [fulcrumref02_Neg.e, pe, h.nm.made hn, Option.bind_some, e]
theorem Wn.rSign_F {p z n} (h : Wn p z n) (hn : n ≤ 70368744177664) : fulcrumref02_Sign.F (p, ()) = some (sgn z, ()) := by
  refine fulcrumref02_Sign.of 0 p ?_
  simp only [fulcrumref02_Sign.e, pe, h.rNorm_F hn, Option.bind_some]
  rcases tri z with ⟨hz, h1, _⟩ | ⟨hz, h1, _⟩ | ⟨hz, h1, _⟩
  · rw [wc_neg hz, h1]; rfl
  · subst hz; rw [h1]; simp only [wc_pos (Int.le_refl 0), canon_zero]; rfl
  · have hl := canon_len_zero (n := z) (by omega)
    rw [wc_pos (by omega), h1]
    simp (disch := omega) only [c_dec, c_beq, c_bne, c_and, c_or, c_not, blt_dec, up1, dn1, if_t, if_f, if_true, if_false, Int.toNat_natCast, Option.bind_some, ne_eq, not_true_eq_false, not_false_eq_true, true_and, and_true, cond_false]

/-! ### Of, Small -/
theorem i64_abs {n : Int} (hn : -9223372036854775808 ≤ n ∧ n ≤ 9223372036854775807) (h : n < 0) : negI .u64 (IntKind.u64.wrap n) = -n := by
  unfold negI; rw [w64, w64]; omega
theorem Wof_bound {n : Int} (hn : -18446744073709551616 < n ∧ n < 18446744073709551616) : Wn (wc n) n 2 := .of (by
  have e : pw 2 = 18446744073709551616 := rfl
  omega)
def smallI (z : Int) : Int × Bool × Unit := if -9223372036854775808 ≤ z ∧ z ≤ 9223372036854775807 then (z, true, ()) else (0, false, ())
theorem negI64 {x : Int} (h : 0 ≤ x ∧ x ≤ 9223372036854775807) : negI .i64 x = -x := by unfold negI; rw [IntWalk.i64_in _ (by omega)]; omega
/-! ### the same -/
theorem SameNat_F (a b : List Int) (hl : a.length ≤ 70368744177664) : fulcrummem_SameNat.F (a, b, ()) = some (decide (a = b), ()) := by
  by_cases hn : a.length = b.length
  · obtain ⟨j, hj⟩ := ends (fun k (i : Nat) => fulcrummem_SameNat.L4 k a b (i : Int)) (decide (a = b), ()) (fun i => i ≤ a.length ∧ ∀ j, j < i → a.getD j 0 = b.getD j 0) (fun i => a.length - i) (fun i ⟨hi, hz⟩ => by
      by_cases h0 : i < a.length
      · by_cases h1 : a.getD i 0 = b.getD i 0
        · refine .inl ⟨i + 1, ⟨h0, fun j hj => ?_⟩, by show a.length - (i + 1) < a.length - i; omega, 1, fun k => ?_⟩
          · by_cases hji : j = i
            · rw [hji, h1]
            · exact hz j (by omega)
          · simp (disch := omega) only [c_dec, c_beq, c_bne, c_and, c_or, c_not, blt_dec, up1, dn1, if_t, if_f, if_true, if_false, Int.toNat_natCast, Option.bind_some, ne_eq, not_true_eq_false, not_false_eq_true, true_and, and_true, fulcrummem_SameNat.L4_succ, fulcrummem_SameNat.b4, h1]
        · refine .inr ⟨1, fun k => ?_⟩
          have : a ≠ b := fun e => h1 (by rw [e])
          simp (disch := omega) only [c_dec, c_beq, c_bne, c_and, c_or, c_not, blt_dec, up1, dn1, if_t, if_f, if_true, if_false, Int.toNat_natCast, Option.bind_some, ne_eq, not_true_eq_false, not_false_eq_true, true_and, and_true, fulcrummem_SameNat.L4_succ, fulcrummem_SameNat.b4, decide_eq_false this]
      · refine .inr ⟨1, fun k => ?_⟩
        have : a = b := ext_getD hn fun j hj => hz j (by omega)
        simp (disch := omega) only [c_dec, c_beq, c_bne, c_and, c_or, c_not, blt_dec, up1, dn1, if_t, if_f, if_true, if_false, Int.toNat_natCast, Option.bind_some, ne_eq, not_true_eq_false, not_false_eq_true, true_and, and_true, fulcrummem_SameNat.L4_succ, fulcrummem_SameNat.b4, decide_eq_true this]) 0 ⟨Nat.zero_le _, fun j hj => by omega⟩
    refine fulcrummem_SameNat.of (0 + j) a b ?_
    simp (disch := omega) only [c_dec, c_beq, c_bne, c_and, c_or, c_not, blt_dec, up1, dn1, if_t, if_f, if_true, if_false, Int.toNat_natCast, Option.bind_some, ne_eq, not_true_eq_false, not_false_eq_true, true_and, and_true, fulcrummem_SameNat.e]
    exact hj 0
  · have : a ≠ b := fun e => hn (by rw [e])
    refine fulcrummem_SameNat.of 0 a b ?_
    simp (disch := omega) only [c_dec, c_beq, c_bne, c_and, c_or, c_not, blt_dec, up1, dn1, if_t, if_f, if_true, if_false, Int.toNat_natCast, Option.bind_some, ne_eq, not_true_eq_false, not_false_eq_true, true_and, and_true, fulcrummem_SameNat.e, decide_eq_false this]
theorem SameInt_F (p q : Bool × List Int) (hl : p.2.length ≤ 70368744177664) : fulcrummem_SameInt.F (p, q, ()) = some (decide (p = q), ()) := by
  refine fulcrummem_SameInt.of 0 p q ?_
  obtain ⟨b, x⟩ := p
  obtain ⟨c, y⟩ := q
  simp only [fulcrummem_SameInt.e, SameNat_F x y hl, Option.bind_some]
  cases b <;> cases c <;> simp
end Go.Fx.Tryz

namespace Go.Fx.Tryz
open Go Go.Fx Go.Fx.Num
set_option linter.unusedVariables false
set_option linter.unusedSimpArgs false

theorem Wn.add {p q y z n} (h : Wn p y n) (g : Wn q z n) : Wn (wc (y + z)) (y + z) (n + 1) := .of (by
  have := h.bound
  have := g.bound
  rw [pw_succ]; omega)
theorem Wn.neg {p z n} (h : Wn p z n) : Wn (wc (-z)) (-z) n := .of (by have := h.bound; omega)
theorem Wn.sub {p q y z n} (h : Wn p y n) (g : Wn q z n) : Wn (wc (y - z)) (y - z) (n + 1) := .of (by
  have := h.bound
  have := g.bound
  rw [pw_succ]; omega)
theorem ab_mul (y z : Int) : ab (y * z) = ab y * ab z := by
  have e : ∀ x, ab x = (x.natAbs : Int) := fun x => by unfold ab; split <;> omega
  rw [e, e, e, Int.natAbs_mul]; push_cast; rfl
theorem Wn.mul {p q y z n m} (h : Wn p y n) (g : Wn q z m) : Wn (wc (y * z)) (y * z) (n + m) := by
  have hm := (h.nm.mul g.nm).lt
  rw [← ab_mul] at hm
  refine .of ?_
  unfold ab at hm
  have := pw_pos (n + m)
  split at hm <;> omega

theorem or_signs {x y : Int} (hx : x = -1 ∨ x = 0 ∨ x = 1) (hy : y = -1 ∨ y = 0 ∨ y = 1) (h : 0 ≤ x * y) : bitsOp .or .i64 (bitsOp .or .i64 x y) 1 = if x < 0 ∨ y < 0 then -1 else 1 := by
  rcases hx with rfl | rfl | rfl <;> rcases hy with rfl | rfl | rfl <;> first | (exfalso; revert h; decide) | decide
theorem tri_mul {x y : Int} (hx : x = -1 ∨ x = 0 ∨ x = 1) (hy : y = -1 ∨ y = 0 ∨ y = 1) : x * y = -1 ∨ x * y = 0 ∨ x * y = 1 := by
  rcases hx with rfl | rfl | rfl <;> rcases hy with rfl | rfl | rfl <;> simp

theorem Wn.Add_F {p q y z n} (h : Wn p y n) (g : Wn q z n) (hn : n < 70368744177664) : whole_Add.F (p, q, ()) = some (wc (y + z), ()) := by
  refine whole_Add.of 0 p q ?_
  have hn' : n ≤ 70368744177664 := Nat.le_of_lt hn
  have sp := sgn_cases y
  have sq := sgn_cases z
  have hm := tri_mul sp sq
  simp only [whole_Add.e, pe, h.Sign_F hn', g.Sign_F hn', Option.bind_some, IntWalk.i64_in (sgn y * sgn z) (by omega)]
  by_cases hs : 0 ≤ sgn y * sgn z
  · have hA := h.nm.add g.nm
    have hor := or_signs sp sq hs
    rw [hor]
    have hs' : ¬(y < 0 ∧ 0 < z) ∧ ¬(0 < y ∧ z < 0) := by
      rcases tri y with ⟨hy, h1, h2⟩ | ⟨hy, h1, h2⟩ | ⟨hy, h1, h2⟩ <;> rcases tri z with ⟨hz, h3, h4⟩ | ⟨hz, h3, h4⟩ | ⟨hz, h3, h4⟩ <;> rw [h1, h3] at hs <;> first | (exfalso; revert hs; decide) | omega
    have t1 := tri y
    have t2 := tri z
    have e : (if (if sgn y < 0 ∨ sgn z < 0 then (-1 : Int) else 1) < 0 then -(ab y + ab z) else ab y + ab z) = y + z := by
      by_cases hneg : sgn y < 0 ∨ sgn z < 0
      · rw [if_pos hneg, if_pos (by decide)]; omega
      · rw [if_neg hneg, if_neg (by decide)]; omega
    simp (disch := omega) only [c_dec, c_beq, c_bne, c_and, c_or, c_not, blt_dec, up1, dn1, if_t, if_f, if_true, if_false, Int.toNat_natCast, Option.bind_some, ne_eq, not_true_eq_false, not_false_eq_true, true_and, and_true, h.nm.Add_F g.nm hn, hA.signed1 (by omega) (show (if sgn y < 0 ∨ sgn z < 0 then (-1 : Int) else 1) = -1 ∨ (if sgn y < 0 ∨ sgn z < 0 then (-1 : Int) else 1) = 0 ∨ (if sgn y < 0 ∨ sgn z < 0 then (-1 : Int) else 1) = 1 by split <;> simp), e, pe]
  · have hx : (y < 0 ∧ 0 < z ∧ ab y = -y ∧ ab z = z ∧ sgn y = -1 ∧ sgn z = 1) ∨ (0 < y ∧ z < 0 ∧ ab y = y ∧ ab z = -z ∧ sgn y = 1 ∧ sgn z = -1) := by
      have hs' : (y < 0 ∧ 0 < z) ∨ (0 < y ∧ z < 0) := by
        rcases tri y with ⟨hy, h1, h2⟩ | ⟨hy, h1, h2⟩ | ⟨hy, h1, h2⟩ <;> rcases tri z with ⟨hz, h3, h4⟩ | ⟨hz, h3, h4⟩ | ⟨hz, h3, h4⟩ <;> rw [h1, h3] at hs <;> first | (exfalso; revert hs; decide) | exact .inl ⟨hy, hz⟩ | exact .inr ⟨hy, hz⟩
      have t1 := tri y
      have t2 := tri z
      rcases hs' with ⟨hy, hz⟩ | ⟨hy, hz⟩
      · exact .inl ⟨hy, hz, by omega, by omega, by omega, by omega⟩
      · exact .inr ⟨hy, hz, by omega, by omega, by omega, by omega⟩
    have hC := h.nm.Cmp_F g.nm hn' hn'
    by_cases hle : ab z ≤ ab y
    · have hc : 0 ≤ cmpI (ab y) (ab z) := by unfold cmpI; rw [if_neg (by omega)]; split <;> decide
      have hS := h.nm.Sub_F g.nm hn' hn'
      rw [if_neg (by omega)] at hS
      have hD := h.nm.sub g.nm hle
      have e : (if sgn y < 0 then -(ab y - ab z) else ab y - ab z) = y + z := by
        rcases hx with ⟨_, _, h1, h2, h3, h4⟩ | ⟨_, _, h1, h2, h3, h4⟩ <;> rw [h1, h2, h3] <;> simp <;> omega
      simp (disch := omega) only [c_dec, c_beq, c_bne, c_and, c_or, c_not, blt_dec, up1, dn1, if_t, if_f, if_true, if_false, Int.toNat_natCast, Option.bind_some, ne_eq, not_true_eq_false, not_false_eq_true, true_and, and_true, hC, hS, hD.signed1 hn' sp, e, pe]
    · have hc : cmpI (ab y) (ab z) = -1 := cmpI_lt (by omega)
      have hS := g.nm.Sub_F h.nm hn' hn'
      rw [if_neg (by omega)] at hS
      have hD := g.nm.sub h.nm (show ab y ≤ ab z by omega)
      have e : (if sgn z < 0 then -(ab z - ab y) else ab z - ab y) = y + z := by
        rcases hx with ⟨_, _, h1, h2, h3, h4⟩ | ⟨_, _, h1, h2, h3, h4⟩ <;> rw [h1, h2, h4] <;> simp <;> omega
      simp (disch := omega) only [c_dec, c_beq, c_bne, c_and, c_or, c_not, blt_dec, up1, dn1, if_t, if_f, if_true, if_false, Int.toNat_natCast, Option.bind_some, ne_eq, not_true_eq_false, not_false_eq_true, true_and, and_true, hC, hc, hS, hD.signed1 hn' sq, e, pe]

theorem Wn.rAdd_F {p q y z n} (h : Wn p y n) (g : Wn q z n) (hn : n < 70368744177664) : fulcrumref02_Add.F (p, q, ()) = some (wc (y + z), ()) := by
  refine fulcrumref02_Add.of 0 p q ?_
  have hn' : n ≤ 70368744177664 := Nat.le_of_lt hn
  have ep := h.made_eq
  have eq := g.made_eq
  by_cases hb : p.1 = q.1
  · have e : (if q.1 = true then -(ab y + ab z) else ab y + ab z) = y + z := by
      rw [hb] at ep
      cases hq : q.1 <;> rw [hq] at ep eq <;> simp at ep eq ⊢ <;> omega
    simp only [fulcrumref02_Add.e, hb, beq_self_eq_true, cond_true, h.nm.rAdd_F g.nm hn, Option.bind_some, (h.nm.add g.nm).made (by omega), e, pe]
  · have hb' : (p.1 == q.1) = false := by simpa using hb
    have hC := h.nm.rCmp_F g.nm hn' hn'
    by_cases hle : ab z ≤ ab y
    · have hc : 0 ≤ cmpI (ab y) (ab z) := by unfold cmpI; rw [if_neg (by omega)]; split <;> decide
      have hS := h.nm.rSub_F g.nm hn' hn'
      rw [if_neg (by omega)] at hS
      have hD := h.nm.sub g.nm hle
      have e : (if p.1 = true then -(ab y - ab z) else ab y - ab z) = y + z := by
        cases hp : p.1 <;> cases hq : q.1 <;> rw [hp] at ep hb <;> rw [hq] at eq hb <;> simp at ep eq hb ⊢ <;> omega
      simp (disch := omega) only [c_dec, c_beq, c_bne, c_and, c_or, c_not, blt_dec, up1, dn1, if_t, if_f, if_true, if_false, Int.toNat_natCast, Option.bind_some, ne_eq, not_true_eq_false, not_false_eq_true, true_and, and_true, fulcrumref02_Add.e, hb', cond_false, hC, hS, hD.made hn', e, pe]
    · have hc : cmpI (ab y) (ab z) = -1 := cmpI_lt (by omega)
      have hS := g.nm.rSub_F h.nm hn' hn'
      rw [if_neg (by omega)] at hS
      have hD := g.nm.sub h.nm (show ab y ≤ ab z by omega)
      have e : (if q.1 = true then -(ab z - ab y) else ab z - ab y) = y + z := by
        cases hp : p.1 <;> cases hq : q.1 <;> rw [hp] at ep hb <;> rw [hq] at eq hb <;> simp at ep eq hb ⊢ <;> omega
      simp (disch := omega) only [c_dec, c_beq, c_bne, c_and, c_or, c_not, blt_dec, up1, dn1, if_t, if_f, if_true, if_false, Int.toNat_natCast, Option.bind_some, ne_eq, not_true_eq_false, not_false_eq_true, true_and, and_true, fulcrumref02_Add.e, hb', cond_false, hC, hc, hS, hD.made hn', e, pe]

theorem Wn.Sub_F {p q y z n} (h : Wn p y n) (g : Wn q z n) (hn : n < 70368744177664) : whole_Sub.F (p, q, ()) = some (wc (y - z), ()) := by
  refine whole_Sub.of 0 p q ?_
  simp only [whole_Sub.e, pe, g.Neg_F (Nat.le_of_lt hn), Option.bind_some, h.Add_F g.neg hn]
  rw [Int.sub_eq_add_neg]
theorem Wn.Cmp_F {p q y z n} (h : Wn p y n) (g : Wn q z n) (hn : n < 70368744177664) : whole_Cmp.F (p, q, ()) = some (sgn (y - z), ()) := by
  refine whole_Cmp.of 0 p q ?_
  simp only [whole_Cmp.e, pe, h.Sub_F g hn, Option.bind_some, (h.sub g).Sign_F hn]
theorem Wn.Mul_F {p q y z n m} (h : Wn p y n) (g : Wn q z m) (hn : n + m ≤ 70368744177664) : whole_Mul.F (p, q, ()) = some (wc (y * z), ()) := by
  refine whole_Mul.of 0 p q ?_
  have e : (if sgn y * sgn z < 0 then -(ab y * ab z) else ab y * ab z) = y * z := by
    rcases tri y with ⟨hy, h1, h2⟩ | ⟨hy, h1, h2⟩ | ⟨hy, h1, h2⟩ <;> rcases tri z with ⟨hz, h3, h4⟩ | ⟨hz, h3, h4⟩ | ⟨hz, h3, h4⟩ <;> rw [h1, h2, h3, h4] <;> simp [Int.neg_mul, Int.mul_neg, *]
  simp only [whole_Mul.e, pe, h.nm.Mul_F g.nm hn, h.Sign_F (show n ≤ 70368744177664 by omega), g.Sign_F (show m ≤ 70368744177664 by omega), Option.bind_some, (h.nm.mul g.nm).signed2 hn (sgn_cases y) (sgn_cases z), e]
theorem Wn.rMul_F {p q y z n m} (h : Wn p y n) (g : Wn q z m) (hn : n + m ≤ 70368744177664) : fulcrumref02_Mul.F (p, q, ()) = some (wc (y * z), ()) := by
  refine fulcrumref02_Mul.of 0 p q ?_
  have ep := h.made_eq
  have eq := g.made_eq
  have e : (if (!(p.1 == q.1)) = true then -(ab y * ab z) else ab y * ab z) = y * z := by
    have hy : ab y = if p.1 = true then -y else y := by cases hp : p.1 <;> rw [hp] at ep <;> simp at ep ⊢ <;> omega
    have hz : ab z = if q.1 = true then -z else z := by cases hq : q.1 <;> rw [hq] at eq <;> simp at eq ⊢ <;> omega
    rw [hy, hz]
    cases p.1 <;> cases q.1 <;> simp [Int.neg_mul, Int.mul_neg]
  simp only [fulcrumref02_Mul.e, pe, h.nm.rMul_F g.nm hn, Option.bind_some, (h.nm.mul g.nm).made hn, e]
end Go.Fx.Tryz
