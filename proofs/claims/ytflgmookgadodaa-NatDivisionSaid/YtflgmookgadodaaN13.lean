/- digit: one digit of a quotient; what is divided becomes what is left. -/
import Derived.Test.YtflgmookgadodaaN12
import Derived.Test.YtflgmookgadodaaN9
namespace Go.Fx.Try
open Go Go.Fx Go.Fx.Num
set_option linter.unusedVariables false
set_option linter.unusedSimpArgs false

theorem getD_mid {pre u post : List Int} {i : Nat} (h : i < u.length) : (pre ++ u ++ post).getD (pre.length + i) 0 = u.getD i 0 := by
  simp only [List.getD, List.append_assoc]
  rw [List.getElem?_append_right (by omega), Nat.add_sub_cancel_left, List.getElem?_append_left h]
theorem set_mid {pre u post : List Int} {i : Nat} {x : Int} (h : i < u.length) : (pre ++ u ++ post).set (pre.length + i) x = pre ++ u.set i x ++ post := by
  rw [List.append_assoc, List.set_append_right _ _ (by omega), Nat.add_sub_cancel_left, List.set_append_left _ _ h, List.append_assoc]

/-- What taking a multiple away keeps: i limbs are done. -/
def TakeInv (u0 v : List Int) (g : Int) (i : Nat) (u : List Int) (b c : Int) : Prop :=
  u.length = u0.length ∧ Limbs u ∧ (0 ≤ b ∧ b ≤ 1) ∧ (0 ≤ c ∧ c < 4294967296) ∧ val u = val u0 - g * val (v.take i) + (c + b) * pw i
theorem TakeInv.next {u0 v : List Int} {g : Int} {i : Nat} {u : List Int} {b c : Int} (h : TakeInv u0 v g i u b c) (hg : 0 ≤ g ∧ g < 4294967296) (hv : Limbs v) (hi : i < u0.length) :
    let t := g * v.getD i 0 + c
    (0 ≤ t ∧ t < 18446744073709551616) ∧ TakeInv u0 v g (i + 1) (u.set i ((u.getD i 0 - t % 4294967296 - b) % 4294967296)) (if u.getD i 0 < t % 4294967296 + b then 1 else 0) (t / 4294967296) := by
  obtain ⟨h1, h2, h3, h4, h5⟩ := h
  have gv := hv.get i
  have gu := h2.get i
  have gm := mul_bound hg gv
  intro t
  have ht : t = g * v.getD i 0 + c := rfl
  refine ⟨by omega, by simpa using h1, h2.set i (by omega), by split <;> omega, by omega, ?_⟩
  have hb : ∃ b', b' = (if u.getD i 0 < t % 4294967296 + b then (1 : Int) else 0) ∧ (u.getD i 0 - t % 4294967296 - b) % 4294967296 = u.getD i 0 - t % 4294967296 - b + 4294967296 * b' := ⟨_, rfl, by split <;> omega⟩
  obtain ⟨b', hb', e⟩ := hb
  rw [← hb', val_set _ (by omega), e, h5, val_take_next, pw_succ]
  have e2 : u.getD i 0 - t % 4294967296 - b + 4294967296 * b' - u.getD i 0 = -(g * v.getD i 0) - (c + b) + (t / 4294967296 + b') * 4294967296 := by omega
  rw [e2, Int.mul_add g, Int.add_mul (-(g * v.getD i 0) - (c + b)), Int.sub_mul (-(g * v.getD i 0)), Int.neg_mul, Int.mul_assoc g, Int.mul_assoc (t / 4294967296 + b')]
  omega

/-- So many limbs of a number. -/
def pad : Nat → Int → List Int
  | 0, _ => []
  | n + 1, x => (x % 4294967296) :: pad n (x / 4294967296)
theorem pad_of {a : List Int} (h : Limbs a) : pad a.length (val a) = a := by
  induction a with
  | nil => rfl
  | cons x r ih =>
    have hx := h.head
    have e1 : (x + 4294967296 * val r) % 4294967296 = x := by omega
    have e2 : (x + 4294967296 * val r) / 4294967296 = val r := by omega
    rw [List.length_cons, val_cons, pad, e1, e2, ih h.tail]
theorem pad_spec : ∀ (n : Nat) (x : Int), 0 ≤ x → x < pw n → Limbs (pad n x) ∧ (pad n x).length = n ∧ val (pad n x) = x
  | 0, x, h, h' => ⟨Limbs.nil, rfl, by rw [pw_zero] at h'; rw [show pad 0 x = [] from rfl, val_nil]; omega⟩
  | n + 1, x, h, h' => by
    rw [pw_succ] at h'
    obtain ⟨h1, h2, h3⟩ := pad_spec n (x / 4294967296) (by omega) (by omega)
    rw [pad]
    exact ⟨Limbs.cons (by omega) h1, by rw [List.length_cons, h2], by rw [val_cons, h3]; omega⟩

theorem digit_F {pre u post v : List Int} {m : Nat} (hu : Limbs u) (hv : Limbs v) (lv : v.length = m + 2) (lu : u.length = m + 3) (hm : m < 70368744177664) (hn : 2147483648 ≤ v.getD (m + 1) 0) (hlt : val u < 4294967296 * val v) :
    nat_digit.F (pre ++ u ++ post) pre.length (m + 3) (v, ()) = some ((val u / val v, ()), pre ++ pad (m + 3) (val u % val v) ++ post) := by
  have g0 := hu.get m
  have g1 := hu.get (m + 1)
  have g2 := hu.get (m + 2)
  have k0 := hv.get m
  have k1 := hv.get (m + 1)
  have eV : val v = v.getD (m + 1) 0 * pw (m + 1) + v.getD m 0 * pw m + val (v.take m) := by
    have e1 := val_take_succ (a := v) (i := m + 1) (by omega)
    have e2 := val_take_succ (a := v) (i := m) (by omega)
    rw [show m + 1 + 1 = v.length by omega, List.take_length] at e1
    omega
  have eU : val u = (u.getD (m + 1) 0 + 4294967296 * u.getD (m + 2) 0) * pw (m + 1) + u.getD m 0 * pw m + val (u.take m) := by
    have e1 := val_take_succ (a := u) (i := m + 2) (by omega)
    have e2 := val_take_succ (a := u) (i := m + 1) (by omega)
    have e3 := val_take_succ (a := u) (i := m) (by omega)
    rw [show m + 2 + 1 = u.length by omega, List.take_length, pw_succ (m + 1)] at e1
    have e4 : u.getD (m + 2) 0 * (4294967296 * pw (m + 1)) = 4294967296 * (u.getD (m + 2) 0 * pw (m + 1)) := Int.mul_left_comm _ _ _
    rw [show m + 1 + 1 = m + 2 from rfl] at e2
    rw [Int.add_mul, Int.mul_assoc]
    omega
  have lvt : (v.take m).length = m := by simp; omega
  have lut : (u.take m).length = m := by simp; omega
  have hvt := val_lt (hv.take m)
  have hut := val_lt (hu.take m)
  rw [lvt] at hvt
  rw [lut] at hut
  have hV0 : 0 < val v := by
    have p1 := pw_pos (m + 1)
    have : 1 * pw (m + 1) ≤ v.getD (m + 1) 0 * pw (m + 1) := Int.mul_le_mul_of_nonneg_right (by omega) (by omega)
    have : 0 ≤ v.getD m 0 * pw m := Int.mul_nonneg k0.1 (Int.le_of_lt (pw_pos m))
    have := val_nonneg (hv.take m)
    omega
  have hU0 := val_nonneg hu
  have hq0 := Int.ediv_nonneg hU0 (Int.le_of_lt hV0)
  have hq1 : val u / val v < 4294967296 := by rw [Int.ediv_lt_iff_lt_mul hV0]; exact hlt
  have hdm := Int.mul_ediv_add_emod (val u) (val v)
  have hr0 := Int.emod_nonneg (val u) (b := val v) (by omega)
  have hr1 := Int.emod_lt_of_pos (val u) hV0
  have G : Guess (v.getD (m + 1) 0) (v.getD m 0) (val (v.take m)) (u.getD m 0) (val (u.take m)) (u.getD (m + 1) 0 + 4294967296 * u.getD (m + 2) 0) (pw (m + 1)) (pw m) (val v) (val u) (val u / val v) :=
    ⟨eV, eU, pw_succ m, pw_pos m, ⟨hn, k1.2⟩, k0, ⟨val_nonneg (hv.take m), hvt⟩, g0, ⟨val_nonneg (hu.take m), hut⟩, by rw [Int.mul_comm]; omega, by rw [Int.add_mul, Int.one_mul, Int.mul_comm]; omega, ⟨hq0, hq1⟩, by omega⟩
  generalize hQ : val u / val v = q at G hq0 hq1 hdm ⊢
  generalize hR : val u % val v = r at hr0 hr1 hdm ⊢
  have hmx : (m + 2 : Nat) < 4611686018427387904 := by omega
  have hUv : val u = q * val v + r := by rw [Int.mul_comm]; omega
  have hvl := val_lt hv
  rw [lv] at hvl
  refine nat_digit.of (pre ++ u ++ post) pre.length (m + 3) v (q, ()) _ fun g => ?_
  -- behind the guess: if one more is taken away, it is given back
  have back : ∀ w : List Int, w.length = m + 3 → Limbs w → val w = val u - (q + 1) * val v + pw (m + 3) → ∃ j, ∀ k, nat_digit.L21 (k + j) (pre ++ w ++ post) pre.length (m + 3) g v ((m + 2 : Nat) : Int) q 0 ((m + 2 : Nat) : Int) 0 = some ((q, ()), pre ++ pad (m + 3) r ++ post, g) := by
    intro w lw hw ew
    refine up (fun k (s : Nat × List Int × Int) => nat_digit.L21 k (pre ++ s.2.1 ++ post) pre.length (m + 3) g v ((m + 2 : Nat) : Int) q s.2.2 ((m + 2 : Nat) : Int) (s.1 : Int)) _ (fun i s => s.1.length = m + 3 ∧ Limbs s.1 ∧ (0 ≤ s.2 ∧ s.2 ≤ 1) ∧ val s.1 + s.2 * pw i = val w + val (v.take i)) (m + 2)
      (fun i s hi ⟨h1, h2, h3, h4⟩ => ?_) (fun s ⟨h1, h2, h3, h4⟩ => ?_) 0 (w, 0) (Nat.zero_le _) ⟨lw, hw, by simp only; omega, by simp [val_nil]⟩
    · obtain ⟨x, c⟩ := s
      simp only at h1 h2 h3 h4
      have gx := h2.get i
      have gv := hv.get i
      refine ⟨(x.set i ((x.getD i 0 + v.getD i 0 + c) % 4294967296), (x.getD i 0 + v.getD i 0 + c) / 4294967296), ⟨by simpa using h1, h2.set i (by omega), by simp only; omega, ?_⟩, 1, fun k => ?_⟩
      · rw [carry_step (x := v.getD i 0) (by omega) (by omega) h4, val_take_next]; omega
      · simp (disch := omega) only [c_dec, c_beq, c_bne, c_and, c_or, c_not, blt_dec, up1, dn1, if_t, if_f, if_true, if_false, Int.toNat_natCast, Option.bind_some, ne_eq, not_true_eq_false, not_false_eq_true, true_and, and_true, nat_digit.L21_succ, nat_digit.b21, getD_mid (show i < x.length by omega), set_mid (show i < x.length by omega), Add32_F gx gv h3]
    · obtain ⟨x, c⟩ := s
      simp only at h1 h2 h3 h4
      have gx := h2.get (m + 2)
      have e1 := val_take_succ (a := x) (i := m + 2) (by omega)
      rw [show m + 2 + 1 = x.length by omega, List.take_length] at e1
      have hxt := val_lt (h2.take (m + 2))
      have hx0 := val_nonneg (h2.take (m + 2))
      rw [show (x.take (m + 2)).length = m + 2 by simp; omega] at hxt
      have p2 := pw_pos (m + 2)
      rw [show v.take (m + 2) = v by rw [← lv, List.take_length], ew, pw_succ (m + 2), hUv, Int.add_mul, Int.one_mul] at h4
      -- low limbs are r, and the highest with the carry is a whole word
      have h5 : val (x.take (m + 2)) + (x.getD (m + 2) 0 + c) * pw (m + 2) = r + 4294967296 * pw (m + 2) := by rw [Int.add_mul]; omega
      have h6 : x.getD (m + 2) 0 + c = 4294967296 := by
        rcases Int.lt_trichotomy (x.getD (m + 2) 0 + c) 4294967296 with hlt | he | hgt
        · exfalso
          have : (x.getD (m + 2) 0 + c) * pw (m + 2) ≤ 4294967295 * pw (m + 2) := Int.mul_le_mul_of_nonneg_right (by omega) (by omega)
          omega
        · exact he
        · omega
      rw [h6] at h5
      have h7 : val (x.set (m + 2) 0) = r := by rw [val_set _ (by omega), Int.sub_mul, Int.zero_mul]; omega
      have h8 := pad_of (h2.set (m + 2) (v := 0) (by decide))
      rw [h7, List.length_set, h1] at h8
      have e7 : IntKind.u32.wrap (x.getD (m + 2) 0 + c) = 0 := by rw [w32, h6]; rfl
      refine ⟨1, fun k => ?_⟩
      simp (disch := omega) only [c_dec, c_beq, c_bne, c_and, c_or, c_not, blt_dec, up1, dn1, if_t, if_f, if_true, if_false, Int.toNat_natCast, Option.bind_some, ne_eq, not_true_eq_false, not_false_eq_true, true_and, and_true, nat_digit.L21_succ, nat_digit.b21, getD_mid (show m + 2 < x.length by omega), set_mid (show m + 2 < x.length by omega), e7, h8, IntWalk.u32_in, cond_true]
  -- a multiple is taken away
  have take : ∀ t : Int, (t = q ∨ t = q + 1) → 0 ≤ t ∧ t < 4294967296 → ∃ j, ∀ k, nat_digit.L10 (k + j) (pre ++ u ++ post) pre.length (m + 3) g v ((m + 2 : Nat) : Int) t 0 0 ((m + 2 : Nat) : Int) 0 = some ((q, ()), pre ++ pad (m + 3) r ++ post, g) := by
    intro t ht htb
    refine up (fun k (s : Nat × List Int × Int × Int) => nat_digit.L10 k (pre ++ s.2.1 ++ post) pre.length (m + 3) g v ((m + 2 : Nat) : Int) t s.2.2.1 s.2.2.2 ((m + 2 : Nat) : Int) (s.1 : Int)) _ (fun i s => TakeInv u v t i s.1 s.2.1 s.2.2) (m + 2)
      (fun i s hi hs => ?_) (fun s hs => ?_) 0 (u, 0, 0) (Nat.zero_le _) ⟨rfl, hu, by simp only; omega, by simp only; omega, by simp [val_nil]⟩
    · obtain ⟨x, b, c⟩ := s
      obtain ⟨hT, hn⟩ := TakeInv.next hs htb hv (by omega)
      obtain ⟨h1, h2, h3, h4, h5⟩ := hs
      simp only at h1 h2 h3 h4 hT
      have gx := h2.get i
      have gm := mul_bound htb (hv.get i)
      have gv := hv.get i
      refine ⟨(x.set i ((x.getD i 0 - (t * v.getD i 0 + c) % 4294967296 - b) % 4294967296), (if x.getD i 0 < (t * v.getD i 0 + c) % 4294967296 + b then 1 else 0), (t * v.getD i 0 + c) / 4294967296), hn, 1, fun k => ?_⟩
      have hS := Sub32_F gx (show 0 ≤ (t * v.getD i 0 + c) % 4294967296 ∧ (t * v.getD i 0 + c) % 4294967296 < 4294967296 by omega) h3
      simp (disch := omega) only [c_dec, c_beq, c_bne, c_and, c_or, c_not, blt_dec, up1, dn1, if_t, if_f, if_true, if_false, Int.toNat_natCast, Option.bind_some, ne_eq, not_true_eq_false, not_false_eq_true, true_and, and_true, nat_digit.L10_succ, nat_digit.b10, getD_mid (show i < x.length by omega), set_mid (show i < x.length by omega), IntWalk.u64_in, w32, shr64_32, hS]
    · obtain ⟨x, b, c⟩ := s
      obtain ⟨h1, h2, h3, h4, h5⟩ := hs
      simp only at h1 h2 h3 h4 h5
      rw [show v.take (m + 2) = v by rw [← lv, List.take_length]] at h5
      have gx := h2.get (m + 2)
      have hS := Sub32_F gx h4 h3
      have hl := h2.set (m + 2) (v := (x.getD (m + 2) 0 - c - b) % 4294967296) (by omega)
      have hv2 : val (x.set (m + 2) ((x.getD (m + 2) 0 - c - b) % 4294967296)) = val u - t * val v + (if x.getD (m + 2) 0 < c + b then 1 else 0) * pw (m + 3) := by
        have hb : ∃ b', b' = (if x.getD (m + 2) 0 < c + b then (1 : Int) else 0) ∧ (x.getD (m + 2) 0 - c - b) % 4294967296 = x.getD (m + 2) 0 - c - b + 4294967296 * b' := ⟨_, rfl, by split <;> omega⟩
        obtain ⟨b', hb', e⟩ := hb
        rw [← hb', val_set _ (by omega), e, h5, pw_succ (m + 2)]
        have e2 : x.getD (m + 2) 0 - c - b + 4294967296 * b' - x.getD (m + 2) 0 = -(c + b) + b' * 4294967296 := by omega
        rw [e2, Int.add_mul (-(c + b)), Int.neg_mul, Int.mul_assoc b']
        omega
      have hvn := val_nonneg hl
      have hvx := val_lt hl
      rw [List.length_set, h1, lu] at hvx
      have hp3 : pw (m + 3) = 4294967296 * pw (m + 2) := pw_succ (m + 2)
      have p2 := pw_pos (m + 2)
      by_cases hb : x.getD (m + 2) 0 < c + b
      · rw [if_pos hb, Int.one_mul] at hv2
        have htq : t = q + 1 := by
          rcases ht with h | h
          · exfalso
            rw [h] at hv2
            omega
          · exact h
        subst htq
        obtain ⟨j, hj⟩ := back _ (by rw [List.length_set, h1, lu]) hl hv2
        refine ⟨j + 1, fun k => ?_⟩
        rw [← Nat.add_assoc]
        simp (disch := omega) only [c_dec, c_beq, c_bne, c_and, c_or, c_not, blt_dec, up1, dn1, if_t, if_f, if_true, if_false, Int.toNat_natCast, Option.bind_some, ne_eq, not_true_eq_false, not_false_eq_true, true_and, and_true, nat_digit.L10_succ, nat_digit.b10, getD_mid (show m + 2 < x.length by omega), set_mid (show m + 2 < x.length by omega), IntWalk.u32_in, hS, c_t]
        rw [show IntKind.u64.wrap (q + 1 - 1) = q by rw [IntWalk.u64_in _ (by omega)]; omega]
        exact hj k
      · rw [if_neg hb, Int.zero_mul, Int.add_zero] at hv2
        have htq : t = q := by
          rcases ht with h | h
          · exact h
          · exfalso
            rw [h, Int.add_mul, Int.one_mul] at hv2
            omega
        subst htq
        have h8 := pad_of hl
        rw [hv2, List.length_set, h1, lu, show val u - t * val v = r by omega] at h8
        refine ⟨1, fun k => ?_⟩
        simp (disch := omega) only [c_dec, c_beq, c_bne, c_and, c_or, c_not, blt_dec, up1, dn1, if_t, if_f, if_true, if_false, Int.toNat_natCast, Option.bind_some, ne_eq, not_true_eq_false, not_false_eq_true, true_and, and_true, nat_digit.L10_succ, nat_digit.b10, getD_mid (show m + 2 < x.length by omega), set_mid (show m + 2 < x.length by omega), IntWalk.u32_in, hS, h8, cond_true]
  -- the guess
  have guess : ∀ s : Int × Int, (q ≤ s.1 ∧ s.1 ≤ 4294967297) ∧ (0 ≤ s.2 ∧ s.2 < 4294967296) ∧ s.1 * v.getD (m + 1) 0 + s.2 = u.getD (m + 1) 0 + 4294967296 * u.getD (m + 2) 0 → ∃ j, ∀ k, nat_digit.L4 (k + j) (pre ++ u ++ post) pre.length (m + 3) g v ((m + 2 : Nat) : Int) s.1 s.2 = some ((q, ()), pre ++ pad (m + 3) r ++ post, g) := by
    refine ends (fun k (s : Int × Int) => nat_digit.L4 k (pre ++ u ++ post) pre.length (m + 3) g v ((m + 2 : Nat) : Int) s.1 s.2) _ _ (fun s => s.1.toNat) (fun s ⟨h1, h2, h3⟩ => ?_)
    obtain ⟨x, y⟩ := s
    simp only at h1 h2 h3
    have e1 : ((m + 2 : Nat) : Int) - 1 = ((m + 1 : Nat) : Int) := by omega
    have e2 : ((m + 2 : Nat) : Int) - 2 = (m : Int) := by omega
    have hor := or64_lo g0 h2
    rw [← shl64_32] at hor
    -- one less
    have less : q < x → (∀ k, nat_digit.L4 (k + 1) (pre ++ u ++ post) pre.length (m + 3) g v ((m + 2 : Nat) : Int) x y = (if y + v.getD (m + 1) 0 < 4294967296 then nat_digit.L4 k (pre ++ u ++ post) pre.length (m + 3) g v ((m + 2 : Nat) : Int) (x - 1) (y + v.getD (m + 1) 0) else nat_digit.L10 k (pre ++ u ++ post) pre.length (m + 3) g v ((m + 2 : Nat) : Int) (x - 1) 0 0 ((m + 2 : Nat) : Int) 0)) →
        (∃ s' : Int × Int, ((q ≤ s'.1 ∧ s'.1 ≤ 4294967297) ∧ (0 ≤ s'.2 ∧ s'.2 < 4294967296) ∧ s'.1 * v.getD (m + 1) 0 + s'.2 = u.getD (m + 1) 0 + 4294967296 * u.getD (m + 2) 0) ∧ s'.1.toNat < x.toNat ∧ ∃ j, ∀ k, nat_digit.L4 (k + j) (pre ++ u ++ post) pre.length (m + 3) g v ((m + 2 : Nat) : Int) x y = nat_digit.L4 k (pre ++ u ++ post) pre.length (m + 3) g v ((m + 2 : Nat) : Int) s'.1 s'.2) ∨
        ∃ j, ∀ k, nat_digit.L4 (k + j) (pre ++ u ++ post) pre.length (m + 3) g v ((m + 2 : Nat) : Int) x y = some ((q, ()), pre ++ pad (m + 3) r ++ post, g) := by
      intro hq hL
      have h4 : (x - 1) * v.getD (m + 1) 0 + (y + v.getD (m + 1) 0) = u.getD (m + 1) 0 + 4294967296 * u.getD (m + 2) 0 := by rw [Int.sub_mul, Int.one_mul]; omega
      by_cases hy : y + v.getD (m + 1) 0 < 4294967296
      · exact .inl ⟨(x - 1, y + v.getD (m + 1) 0), ⟨by simp only; omega, by simp only; omega, h4⟩, by simp only; omega, 1, fun k => by rw [hL k, if_pos hy]⟩
      · have := G.great (g := x - 1) (rest := y + v.getD (m + 1) 0) (by omega) h4 (by omega)
        obtain ⟨j, hj⟩ := take (x - 1) (by omega) (by omega)
        exact .inr ⟨j + 1, fun k => by rw [← Nat.add_assoc, hL, if_neg hy]; exact hj k⟩
    by_cases hx : 4294967296 ≤ x
    · refine less (by omega) fun k => ?_
      by_cases hy : y + v.getD (m + 1) 0 < 4294967296
      · simp (disch := omega) only [c_dec, c_beq, c_bne, c_and, c_or, c_not, blt_dec, up1, dn1, if_t, if_f, if_true, if_false, Int.toNat_natCast, Option.bind_some, ne_eq, not_true_eq_false, not_false_eq_true, true_and, and_true, nat_digit.L4_succ, nat_digit.b4, shr64_32, IntWalk.u64_in, IntWalk.i64_in, e1]
      · simp (disch := omega) only [c_dec, c_beq, c_bne, c_and, c_or, c_not, blt_dec, up1, dn1, if_t, if_f, if_true, if_false, Int.toNat_natCast, Option.bind_some, ne_eq, not_true_eq_false, not_false_eq_true, true_and, and_true, nat_digit.L4_succ, nat_digit.b4, shr64_32, IntWalk.u64_in, IntWalk.i64_in, e1]
    · have gm := mul_bound (show 0 ≤ x ∧ x < 4294967296 by omega) k0
      by_cases hc : y * 4294967296 + u.getD m 0 < x * v.getD m 0
      · have hqx := G.down (g := x) (rest := y) (by omega) h3 hc
        refine less hqx fun k => ?_
        by_cases hy : y + v.getD (m + 1) 0 < 4294967296
        · simp (disch := omega) only [c_dec, c_beq, c_bne, c_and, c_or, c_not, blt_dec, up1, dn1, if_t, if_f, if_true, if_false, Int.toNat_natCast, Option.bind_some, ne_eq, not_true_eq_false, not_false_eq_true, true_and, and_true, nat_digit.L4_succ, nat_digit.b4, shr64_32, IntWalk.u64_in, IntWalk.i64_in, e1, e2, getD_mid (show m < u.length by omega), hor]
        · simp (disch := omega) only [c_dec, c_beq, c_bne, c_and, c_or, c_not, blt_dec, up1, dn1, if_t, if_f, if_true, if_false, Int.toNat_natCast, Option.bind_some, ne_eq, not_true_eq_false, not_false_eq_true, true_and, and_true, nat_digit.L4_succ, nat_digit.b4, shr64_32, IntWalk.u64_in, IntWalk.i64_in, e1, e2, getD_mid (show m < u.length by omega), hor]
      · have := G.stop (g := x) (rest := y) (by omega) h3 (by omega)
        obtain ⟨j, hj⟩ := take x (by omega) (by omega)
        refine .inr ⟨j + 1, fun k => ?_⟩
        rw [← Nat.add_assoc]
        simp (disch := omega) only [c_dec, c_beq, c_bne, c_and, c_or, c_not, blt_dec, up1, dn1, if_t, if_f, if_true, if_false, Int.toNat_natCast, Option.bind_some, ne_eq, not_true_eq_false, not_false_eq_true, true_and, and_true, nat_digit.L4_succ, nat_digit.b4, shr64_32, IntWalk.u64_in, IntWalk.i64_in, e1, e2, getD_mid (show m < u.length by omega), hor]
        exact hj k
  have hf := G.first
  have hun : u.getD (m + 2) 0 ≤ v.getD (m + 1) 0 := by
    by_cases hc : u.getD (m + 2) 0 ≤ v.getD (m + 1) 0
    · exact hc
    · exfalso
      have a1 : (v.getD (m + 1) 0 + 1) * pw (m + 2) ≤ u.getD (m + 2) 0 * pw (m + 2) := Int.mul_le_mul_of_nonneg_right (by omega) (Int.le_of_lt (pw_pos _))
      have e1 := val_take_succ (a := u) (i := m + 2) (by omega)
      rw [show m + 2 + 1 = u.length by omega, List.take_length] at e1
      have := val_nonneg (hu.take (m + 2))
      have e2 := val_take_succ (a := v) (i := m + 1) (by omega)
      rw [show m + 1 + 1 = v.length by omega, List.take_length] at e2
      have hvt2 := val_lt (hv.take (m + 1))
      rw [show (v.take (m + 1)).length = m + 1 by simp; omega] at hvt2
      rw [Int.add_mul, Int.one_mul, pw_succ (m + 1)] at a1
      have e3 : v.getD (m + 1) 0 * (4294967296 * pw (m + 1)) = 4294967296 * (v.getD (m + 1) 0 * pw (m + 1)) := Int.mul_left_comm _ _ _
      rw [pw_succ (m + 1)] at e1
      omega
  have htop : (u.getD (m + 1) 0 + 4294967296 * u.getD (m + 2) 0) / v.getD (m + 1) 0 ≤ 4294967297 := by
    have h1 : (u.getD (m + 1) 0 + 4294967296 * u.getD (m + 2) 0) / v.getD (m + 1) 0 < 4294967298 := by
      rw [Int.ediv_lt_iff_lt_mul (by omega)]; omega
    omega
  have hmod := Int.mul_ediv_add_emod (u.getD (m + 1) 0 + 4294967296 * u.getD (m + 2) 0) (v.getD (m + 1) 0)
  have hm0 := Int.emod_nonneg (u.getD (m + 1) 0 + 4294967296 * u.getD (m + 2) 0) (b := v.getD (m + 1) 0) (by omega)
  have hm1 := Int.emod_lt_of_pos (u.getD (m + 1) 0 + 4294967296 * u.getD (m + 2) 0) (b := v.getD (m + 1) 0) (by omega)
  obtain ⟨j, hj⟩ := guess ((u.getD (m + 1) 0 + 4294967296 * u.getD (m + 2) 0) / v.getD (m + 1) 0, (u.getD (m + 1) 0 + 4294967296 * u.getD (m + 2) 0) % v.getD (m + 1) 0) ⟨⟨hf, htop⟩, ⟨hm0, by simp only; omega⟩, by simp only; rw [Int.mul_comm]; exact hmod⟩
  refine ⟨0 + j, ?_⟩
  have hor := or64_lo g1 g2
  rw [← shl64_32] at hor
  have e1 : ((m + 2 : Nat) : Int) - 1 = ((m + 1 : Nat) : Int) := by omega
  simp (disch := omega) only [c_dec, c_beq, c_bne, c_and, c_or, c_not, blt_dec, up1, dn1, if_t, if_f, if_true, if_false, Int.toNat_natCast, Option.bind_some, ne_eq, not_true_eq_false, not_false_eq_true, true_and, and_true, nat_digit.e, lv, e1, IntWalk.i64_in, getD_mid (show m + 2 < u.length by omega), getD_mid (show m + 1 < u.length by omega), IntWalk.u64_in, hor, IntWalk.u64_quo, IntWalk.rem_in]
  exact hj 0
end Go.Fx.Try
