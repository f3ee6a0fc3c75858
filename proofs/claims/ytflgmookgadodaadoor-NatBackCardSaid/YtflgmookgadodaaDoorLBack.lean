/- The law NatBack: a number's digits in any base are read as the number. -/
import Derived.Test.YtflgmookgadodaaDoorLReads
namespace Go.Fx.Tryd
open Go Go.Fx Go.Fx.Num
set_option linter.unusedVariables false
set_option linter.unusedSimpArgs false

theorem txt_size {b n : Nat} (hb : 2 ≤ b ∧ b ≤ 16) {k : Nat} (h : n < 2 ^ k) : (txt b n).size ≤ k + 1 := by
  by_cases h0 : n = 0
  · subst h0
    have : txt b 0 = ⟨#[48]⟩ := if_pos rfl
    rw [this]
    show 1 ≤ _
    omega
  · rw [← lets_len, lets_txt hb h0, List.length_reverse]
    exact Nat.le_trans (digs_len hb.1 k n h) (Nat.le_succ k)
theorem pw_nat (m : Nat) : pw m = ((2 ^ (32 * m) : Nat) : Int) := by
  induction m with
  | zero => rfl
  | succ m ih =>
    rw [pw_succ, ih, Nat.mul_succ, Nat.pow_add, Int.natCast_mul, show ((2 ^ 32 : Nat) : Int) = 4294967296 by decide]; omega
theorem back_F {a : List Int} {n : Nat} (ha : Limbs a) (la : a.length ≤ 67108864) (hn : val a = n) {b : Nat} (hb : 2 ≤ b ∧ b ≤ 16) :
    nat_Text.F (a, (b : Int), ()) = some (txt b n, 0, ()) ∧ nat_Parse.F (txt b n, (b : Int), ()) = some (canon n, 0, ()) := by
  have k1 := Text_F (b := (b : Int)) ha (by omega)
  rw [if_pos (by omega), hn, Int.toNat_natCast, Int.toNat_natCast] at k1
  have hlt := val_lt ha
  rw [hn, pw_nat] at hlt
  have hsz := txt_size hb (Int.ofNat_lt.1 hlt)
  have k2 := Parse_F (s := txt b n) (b := (b : Int)) (by omega) (by omega)
  rw [parse_txt hb] at k2
  exact ⟨k1, k2⟩
theorem natBack_true (a : List Int) (i : Int) (wa : ∀ x ∈ a, (Lit.int .u32 x).wf = true) (la : a.length * 4 ≤ 140737488351232) (wi : (Lit.int .i64 i).wf = true) : fulcrumlaw01_NatBack.F (a, i, ()) = some (true, ()) := by
  have hi := rsi64_of wi
  have ha := limbs_of wa
  have out : i < 2 ∨ 16 < i → nat_Parse.F (⟨#[49]⟩, i, ()) = some ([], 14, ()) := fun h => by
    rw [Parse_F (by decide) hi]; unfold parseI; rw [if_pos h]
  have key : ∀ c : List Int, Limbs c → c.length ≤ 67108864 → ¬ (i < 2 ∨ 16 < i) → ∃ (s : ByteArray) (r : List Int), fulcrumlaw01_twin.F (c, ()) = some (c, ()) ∧ nat_Text.F (c, i, ()) = some (s, 0, ()) ∧ nat_Parse.F (s, i, ()) = some (r, 0, ()) ∧ fulcrumref01_Norm.F (c, ()) = some (r, ()) ∧ fulcrumlaw01_same.F (r, r, ()) = some (true, ()) := by
    intro c hc lc h
    obtain ⟨b, rfl⟩ := Int.eq_ofNat_of_zero_le (show 0 ≤ i by omega)
    obtain ⟨n, hn⟩ := Int.eq_ofNat_of_zero_le (val_nonneg hc)
    obtain ⟨k1, k2⟩ := back_F hc lc hn (b := b) (by omega)
    have k3 := rNorm_F hc (by omega)
    have hl := canon_val_len hc
    rw [hn] at k3 hl
    have s1 := same_F (canon (n : Int)) (canon (n : Int)) (by omega)
    rw [decide_eq_true rfl] at s1
    exact ⟨_, _, twin_F c (by omega), k1, k2, k3, s1⟩
  refine fulcrumlaw01_NatBack.of 0 a i ?_
  by_cases hl : (a.length : Int) ≥ 67108864
  · refine yes (decide_eq_true hl) ?_
    by_cases h1 : i < 2
    · exact yes (decide_eq_true h1) (st (out (.inl h1)) rfl)
    · refine no (decide_eq_false h1) ?_
      by_cases h2 : i > 16
      · exact yes (decide_eq_true h2) (st (out (.inr h2)) rfl)
      · obtain ⟨s, r, k1, k2, k3, k4, k5⟩ := key [] Limbs.nil (by simp) (by omega)
        exact no (decide_eq_false h2) (st k1 (st k2 (st k3 (yes rfl (yes rfl (st k4 (st k5 rfl)))))))
  · refine no (decide_eq_false hl) ?_
    by_cases h1 : i < 2
    · exact yes (decide_eq_true h1) (st (out (.inl h1)) rfl)
    · refine no (decide_eq_false h1) ?_
      by_cases h2 : i > 16
      · exact yes (decide_eq_true h2) (st (out (.inr h2)) rfl)
      · obtain ⟨s, r, k1, k2, k3, k4, k5⟩ := key a ha (by omega) (by omega)
        exact no (decide_eq_false h2) (st k1 (st k2 (st k3 (yes rfl (yes rfl (st k4 (st k5 rfl)))))))
end Go.Fx.Tryd
