/- Loops of a printed function: what they come to, by a measure; and the shapes of printed tests. Plain Lean. -/
import Derived.Test.YthmdbafinpmojaaNum
namespace Go.Fx.Num
open Go Go.Fx
set_option linter.unusedVariables false
set_option linter.unusedSimpArgs false

/-- From a state of a loop on: round after round, till a place behind it is met. -/
theorem reach {σ τ R : Type} (L : Nat → σ → Option R) (M : Nat → τ → Option R) (Inv : σ → Prop) (m : σ → Nat) (Post : τ → Prop)
    (step : ∀ s, Inv s → (∃ s', Inv s' ∧ m s' < m s ∧ ∃ j, ∀ k, L (k + j) s = L k s') ∨ (∃ t, Post t ∧ ∃ j, ∀ k, L (k + j) s = M k t)) :
    ∀ s, Inv s → ∃ t, Post t ∧ ∃ j, ∀ k, L (k + j) s = M k t := by
  have key : ∀ n s, m s = n → Inv s → ∃ t, Post t ∧ ∃ j, ∀ k, L (k + j) s = M k t := by
    intro n
    induction n using Nat.strongRecOn with
    | ind n ih =>
      intro s hm hs
      rcases step s hs with ⟨s', h', hlt, j, hj⟩ | h
      · obtain ⟨t, ht, i, hi⟩ := ih (m s') (by omega) s' rfl h'
        refine ⟨t, ht, i + j, fun k => ?_⟩
        rw [← Nat.add_assoc, hj, hi]
      · exact h
  exact fun s hs => key _ s rfl hs
/-- The same where the function ends. -/
theorem ends {σ R : Type} (L : Nat → σ → Option R) (r : R) (Inv : σ → Prop) (m : σ → Nat)
    (step : ∀ s, Inv s → (∃ s', Inv s' ∧ m s' < m s ∧ ∃ j, ∀ k, L (k + j) s = L k s') ∨ (∃ j, ∀ k, L (k + j) s = some r)) :
    ∀ s, Inv s → ∃ j, ∀ k, L (k + j) s = some r := by
  intro s hs
  obtain ⟨t, _, h⟩ := reach L (fun _ (_ : Unit) => some r) Inv m (fun _ => True) (fun s hs => (step s hs).imp id fun h => ⟨(), trivial, h⟩) s hs
  exact h
/-- Rounds counted from below: i goes from where it stands up to n. -/
theorem up {σ R : Type} (L : Nat → Nat × σ → Option R) (r : R) (Inv : Nat → σ → Prop) (n : Nat)
    (step : ∀ i s, i < n → Inv i s → ∃ s', Inv (i + 1) s' ∧ ∃ j, ∀ k, L (k + j) (i, s) = L k (i + 1, s')) (last : ∀ s, Inv n s → ∃ j, ∀ k, L (k + j) (n, s) = some r) :
    ∀ i s, i ≤ n → Inv i s → ∃ j, ∀ k, L (k + j) (i, s) = some r := by
  intro i s hi hs
  refine ends L r (fun x => x.1 ≤ n ∧ Inv x.1 x.2) (fun x => n - x.1) (fun x hx => ?_) (i, s) ⟨hi, hs⟩
  obtain ⟨i, s⟩ := x
  obtain ⟨h1, h2⟩ := hx
  rcases Nat.lt_or_ge i n with h | h
  · obtain ⟨s', h3, h4⟩ := step i s h h2
    exact .inl ⟨(i + 1, s'), ⟨h, h3⟩, by show n - (i + 1) < n - i; omega, h4⟩
  · obtain rfl : i = n := Nat.le_antisymm h1 h
    exact .inr (last s h2)
/-- Rounds counted from below, and what is met behind them. -/
theorem upTo {σ τ R : Type} (L : Nat → Nat × σ → Option R) (M : Nat → τ → Option R) (Inv : Nat → σ → Prop) (Post : τ → Prop) (n : Nat)
    (step : ∀ i s, i < n → Inv i s → ∃ s', Inv (i + 1) s' ∧ ∃ j, ∀ k, L (k + j) (i, s) = L k (i + 1, s')) (last : ∀ s, Inv n s → ∃ t, Post t ∧ ∃ j, ∀ k, L (k + j) (n, s) = M k t) :
    ∀ i s, i ≤ n → Inv i s → ∃ t, Post t ∧ ∃ j, ∀ k, L (k + j) (i, s) = M k t := by
  intro i s hi hs
  refine reach L M (fun x => x.1 ≤ n ∧ Inv x.1 x.2) (fun x => n - x.1) Post (fun x hx => ?_) (i, s) ⟨hi, hs⟩
  obtain ⟨i, s⟩ := x
  obtain ⟨h1, h2⟩ := hx
  rcases Nat.lt_or_ge i n with h | h
  · obtain ⟨s', h3, h4⟩ := step i s h h2
    exact .inl ⟨(i + 1, s'), ⟨h, h3⟩, by show n - (i + 1) < n - i; omega, h4⟩
  · obtain rfl : i = n := Nat.le_antisymm h1 h
    exact .inr (last s h2)

/-! ### printed tests -/
section
variable {α : Type}
theorem c_dec (p : Prop) {d : Decidable p} (a b : α) : (bif @decide p d then a else b) = @ite α p d a b := by by_cases h : p <;> simp [h]
theorem c_beq (x y : Int) (a b : α) : (bif x == y then a else b) = if x = y then a else b := by
  by_cases h : x = y
  · subst h; simp
  · have : (x == y) = false := beq_eq_false_iff_ne.2 h
    rw [this, if_neg h]; rfl
theorem c_bne (x y : Int) (a b : α) : (bif x != y then a else b) = if x ≠ y then a else b := by
  by_cases h : x = y
  · subst h; simp
  · have : (x != y) = true := bne_iff_ne.2 h
    rw [this, if_pos h]; rfl
theorem c_and (p q : Bool) (a b : α) : (bif p && q then a else b) = bif p then (bif q then a else b) else b := by cases p <;> rfl
theorem c_or (p q : Bool) (a b : α) : (bif p || q then a else b) = bif p then a else (bif q then a else b) := by cases p <;> rfl
theorem c_not (p : Bool) (a b : α) : (bif !p then a else b) = bif p then b else a := by cases p <;> rfl
theorem blt_dec (m n : Nat) : Nat.blt m n = decide (m < n) := by
  by_cases h : m < n
  · rw [decide_eq_true h]; exact Nat.ble_eq_true_of_le h
  · rw [decide_eq_false h]; exact Bool.eq_false_iff.2 fun g => h (Nat.le_of_ble_eq_true g)
theorem if_t {p : Prop} {d : Decidable p} {a b : α} (h : p) : @ite α p d a b = a := if_pos h
theorem if_f {p : Prop} {d : Decidable p} {a b : α} (h : ¬p) : @ite α p d a b = b := if_neg h
end
theorem up1 {i : Nat} (h : i < 4611686018427387904) : IntKind.i64.wrap ((i : Int) + 1) = ((i + 1 : Nat) : Int) := by rw [IntWalk.i64_in _ (by omega)]; omega
theorem dn1 {i : Nat} (h : 0 < i ∧ i < 4611686018427387904) : IntKind.i64.wrap ((i : Int) - 1) = ((i - 1 : Nat) : Int) := by rw [IntWalk.i64_in _ (by omega)]; omega
end Go.Fx.Num
