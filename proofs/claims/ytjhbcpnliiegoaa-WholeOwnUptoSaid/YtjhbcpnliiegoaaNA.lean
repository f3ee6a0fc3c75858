/- Numbers as lists of limbs: values, the list without noughts at its end, and the operations of words. Plain Lean. -/
import Derived.IntWalk
import Derived.Test.YtjhbcpnliiegoaaEv0
namespace Go.Fx.Num
open Go Go.Fx
set_option linter.unusedVariables false
set_option linter.unusedSimpArgs false
/-- Each a word of 32 bits. -/
def Limbs (xs : List Int) : Prop := ∀ x ∈ xs, 0 ≤ x ∧ x < 4294967296
def val : List Int → Int
  | [] => 0
  | x :: r => x + 4294967296 * val r
def pw (n : Nat) : Int := 4294967296 ^ n
theorem pw_zero : pw 0 = 1 := rfl
theorem pw_succ (n : Nat) : pw (n + 1) = 4294967296 * pw n := by unfold pw; rw [Int.pow_succ, Int.mul_comm]
theorem pw_pos (n : Nat) : 0 < pw n := by
  induction n with
  | zero => decide
  | succ n ih => rw [pw_succ]; omega
theorem pw_add (m n : Nat) : pw (m + n) = pw m * pw n := by unfold pw; rw [Int.pow_add]
theorem pw_mono {m n : Nat} (h : m ≤ n) : pw m ≤ pw n := by
  obtain ⟨k, rfl⟩ := Nat.exists_eq_add_of_le h
  clear h
  induction k with
  | zero => exact Int.le_refl _
  | succ k ih => rw [← Nat.add_assoc, pw_succ]; have := pw_pos (m + k); omega
theorem val_nil : val [] = 0 := rfl
theorem val_cons (x : Int) (r : List Int) : val (x :: r) = x + 4294967296 * val r := rfl
theorem Limbs.nil : Limbs [] := by intro x hx; cases hx
theorem Limbs.cons {x : Int} {r : List Int} (h : 0 ≤ x ∧ x < 4294967296) (hr : Limbs r) : Limbs (x :: r) := by
  intro y hy
  cases hy with
  | head => exact h
  | tail _ hy => exact hr y hy
theorem Limbs.head {x : Int} {r : List Int} (h : Limbs (x :: r)) : 0 ≤ x ∧ x < 4294967296 := h x (by simp)
theorem Limbs.tail {x : Int} {r : List Int} (h : Limbs (x :: r)) : Limbs r := fun y hy => h y (by simp [hy])
theorem Limbs.app {a b : List Int} (h : Limbs a) (g : Limbs b) : Limbs (a ++ b) := by
  intro x hx
  rcases List.mem_append.1 hx with hx | hx
  · exact h x hx
  · exact g x hx
theorem Limbs.take {a : List Int} (h : Limbs a) (n : Nat) : Limbs (a.take n) := fun x hx => h x (List.mem_of_mem_take hx)
theorem Limbs.drop {a : List Int} (h : Limbs a) (n : Nat) : Limbs (a.drop n) := fun x hx => h x (List.mem_of_mem_drop hx)
theorem Limbs.zeros (n : Nat) : Limbs (List.replicate n 0) := by
  intro x hx
  rw [(List.mem_replicate.1 hx).2]
  decide
theorem Limbs.get {a : List Int} (h : Limbs a) (i : Nat) : 0 ≤ a.getD i 0 ∧ a.getD i 0 < 4294967296 := by
  by_cases hi : i < a.length
  · have : a.getD i 0 = a[i] := by simp [List.getD, hi]
    rw [this]
    exact h _ (List.getElem_mem hi)
  · have : a.getD i 0 = 0 := by simp [List.getD, hi]
    rw [this]; decide
theorem Limbs.set {a : List Int} (h : Limbs a) (i : Nat) {v : Int} (hv : 0 ≤ v ∧ v < 4294967296) : Limbs (a.set i v) := by
  intro x hx
  rcases List.mem_or_eq_of_mem_set hx with hx | rfl
  · exact h x hx
  · exact hv
theorem val_nonneg {a : List Int} (h : Limbs a) : 0 ≤ val a := by
  induction a with
  | nil => exact Int.le_refl _
  | cons x r ih =>
    have h1 := h.head
    have h2 := ih h.tail
    rw [val_cons]; omega
theorem val_lt {a : List Int} (h : Limbs a) : val a < pw a.length := by
  induction a with
  | nil => decide
  | cons x r ih =>
    have h1 := h.head
    have h2 := ih h.tail
    rw [val_cons, List.length_cons, pw_succ]; omega
theorem val_append (a b : List Int) : val (a ++ b) = val a + pw a.length * val b := by
  induction a with
  | nil => simp [val_nil, pw_zero]
  | cons x r ih =>
    rw [List.cons_append, val_cons, val_cons, ih, List.length_cons, pw_succ, Int.mul_add, Int.mul_assoc]
    omega
theorem val_zeros (n : Nat) : val (List.replicate n 0) = 0 := by
  induction n with
  | zero => rfl
  | succ n ih => rw [List.replicate_succ, val_cons, ih]; rfl
theorem val_take_succ {a : List Int} {i : Nat} (h : i < a.length) : val (a.take (i + 1)) = val (a.take i) + a.getD i 0 * pw i := by
  rw [List.take_add_one, val_append]
  have hl : (a.take i).length = i := by simp; omega
  rw [hl]
  have : a[i]? = some (a.getD i 0) := by simp [List.getD, h]
  rw [this]
  simp only [Option.toList_some, val_cons, val_nil]
  rw [Int.mul_comm]; simp
theorem val_take_drop (a : List Int) (n : Nat) (h : n ≤ a.length) : val a = val (a.take n) + pw n * val (a.drop n) := by
  have h1 := val_append (a.take n) (a.drop n)
  rw [List.take_append_drop] at h1
  rw [h1, List.length_take, Nat.min_eq_left h]
theorem val_take_all {a : List Int} {n : Nat} (h : a.length ≤ n) : val (a.take n) = val a := by rw [List.take_of_length_le h]
theorem val_set {a : List Int} {i : Nat} (v : Int) (h : i < a.length) : val (a.set i v) = val a + (v - a.getD i 0) * pw i := by
  induction a generalizing i with
  | nil => cases h
  | cons x r ih =>
    cases i with
    | zero => simp [val_cons, pw_zero]; omega
    | succ i =>
      have h' : i < r.length := by simpa using h
      simp only [List.set_cons_succ, val_cons, List.getD_cons_succ]
      rw [ih h', pw_succ, Int.mul_add, Int.mul_left_comm]
      omega
theorem getD_set {a : List Int} {i j : Nat} {v : Int} (h : i < a.length) : (a.set i v).getD j 0 = if i = j then v else a.getD j 0 := by
  simp only [List.getD, List.getElem?_set]
  by_cases hij : i = j
  · subst hij; simp [h]
  · simp [hij]
theorem getD_zeros (n i : Nat) : (List.replicate n (0 : Int)).getD i 0 = 0 := by
  simp only [List.getD, List.getElem?_replicate]
  split <;> rfl
theorem getD_out {a : List Int} {i : Nat} (h : a.length ≤ i) : a.getD i 0 = 0 := by
  simp [List.getD, List.getElem?_eq_none h]
def canonN (n : Nat) : List Int := if h : n = 0 then [] else ((n % 4294967296 : Nat) : Int) :: canonN (n / 4294967296)
termination_by n
decreasing_by omega
def canon (n : Int) : List Int := canonN n.toNat
theorem canonN_zero : canonN 0 = [] := by rw [canonN]; simp
theorem canonN_pos {n : Nat} (h : n ≠ 0) : canonN n = ((n % 4294967296 : Nat) : Int) :: canonN (n / 4294967296) := by rw [canonN]; simp [h]
theorem canon_zero : canon 0 = [] := canonN_zero
theorem canon_cons {x v : Int} (hx : 0 ≤ x ∧ x < 4294967296) (hv : 0 ≤ v) (h : 0 < x + v) : canon (x + 4294967296 * v) = x :: canon v := by
  obtain ⟨a, rfl⟩ := Int.eq_ofNat_of_zero_le hx.1
  obtain ⟨b, rfl⟩ := Int.eq_ofNat_of_zero_le hv
  unfold canon
  have e : ((a : Int) + 4294967296 * (b : Int)).toNat = a + 4294967296 * b := by omega
  rw [e, canonN_pos (by omega), Int.toNat_natCast]
  have e1 : (a + 4294967296 * b) % 4294967296 = a := by omega
  have e2 : (a + 4294967296 * b) / 4294967296 = b := by omega
  rw [e1, e2]
/-- Nothing at its end that is nought. -/
def Nrm (a : List Int) : Prop := Limbs a ∧ (a.length = 0 ∨ a.getD (a.length - 1) 0 ≠ 0)
theorem canon_val {a : List Int} (h : Nrm a) : canon (val a) = a := by
  obtain ⟨hl, hz⟩ := h
  induction a with
  | nil => exact canon_zero
  | cons x r ih =>
    have h1 := hl.head
    have h2 := val_nonneg hl.tail
    cases r with
    | nil =>
      have hx : x ≠ 0 := by simpa using hz
      have := canon_cons h1 (Int.le_refl 0) (by omega)
      rw [val_cons, val_nil, this, canon_zero]
    | cons y s =>
      have hr : canon (val (y :: s)) = y :: s := ih hl.tail (Or.inr (by
        rcases hz with hz | hz
        · simp at hz
        · simpa using hz))
      have hpos : val (y :: s) ≠ 0 := fun h0 => by rw [h0, canon_zero] at hr; cases hr
      rw [val_cons, canon_cons h1 h2 (by omega), hr]
theorem canon_spec (n : Nat) : Limbs (canonN n) ∧ val (canonN n) = n ∧ ((canonN n).length = 0 ∨ (canonN n).getD ((canonN n).length - 1) 0 ≠ 0) := by
  induction n using Nat.strongRecOn with
  | ind n ih =>
    by_cases h : n = 0
    · subst h; rw [canonN_zero]; exact ⟨Limbs.nil, rfl, Or.inl rfl⟩
    · obtain ⟨h1, h2, h3⟩ := ih (n / 4294967296) (by omega)
      rw [canonN_pos h]
      refine ⟨Limbs.cons (by omega) h1, by rw [val_cons, h2]; omega, Or.inr ?_⟩
      rcases h3 with h3 | h3
      · have h4 : canonN (n / 4294967296) = [] := List.length_eq_zero_iff.1 h3
        rw [h4] at h2 ⊢
        rw [val_nil] at h2
        simp; omega
      · generalize canonN (n / 4294967296) = l at h3 ⊢
        cases l with
        | nil => simp at h3
        | cons y s => simpa using h3
theorem canon_limbs (n : Int) : Limbs (canon n) := (canon_spec n.toNat).1
theorem val_canon {n : Int} (h : 0 ≤ n) : val (canon n) = n := by
  unfold canon; rw [(canon_spec n.toNat).2.1]; omega
theorem canon_nrm (n : Int) : Nrm (canon n) := ⟨canon_limbs n, (canon_spec n.toNat).2.2⟩
theorem canon_inj {a b : Int} (ha : 0 ≤ a) (hb : 0 ≤ b) (h : canon a = canon b) : a = b := by
  rw [← val_canon ha, ← val_canon hb, h]
theorem canon_eq_iff {a b : Int} (ha : 0 ≤ a) (hb : 0 ≤ b) : canon a = canon b ↔ a = b := ⟨canon_inj ha hb, fun h => by rw [h]⟩
theorem nrm_pos {a : List Int} (h : Nrm a) (h0 : a.length ≠ 0) : pw (a.length - 1) ≤ val a := by
  obtain ⟨hl, hz⟩ := h
  have hz := hz.resolve_left h0
  have h1 := val_take_succ (a := a) (i := a.length - 1) (by omega)
  rw [Nat.sub_add_cancel (by omega), List.take_length] at h1
  have h2 := val_nonneg (hl.take (a.length - 1))
  have h3 := hl.get (a.length - 1)
  have h4 := pw_pos (a.length - 1)
  have h5 : 1 * pw (a.length - 1) ≤ a.getD (a.length - 1) 0 * pw (a.length - 1) := Int.mul_le_mul_of_nonneg_right (by omega) (by omega)
  omega
theorem canon_len_le {n : Int} {k : Nat} (hn : 0 ≤ n) (h : n < pw k) : (canon n).length ≤ k := by
  by_cases h0 : (canon n).length = 0
  · omega
  · have h1 := nrm_pos (canon_nrm n) h0
    rw [val_canon hn] at h1
    by_cases hk : k ≤ (canon n).length - 1
    · have := pw_mono hk; omega
    · omega
theorem canon_len_lt {n : Int} (hn : 0 ≤ n) : n < pw (canon n).length := by
  have := val_lt (canon_limbs n)
  rwa [val_canon hn] at this
theorem canon_nil_iff {n : Int} (hn : 0 ≤ n) : canon n = [] ↔ n = 0 := by
  rw [← canon_zero]; exact canon_eq_iff hn (Int.le_refl 0)
theorem canon_len_zero {n : Int} (hn : 0 ≤ n) : (canon n).length = 0 ↔ n = 0 := by
  rw [List.length_eq_zero_iff]; exact canon_nil_iff hn
theorem canon_val_len {a : List Int} (h : Limbs a) : (canon (val a)).length ≤ a.length := canon_len_le (val_nonneg h) (val_lt h)
theorem val_zero_of {a : List Int} (h : ∀ j, a.getD j 0 = 0) : val a = 0 := by
  induction a with
  | nil => rfl
  | cons x r ih =>
    have h1 : x = 0 := by simpa using h 0
    rw [val_cons, ih (fun j => by simpa using h (j + 1)), h1]; rfl
theorem take_canon {a : List Int} {n : Nat} (h : Limbs a) (hn : n ≤ a.length) (hz : ∀ j, n ≤ j → a.getD j 0 = 0) (hl : n = 0 ∨ a.getD (n - 1) 0 ≠ 0) : a.take n = canon (val a) := by
  have h1 := val_take_drop a n hn
  have h2 : val (a.drop n) = 0 := val_zero_of fun j => by
    have := hz (n + j) (by omega)
    simpa [List.getD, List.getElem?_drop] using this
  rw [h2, Int.mul_zero, Int.add_zero] at h1
  rw [h1]
  refine (canon_val ⟨h.take n, ?_⟩).symm
  have hlen : (a.take n).length = n := by simp; omega
  rw [hlen]
  rcases hl with hl | hl
  · exact Or.inl hl
  · refine (Nat.eq_zero_or_pos n).imp id fun hp => ?_
    have : (a.take n).getD (n - 1) 0 = a.getD (n - 1) 0 := by
      simp only [List.getD, List.getElem?_take]
      rw [if_pos (by omega)]
    rwa [this]
/-- Lists of one length: the highest place where they differ decides. -/
theorem val_cmp {a b : List Int} {i : Nat} (ha : Limbs a) (hb : Limbs b) (h : ∀ j, i < j → a.getD j 0 = b.getD j 0) (hlt : a.getD i 0 < b.getD i 0) : val a < val b := by
  induction a generalizing b i with
  | nil =>
    cases b with
    | nil => simp at hlt
    | cons y s =>
      rw [val_nil, val_cons]
      have h1 := hb.head
      have h2 := val_nonneg hb.tail
      cases i with
      | zero => simp at hlt; omega
      | succ i =>
        have := nil_lt s i hb.tail (by simpa using hlt)
        omega
  | cons x r ih =>
    have h1 := ha.head
    cases b with
    | nil =>
      have := ha.get i
      have h0 : ([] : List Int).getD i 0 = 0 := rfl
      omega
    | cons y s =>
      have h2 := hb.head
      rw [val_cons, val_cons]
      cases i with
      | zero =>
        have : val r = val s := val_congr fun j => by simpa using h (j + 1) (by omega)
        simp at hlt; omega
      | succ i =>
        have := ih ha.tail hb.tail (i := i) (fun j hj => by simpa using h (j + 1) (by omega)) (by simpa using hlt)
        omega
where
  nil_lt (s : List Int) (i : Nat) (hs : Limbs s) (h : 0 < s.getD i 0) : 0 < val s := by
    induction s generalizing i with
    | nil => simp at h
    | cons y s ih =>
      have h2 := hs.head
      have h3 := val_nonneg hs.tail
      rw [val_cons]
      cases i with
      | zero => simp at h; omega
      | succ i => have := ih i hs.tail (by simpa using h); omega
  val_congr {r s : List Int} (h : ∀ j, r.getD j 0 = s.getD j 0) : val r = val s := by
    induction r generalizing s with
    | nil => rw [val_nil, val_zero_of fun j => (h j).symm.trans (by simp)]
    | cons x r ih =>
      cases s with
      | nil => rw [val_nil]; exact val_zero_of fun j => (h j).trans (by simp)
      | cons y s =>
        have h0 : x = y := by simpa using h 0
        rw [val_cons, val_cons, ih fun j => by simpa using h (j + 1), h0]
theorem val_ext {r s : List Int} (h : ∀ j, r.getD j 0 = s.getD j 0) : val r = val s := val_cmp.val_congr h
theorem w32 (n : Int) : IntKind.u32.wrap n = n % 4294967296 := IntKind.wrap_u32 n
theorem w64 (n : Int) : IntKind.u64.wrap n = n % 18446744073709551616 := by
  simp [IntKind.wrap, IntKind.bits, IntKind.signed]
theorem bv_nat {n : Nat} {a : Nat} (h : a < 2 ^ n) : (BitVec.ofInt n (a : Int)).toNat = a := by
  rw [BitVec.toNat_ofInt]
  have : ((a : Int) % ((2 ^ n : Nat) : Int)) = ((a % 2 ^ n : Nat) : Int) := by rw [Int.natCast_emod]
  rw [this, Int.toNat_natCast, Nat.mod_eq_of_lt h]
theorem or64 {a b : Nat} (ha : a < 2 ^ 64) (hb : b < 2 ^ 64) : bitsOp .or .u64 a b = ((a ||| b : Nat) : Int) := by
  have h := Nat.or_lt_two_pow ha hb
  show IntKind.u64.wrap ((BitVec.ofInt 64 (a : Int) ||| BitVec.ofInt 64 (b : Int)).toNat : Int) = _
  rw [BitVec.toNat_or, bv_nat ha, bv_nat hb, w64]; omega
theorem or32 {a b : Nat} (ha : a < 2 ^ 32) (hb : b < 2 ^ 32) : bitsOp .or .u32 a b = ((a ||| b : Nat) : Int) := by
  have h := Nat.or_lt_two_pow ha hb
  show IntKind.u32.wrap ((BitVec.ofInt 32 (a : Int) ||| BitVec.ofInt 32 (b : Int)).toNat : Int) = _
  rw [BitVec.toNat_or, bv_nat ha, bv_nat hb, w32]; omega
theorem and32 {a b : Nat} (ha : a < 2 ^ 32) (hb : b < 2 ^ 32) : bitsOp .and .u32 a b = ((a &&& b : Nat) : Int) := by
  have h := Nat.and_lt_two_pow a hb
  show IntKind.u32.wrap ((BitVec.ofInt 32 (a : Int) &&& BitVec.ofInt 32 (b : Int)).toNat : Int) = _
  rw [BitVec.toNat_and, bv_nat ha, bv_nat hb, w32]; omega
/-- Words that share no digit: the high one is a multiple of 2 ^ s, the low one below it. -/
theorem or64_add {a b : Int} (s : Nat) (z : Int) (ha : a = 2 ^ s * z) (h0 : 0 ≤ z) (hb : 0 ≤ b ∧ b < 2 ^ s) (h : a + b < 18446744073709551616) : bitsOp .or .u64 a b = a + b := by
  obtain ⟨m, rfl⟩ := Int.eq_ofNat_of_zero_le h0
  obtain ⟨n, rfl⟩ := Int.eq_ofNat_of_zero_le hb.1
  have e : a = ((2 ^ s * m : Nat) : Int) := by rw [ha]; push_cast; rfl
  subst e
  have hn : n < 2 ^ s := by have := hb.2; exact_mod_cast this
  rw [or64 (by omega) (by omega), ← Nat.two_pow_add_eq_or_of_lt hn]
  push_cast; rfl
theorem or32_add' {a b : Int} (s : Nat) (z : Int) (ha : a = 2 ^ s * z) (h0 : 0 ≤ z) (hb : 0 ≤ b ∧ b < 2 ^ s) (h : a + b < 4294967296) : bitsOp .or .u32 b a = a + b := by
  obtain ⟨m, rfl⟩ := Int.eq_ofNat_of_zero_le h0
  obtain ⟨n, rfl⟩ := Int.eq_ofNat_of_zero_le hb.1
  have e : a = ((2 ^ s * m : Nat) : Int) := by rw [ha]; push_cast; rfl
  subst e
  have hn : n < 2 ^ s := by have := hb.2; exact_mod_cast this
  rw [or32 (by omega) (by omega), Nat.or_comm, ← Nat.two_pow_add_eq_or_of_lt hn]
  push_cast; rfl
theorem shr_eq (k : IntKind) (a : Int) (n : Nat) (h : n ≤ k.bits) : shrI k a n = a / 2 ^ n := by
  unfold shrI
  rw [Int.toNat_natCast, Nat.min_eq_left h, Int.fdiv_eq_ediv_of_nonneg _ (Int.le_of_lt (Int.pow_pos (by decide)))]
theorem shl_eq (k : IntKind) (a : Int) (n : Nat) (h : n ≤ k.bits) : shlI k a n = k.wrap (a * 2 ^ n) := by
  unfold shlI
  rw [Int.toNat_natCast, Nat.min_eq_left h]
theorem shr64_32 (a : Int) : shrI .u64 a 32 = a / 4294967296 := shr_eq .u64 a 32 (by decide)
theorem shl64_32 (a : Int) : shlI .u64 a 32 = a * 4294967296 % 18446744073709551616 := (shl_eq .u64 a 32 (by decide)).trans (w64 _)
/-- From a state of a loop on: round after round, till a place behind it is met. -/
theorem reach {σ τ R : Type} (L : Nat → σ → Option R) (M : Nat → τ → Option R) (Inv : σ → Prop) (m : σ → Nat) (Post : τ → Prop)
    (step : ∀ s, Inv s → (∃ s', Inv s' ∧ m s' < m s ∧ ∃ j, ∀ k, L (k + j) s = L k s') ∨ (∃ t, Post t ∧ ∃ j, ∀ k, L (k + j) s = M k t)) :
    ∀ s, Inv s → ∃ t, Post t ∧ ∃ j, ∀ k, L (k + j) s = M k t := by
  have key : ∀ n s, m s = n → Inv s → ∃ t, Post t ∧ ∃ j, ∀ k, L (k + j) s = M k t := by
    intro n
    induction n using Nat.strongRecOn with
    | ind n ih =>
      intro s hm hs
      rcases step s hs with ⟨s', h', hlt, j, hj⟩ | h
      · obtain ⟨t, ht, i, hi⟩ := ih (m s') (by omega) s' rfl h'
        refine ⟨t, ht, i + j, fun k => ?_⟩
        rw [← Nat.add_assoc, hj, hi]
      · exact h
  exact fun s hs => key _ s rfl hs
/-- The same where the function ends. -/
theorem ends {σ R : Type} (L : Nat → σ → Option R) (r : R) (Inv : σ → Prop) (m : σ → Nat)
    (step : ∀ s, Inv s → (∃ s', Inv s' ∧ m s' < m s ∧ ∃ j, ∀ k, L (k + j) s = L k s') ∨ (∃ j, ∀ k, L (k + j) s = some r)) :
    ∀ s, Inv s → ∃ j, ∀ k, L (k + j) s = some r := by
  intro s hs
  obtain ⟨t, _, h⟩ := reach L (fun _ (_ : Unit) => some r) Inv m (fun _ => True) (fun s hs => (step s hs).imp id fun h => ⟨(), trivial, h⟩) s hs
  exact h
/-- Rounds counted from below: i goes from where it stands up to n. -/
theorem up {σ R : Type} (L : Nat → Nat × σ → Option R) (r : R) (Inv : Nat → σ → Prop) (n : Nat)
    (step : ∀ i s, i < n → Inv i s → ∃ s', Inv (i + 1) s' ∧ ∃ j, ∀ k, L (k + j) (i, s) = L k (i + 1, s')) (last : ∀ s, Inv n s → ∃ j, ∀ k, L (k + j) (n, s) = some r) :
    ∀ i s, i ≤ n → Inv i s → ∃ j, ∀ k, L (k + j) (i, s) = some r := by
  intro i s hi hs
  refine ends L r (fun x => x.1 ≤ n ∧ Inv x.1 x.2) (fun x => n - x.1) (fun x hx => ?_) (i, s) ⟨hi, hs⟩
  obtain ⟨i, s⟩ := x
  obtain ⟨h1, h2⟩ := hx
  rcases Nat.lt_or_ge i n with h | h
  · obtain ⟨s', h3, h4⟩ := step i s h h2
    exact .inl ⟨(i + 1, s'), ⟨h, h3⟩, by show n - (i + 1) < n - i; omega, h4⟩
  · obtain rfl : i = n := Nat.le_antisymm h1 h
    exact .inr (last s h2)
/-- Rounds counted from below, and what is met behind them. -/
theorem upTo {σ τ R : Type} (L : Nat → Nat × σ → Option R) (M : Nat → τ → Option R) (Inv : Nat → σ → Prop) (Post : τ → Prop) (n : Nat)
    (step : ∀ i s, i < n → Inv i s → ∃ s', Inv (i + 1) s' ∧ ∃ j, ∀ k, L (k + j) (i, s) = L k (i + 1, s')) (last : ∀ s, Inv n s → ∃ t, Post t ∧ ∃ j, ∀ k, L (k + j) (n, s) = M k t) :
    ∀ i s, i ≤ n → Inv i s → ∃ t, Post t ∧ ∃ j, ∀ k, L (k + j) (i, s) = M k t := by
  intro i s hi hs
  refine reach L M (fun x => x.1 ≤ n ∧ Inv x.1 x.2) (fun x => n - x.1) Post (fun x hx => ?_) (i, s) ⟨hi, hs⟩
  obtain ⟨i, s⟩ := x
  obtain ⟨h1, h2⟩ := hx
  rcases Nat.lt_or_ge i n with h | h
  · obtain ⟨s', h3, h4⟩ := step i s h h2
    exact .inl ⟨(i + 1, s'), ⟨h, h3⟩, by show n - (i + 1) < n - i; omega, h4⟩
  · obtain rfl : i = n := Nat.le_antisymm h1 h
    exact .inr (last s h2)
section
variable {α : Type}
theorem c_dec (p : Prop) {d : Decidable p} (a b : α) : (bif @decide p d then a else b) = @ite α p d a b := by by_cases h : p <;> simp [h]
theorem c_beq (x y : Int) (a b : α) : (bif x == y then a else b) = if x = y then a else b := by
  by_cases h : x = y
  · subst h; simp
  · have : (x == y) = false := beq_eq_false_iff_ne.2 h
    rw [this, if_neg h]; rfl
theorem c_bne (x y : Int) (a b : α) : (bif x != y then a else b) = if x ≠ y then a else b := by
  by_cases h : x = y
  · subst h; simp
  · have : (x != y) = true := bne_iff_ne.2 h
    rw [this, if_pos h]; rfl
theorem c_and (p q : Bool) (a b : α) : (bif p && q then a else b) = bif p then (bif q then a else b) else b := by cases p <;> rfl
theorem c_or (p q : Bool) (a b : α) : (bif p || q then a else b) = bif p then a else (bif q then a else b) := by cases p <;> rfl
theorem c_not (p : Bool) (a b : α) : (bif !p then a else b) = bif p then b else a := by cases p <;> rfl
theorem blt_dec (m n : Nat) : Nat.blt m n = decide (m < n) := by
  by_cases h : m < n
  · rw [decide_eq_true h]; exact Nat.ble_eq_true_of_le h
  · rw [decide_eq_false h]; exact Bool.eq_false_iff.2 fun g => h (Nat.le_of_ble_eq_true g)
theorem if_t {p : Prop} {d : Decidable p} {a b : α} (h : p) : @ite α p d a b = a := if_pos h
theorem if_f {p : Prop} {d : Decidable p} {a b : α} (h : ¬p) : @ite α p d a b = b := if_neg h
end
theorem up1 {i : Nat} (h : i < 4611686018427387904) : IntKind.i64.wrap ((i : Int) + 1) = ((i + 1 : Nat) : Int) := by rw [IntWalk.i64_in _ (by omega)]; omega
theorem dn1 {i : Nat} (h : 0 < i ∧ i < 4611686018427387904) : IntKind.i64.wrap ((i : Int) - 1) = ((i - 1 : Nat) : Int) := by rw [IntWalk.i64_in _ (by omega)]; omega
theorem xor32 {a b : Nat} (ha : a < 2 ^ 32) (hb : b < 2 ^ 32) : bitsOp .xor .u32 a b = ((a ^^^ b : Nat) : Int) := by
  have h := Nat.xor_lt_two_pow ha hb
  show IntKind.u32.wrap ((BitVec.ofInt 32 (a : Int) ^^^ BitVec.ofInt 32 (b : Int)).toNat : Int) = _
  rw [BitVec.toNat_xor, bv_nat ha, bv_nat hb, w32]; omega
theorem top32 {x : Nat} (h : x < 4294967296) : x.testBit 31 = decide (2147483648 ≤ x) := by
  rw [Nat.testBit_eq_decide_div_mod_eq]
  apply decide_eq_decide.2
  omega
theorem borrow32 {x y b d : Nat} (hx : x < 4294967296) (hy : y < 4294967296) (hb : b ≤ 1) (hd : (d : Int) = ((x : Int) - y - b) % 4294967296) :
    (((4294967295 ^^^ x) &&& y) ||| ((4294967295 ^^^ (x ^^^ y)) &&& d)) / 2147483648 = if x < y + b then 1 else 0 := by
  have hd' : d < 4294967296 := by omega
  have h1 : (4294967295 ^^^ x) < 2 ^ 32 := Nat.xor_lt_two_pow (by decide) (by omega)
  have h2 : (x ^^^ y) < 2 ^ 32 := Nat.xor_lt_two_pow (by omega) (by omega)
  have h3 : (4294967295 ^^^ (x ^^^ y)) < 2 ^ 32 := Nat.xor_lt_two_pow (by decide) h2
  have h4 : (((4294967295 ^^^ x) &&& y) ||| ((4294967295 ^^^ (x ^^^ y)) &&& d)) < 2 ^ 32 := Nat.or_lt_two_pow (Nat.and_lt_two_pow _ (by omega)) (Nat.and_lt_two_pow _ (by omega))
  have h5 := top32 (x := ((4294967295 ^^^ x) &&& y) ||| ((4294967295 ^^^ (x ^^^ y)) &&& d)) (by omega)
  rw [Nat.testBit_or, Nat.testBit_and, Nat.testBit_and, Nat.testBit_xor, Nat.testBit_xor, Nat.testBit_xor, top32 hx, top32 hy, top32 hd', show (4294967295 : Nat).testBit 31 = true by decide] at h5
  generalize ((4294967295 ^^^ x) &&& y) ||| ((4294967295 ^^^ (x ^^^ y)) &&& d) = e at h4 h5 ⊢
  by_cases hxx : 2147483648 ≤ x <;> by_cases hyy : 2147483648 ≤ y <;> by_cases hdd : 2147483648 ≤ d <;> simp [hxx, hyy, hdd] at h5 <;> split <;> omega
end Go.Fx.Num
