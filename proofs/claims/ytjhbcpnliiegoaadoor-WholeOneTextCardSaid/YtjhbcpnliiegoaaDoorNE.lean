/- Whole numbers as texts: Parse and Text, the code's and the reference's. -/
import Derived.Test.YtjhbcpnliiegoaaDoorNC
import Derived.Test.YtjhbcpnliiegoaaDoorND
namespace Go.Fx.Tryd
open Go Go.Fx Go.Fx.Num
set_option linter.unusedVariables false
set_option linter.unusedSimpArgs false

section
variable {α β : Type}
theorem st {x : Option α} {a : α} {f : α → Option β} {r : Option β} (h : x = some a) (g : f a = r) : x.bind f = r := by rw [h]; exact g
theorem yes {b : Bool} {x y r : Option β} (h : b = true) (g : x = r) : (bif b then x else y) = r := by rw [h]; exact g
theorem no {b : Bool} {x y r : Option β} (h : b = false) (g : y = r) : (bif b then x else y) = r := by rw [h]; exact g
end

/-! ### texts -/
theorem ba_ext {s t : ByteArray} (h : lets s = lets t) : s = t := by
  have h1 : s.data.toList = t.data.toList := by
    unfold lets at h
    have inj : ∀ (x y : List UInt8), x.map (fun c => (c.toNat : Int)) = y.map (fun c => (c.toNat : Int)) → x = y := by
      intro x
      induction x with
      | nil => intro y h; cases y with
        | nil => rfl
        | cons => simp at h
      | cons a x ih => intro y h; cases y with
        | nil => simp at h
        | cons b y =>
          simp only [List.map_cons, List.cons.injEq] at h
          have e : a = b := UInt8.toNat_inj.1 (by omega)
          rw [e, ih y h.2]
    exact inj _ _ h
  cases s; cases t
  simp only at h1
  congr 1
  exact Array.toList_inj.1 h1
theorem lets_eq {s t : ByteArray} : (s.toList == t.toList) = decide (lets s = lets t) := by
  by_cases h : lets s = lets t
  · rw [ba_ext h]; simp
  · rw [decide_eq_false h]
    refine beq_eq_false_iff_ne.2 fun e => h ?_
    rw [bytes_toList, bytes_toList] at e
    unfold lets; rw [e]
theorem lets_minus : lets (⟨#[45]⟩ : ByteArray) = [45] := rfl
theorem lets_append (s t : ByteArray) : lets (s ++ t) = lets s ++ lets t := by
  unfold lets; rw [ByteArray.data_append, Array.toList_append, List.map_append]
theorem lets_extract (s : ByteArray) (i j : Nat) : lets (s.extract i j) = ((lets s).take j).drop i := by
  unfold lets
  rw [ByteArray.data_extract, Array.toList_extract, ← List.map_take, ← List.map_drop, List.extract_eq_drop_take', ]
/-- The text behind its first letter. -/
def tl (s : ByteArray) : ByteArray := s.extract 1 s.size
theorem lets_tl (s : ByteArray) : lets (tl s) = (lets s).drop 1 := by
  unfold tl; rw [lets_extract, ← lets_len, List.take_length]
theorem tl_size (s : ByteArray) : (tl s).size = s.size - 1 := by rw [← lets_len, lets_tl, List.length_drop, lets_len]
theorem all_of (s : ByteArray) : s.extract 0 s.size = s := ba_ext (by rw [lets_extract, ← lets_len, List.take_length, List.drop_zero])
/-- Does it begin with a minus? -/
def ng (s : ByteArray) : Bool := decide (0 < s.size ∧ btI s 0 = 45)

theorem HasPrefix_F (s : ByteArray) (hs : s.size ≤ 140737488355328) : stringslite_HasPrefix.F (s, ⟨#[45]⟩, ()) = some (ng s, ()) := by
  refine stringslite_HasPrefix.of 0 s ⟨#[45]⟩ ?_
  have h1 : (ByteArray.size (⟨#[45]⟩ : ByteArray) : Int) = 1 := rfl
  unfold stringslite_HasPrefix.e
  simp only [h1]
  by_cases h : (1 : Int) ≤ s.size
  · rw [decide_eq_true (show (s.size : Int) ≥ 1 from h)]
    simp only [cond_true]
    refine yes (by simp <;> omega) ?_
    congr 2
    unfold ng
    rw [lets_eq, lets_extract, lets_minus]
    have hl : 0 < (lets s).length := by rw [lets_len]; omega
    have hb := btI_lets s 0 (by omega)
    match hq : lets s, hl with
    | c :: r, _ =>
      rw [hq] at hb
      simp only [List.getD, List.getElem?_cons_zero, Option.getD_some] at hb
      rw [show btI s 0 = btI s ((0 : Nat) : Int) from rfl, hb]
      simp
      omega
  · rw [decide_eq_false (show ¬ (s.size : Int) ≥ 1 from h)]
    simp only [cond_false]
    congr 2
    unfold ng
    rw [decide_eq_false (by omega)]
theorem CutPrefix_F (s : ByteArray) (hs : s.size ≤ 140737488355328) : strings_CutPrefix.F (s, ⟨#[45]⟩, ()) = some (if ng s = true then (tl s, true, ()) else (s, false, ())) := by
  have k1 : stringslite_CutPrefix.F (s, ⟨#[45]⟩, ()) = some (if ng s = true then (tl s, true, ()) else (s, false, ())) := by
    refine stringslite_CutPrefix.of 0 s ⟨#[45]⟩ (st (HasPrefix_F s hs) ?_)
    cases h : ng s with
    | false => exact yes rfl rfl
    | true =>
      have : 0 < s.size ∧ btI s 0 = 45 := of_decide_eq_true h
      refine no rfl (yes ?_ rfl)
      simp [show ByteArray.size (⟨#[45]⟩ : ByteArray) = 1 from rfl]; omega
  refine strings_CutPrefix.of 0 s ⟨#[45]⟩ (st k1 ?_)
  cases ng s <;> rfl

/-! ### reading -/
/-- The digits of a text. -/
def dg (s : ByteArray) : ByteArray := if ng s = true then tl s else s
/-- The digits are a number's, and not nought with a minus. -/
def okP (s : ByteArray) : Prop := 0 < (dg s).size ∧ (∀ i : Nat, i < (dg s).size → dval (btI (dg s) (i : Int)) < 10) ∧ ¬ (1 < s.size ∧ btI (dg s) 0 = 48)
def zOf (s : ByteArray) : Int := if ng s = true then -(pv (dg s) 10 (dg s).size) else pv (dg s) 10 (dg s).size
open Classical in
noncomputable def wparse (s : ByteArray) : (Bool × List Int) × Int × Unit := if okP s then (wc (zOf s), 0, ()) else ((false, []), 15, ())
theorem dg_size (s : ByteArray) : (dg s).size ≤ s.size := by unfold dg; split; rw [tl_size]; omega; exact Nat.le_refl _
theorem ng_size {s : ByteArray} (h : ng s = true) : (dg s).size + 1 = s.size := by
  have := (of_decide_eq_true h : 0 < s.size ∧ _).1
  unfold dg; rw [if_pos h, tl_size]; omega
theorem pv_ten {s : ByteArray} (h : ∀ i : Nat, i < s.size → dval (btI s (i : Int)) < 10) : Nm (canon (pv s 10 s.size)) (pv s 10 s.size) (s.size / 8 + 1) := pv_nm (by decide) h
theorem parse10 {s : ByteArray} (h0 : 0 < s.size) (h : ∀ i : Nat, i < s.size → dval (btI s (i : Int)) < 10) (h1 : ¬ (1 < s.size ∧ btI s 0 = 48)) : parseI s 10 = (canon (pv s 10 s.size), 0, ()) := by
  unfold parseI
  rw [if_neg (by decide), if_neg (by omega), if_neg]
  rintro ⟨i, hi, hb⟩
  have := h i hi
  omega
theorem parse10_bad {s : ByteArray} (h : ¬ (0 < s.size ∧ (∀ i : Nat, i < s.size → dval (btI s (i : Int)) < 10) ∧ ¬ (1 < s.size ∧ btI s 0 = 48))) : parseI s 10 = ([], 15, ()) := by
  unfold parseI
  rw [if_neg (by decide)]
  split
  · rfl
  · rename_i h1
    rw [if_pos]
    refine Classical.byContradiction fun hb => h ⟨by omega, fun i hi => ?_, by omega⟩
    refine Classical.byContradiction fun hd => hb ⟨i, hi, by omega⟩
theorem pv_one (s : ByteArray) (h : s.size = 1) : pv s 10 s.size = dval (btI s 0) := by rw [h]; show (0 : Int) * 10 + dval (btI s 0) = _; omega
theorem dval48 {c : Int} (h : dval c = 0) : c = 48 := by
  unfold dval at h
  split at h
  · omega
  · split at h <;> omega
/-- A number's digits do not begin with nought. -/
theorem pv_first {s : ByteArray} (h : ∀ i : Nat, i < s.size → dval (btI s (i : Int)) < 10) (h0 : 0 < s.size) (h1 : btI s 0 ≠ 48) : 0 < pv s 10 s.size := by
  have hd : 0 < dval (btI s 0) := by
    have := dval_pos (btI s 0)
    rcases Int.lt_or_eq_of_le this with h2 | h2
    · exact h2
    · exact absurd (dval48 h2.symm) h1
  have key : ∀ n : Nat, n + 1 ≤ s.size → 0 < pv s 10 (n + 1) := by
    intro n
    induction n with
    | zero => intro _; show 0 < (0 : Int) * 10 + dval (btI s ((0 : Nat) : Int)); simpa using hd
    | succ n ih =>
      intro hn
      have := ih (by omega)
      have := dval_pos (btI s ((n + 1 : Nat) : Int))
      show 0 < pv s 10 (n + 1) * 10 + dval (btI s ((n + 1 : Nat) : Int))
      omega
  have := key (s.size - 1) (by omega)
  rwa [show s.size - 1 + 1 = s.size by omega] at this

theorem zOf_wn {s : ByteArray} (h : okP s) : Wn (wc (zOf s)) (zOf s) (s.size / 8 + 1) := by
  have h1 := (pv_ten h.2.1).mono (m := s.size / 8 + 1) (by have := dg_size s; omega)
  refine .of ?_
  have h2 := h1.pos
  have h3 := h1.lt
  have := pw_pos (s.size / 8 + 1)
  unfold zOf; split <;> omega

theorem Parse_W {s : ByteArray} (hs : s.size ≤ 140737488355328) : whole_Parse.F (s, ()) = some (wparse s) := by
  refine whole_Parse.of 0 s (st (CutPrefix_F s hs) ?_)
  have hdg : (if ng s = true then (tl s, true, ()) else (s, false, ())) = (dg s, ng s, ()) := by unfold dg; cases ng s <;> rfl
  rw [hdg]
  have hd := dg_size s
  refine st (Parse_F (s := dg s) (b := 10) (by omega) (by decide)) ?_
  by_cases hq : 0 < (dg s).size ∧ (∀ i : Nat, i < (dg s).size → dval (btI (dg s) (i : Int)) < 10) ∧ ¬ (1 < (dg s).size ∧ btI (dg s) 0 = 48)
  · obtain ⟨h0, h1, h2⟩ := hq
    rw [parse10 h0 h1 h2]
    have hn := pv_ten h1
    have hp := hn.pos
    have hl : (dg s).size / 8 + 1 ≤ 70368744177664 := by omega
    refine no rfl ?_
    cases hng : ng s with
    | false =>
      have hok : okP s := ⟨h0, h1, by
        rintro ⟨h3, h4⟩
        have : (dg s).size = s.size := by unfold dg; rw [if_neg (by rw [hng]; decide)]
        exact h2 ⟨by omega, h4⟩⟩
      refine no rfl (no rfl (st (hn.signed0 hl) ?_))
      unfold wparse
      rw [if_pos hok]
      unfold zOf
      rw [if_neg (by rw [hng]; decide)]
    | true =>
      have hsz := ng_size hng
      by_cases h3 : btI (dg s) 0 = 48
      · have h4 : (dg s).size = 1 := by
          rcases Nat.lt_or_ge 1 (dg s).size with h5 | h5
          · exact absurd ⟨h5, h3⟩ h2
          · omega
        have h5 : pv (dg s) 10 (dg s).size = 0 := by rw [pv_one _ h4, h3]; rfl
        refine yes rfl (yes ?_ ?_)
        · rw [h5, show canon (0 : Int) = [] from canon_zero]; rfl
        · unfold wparse
          rw [if_neg]
          intro hok
          exact hok.2.2 ⟨by omega, h3⟩
      · have hok : okP s := ⟨h0, h1, fun h => h3 h.2⟩
        have hp2 := pv_first h1 h0 h3
        have hne : ((canon (pv (dg s) 10 (dg s).size)).length : Int) ≠ 0 := by
          intro e
          have e2 : canon (pv (dg s) 10 (dg s).size) = [] := List.length_eq_zero_iff.1 (by omega)
          have := hn.val
          rw [e2, val_nil] at this
          omega
        refine yes rfl (no (by simpa using hne) (yes rfl (st (hn.signed1 hl (.inl rfl)) ?_)))
        unfold wparse
        rw [if_pos hok]
        unfold zOf
        rw [if_pos hng, if_pos (by decide)]
  · rw [parse10_bad hq]
    refine yes rfl ?_
    unfold wparse
    rw [if_neg]
    intro hok
    refine hq ⟨hok.1, hok.2.1, fun h => hok.2.2 ⟨?_, h.2⟩⟩
    omega

theorem dval10 {c : Int} (hc : 0 ≤ c ∧ c < 256) : dval c < 10 ↔ 48 ≤ c ∧ c ≤ 57 := by
  unfold dval
  split
  · omega
  · split <;> omega
theorem rloop {s : ByteArray} (hs : s.size ≤ 140737488355328) (h0 : 0 < (dg s).size) (hz : ¬ (1 < s.size ∧ btI (dg s) 0 = 48)) {x4 : Int} (hx : (x4 == 1) = ng s) : ∃ j, ∀ k, fulcrumref02_Parse.L8 (k + j) false x4 (dg s) 0 = some (wparse s) := by
  have hd := dg_size s
  obtain ⟨j, hj⟩ := ends (fun k (i : Nat) => fulcrumref02_Parse.L8 k false x4 (dg s) (i : Int)) (wparse s) (fun i => i ≤ (dg s).size ∧ ∀ j, j < i → dval (btI (dg s) (j : Int)) < 10) (fun i => (dg s).size - i) (fun i ⟨h1, h2⟩ => by
    by_cases hi : i < (dg s).size
    · have hb := btI_bound (dg s) (i : Int)
      have hv := dval10 hb
      by_cases hl : btI (dg s) (i : Int) < 48
      · refine .inr ⟨1, fun k => ?_⟩
        have : ¬ okP s := fun hok => by have := hok.2.1 i hi; omega
        unfold wparse
        rw [if_neg this]
        simp (disch := omega) only [c_dec, c_beq, c_bne, c_and, c_or, c_not, blt_dec, up1, dn1, if_t, if_f, if_true, if_false, Int.toNat_natCast, Option.bind_some, ne_eq, not_true_eq_false, not_false_eq_true, true_and, and_true, fulcrumref02_Parse.L8_succ, fulcrumref02_Parse.b8]
      · by_cases hg : btI (dg s) (i : Int) > 57
        · refine .inr ⟨1, fun k => ?_⟩
          have : ¬ okP s := fun hok => by have := hok.2.1 i hi; omega
          unfold wparse
          rw [if_neg this]
          simp (disch := omega) only [c_dec, c_beq, c_bne, c_and, c_or, c_not, blt_dec, up1, dn1, if_t, if_f, if_true, if_false, Int.toNat_natCast, Option.bind_some, ne_eq, not_true_eq_false, not_false_eq_true, true_and, and_true, fulcrumref02_Parse.L8_succ, fulcrumref02_Parse.b8]
        · refine .inl ⟨i + 1, ⟨by omega, fun j hj => ?_⟩, by omega, 1, fun k => ?_⟩
          · rcases Nat.lt_or_ge j i with h | h
            · exact h2 j h
            · obtain rfl : j = i := by omega
              omega
          · simp (disch := omega) only [c_dec, c_beq, c_bne, c_and, c_or, c_not, blt_dec, up1, dn1, if_t, if_f, if_true, if_false, Int.toNat_natCast, Option.bind_some, ne_eq, not_true_eq_false, not_false_eq_true, true_and, and_true, fulcrumref02_Parse.L8_succ, fulcrumref02_Parse.b8, IntWalk.i64_in]
            rw [show (i : Int) + 1 = ((i + 1 : Nat) : Int) by omega]
    · obtain rfl : i = (dg s).size := by omega
      refine .inr ⟨1, fun k => ?_⟩
      have hok : okP s := ⟨h0, h2, hz⟩
      have hn := pv_ten h2
      have e1 := rParse_F (s := dg s) (b := 10) (by omega) (by decide)
      rw [parse10 h0 h2 (fun h => hz ⟨by omega, h.2⟩)] at e1
      have e2 := hn.made (by omega) (ng s)
      rw [fulcrumref02_Parse.L8_succ]
      refine no (decide_eq_false (by omega)) (st e1 ?_)
      show ((fulcrumref02_made.F (x4 == 1, canon (pv (dg s) 10 (dg s).size), ())).bind _) = _
      rw [hx]
      refine st e2 ?_
      unfold wparse
      rw [if_pos hok]
      rfl) 0 ⟨Nat.zero_le _, fun j hj => absurd hj (by omega)⟩
  exact ⟨j, hj⟩

theorem rParse_W {s : ByteArray} (hs : s.size ≤ 140737488355328) : fulcrumref02_Parse.F (s, ()) = some (wparse s) := by
  have hd := dg_size s
  -- from the digits on
  have tail : ∀ {x4 : Int}, (x4 == 1) = ng s → ∃ k, (bif ((dg s).size : Int) == 0 then (some ((false, ([] : List Int)), (15 : Int), ()))
      else (bif decide (0 ≤ (0 : Int)) && decide ((0 : Int) < (ByteArray.size (dg s) : Int)) then (bif btI (dg s) (0 : Int) == (48 : Int) then (bif decide ((ByteArray.size s : Int) > (1 : Int)) then (some ((false, ([] : List Int)), (15 : Int), ()))
      else (fulcrumref02_Parse.L8 k false x4 (dg s) (0 : Int))) else (fulcrumref02_Parse.L8 k false x4 (dg s) (0 : Int))) else none)) = some (wparse s) := by
    intro x4 hx
    by_cases h0 : (dg s).size = 0
    · refine ⟨0, yes (by simp [h0]) ?_⟩
      unfold wparse
      rw [if_neg (fun h => by have := h.1; omega)]
    · by_cases hz : 1 < s.size ∧ btI (dg s) 0 = 48
      · refine ⟨0, no (by simp [h0]) (yes (by simp; omega) (yes (by simp [hz.2]) (yes (by simp; omega) ?_)))⟩
        unfold wparse
        rw [if_neg (fun h => h.2.2 hz)]
      · obtain ⟨j, hj⟩ := rloop hs (by omega) hz hx
        refine ⟨0 + j, no (by simp [h0]) (yes (by simp; omega) ?_)⟩
        by_cases h48 : btI (dg s) 0 = 48
        · exact yes (by simp [h48]) (no (by simp; omega) (hj 0))
        · exact no (by simp [h48]) (hj 0)
  have hall : ByteArray.extract s (Int.toNat (0 : Int)) (Int.toNat (ByteArray.size s : Int)) = s := by
    rw [Int.toNat_natCast]; exact all_of s
  have ex : ∃ k, fulcrumref02_Parse.e (fulcrumref02_Parse.L8 k) s = some (wparse s) := by
    by_cases h0 : 0 < s.size
    · by_cases hm : btI s 0 = 45
      · have hng : ng s = true := decide_eq_true ⟨h0, hm⟩
        have hdg : ByteArray.extract s (Int.toNat (1 : Int)) (Int.toNat (ByteArray.size s : Int)) = dg s := by
          unfold dg; rw [if_pos hng, Int.toNat_natCast]; rfl
        obtain ⟨k, hk⟩ := tail (x4 := 1) (by rw [hng]; rfl)
        refine ⟨k, ?_⟩
        unfold fulcrumref02_Parse.e
        refine yes (decide_eq_true (by omega)) (yes (by simp; omega) (yes (by simp [hm]) (yes (by simp; omega) ?_)))
        rw [hdg]; exact hk
      · have hng : ng s = false := decide_eq_false (fun h => hm h.2)
        have hdg : dg s = s := by unfold dg; rw [if_neg (by rw [hng]; decide)]
        obtain ⟨k, hk⟩ := tail (x4 := 0) (by rw [hng]; rfl)
        refine ⟨k, ?_⟩
        unfold fulcrumref02_Parse.e
        refine yes (decide_eq_true (by omega)) (yes (by simp; omega) (no (by simp [hm]) (yes (by simp) ?_)))
        rw [hall]
        rw [hdg] at hk
        exact hk
    · have hng : ng s = false := decide_eq_false (fun h => h0 h.1)
      have hdg : dg s = s := by unfold dg; rw [if_neg (by rw [hng]; decide)]
      obtain ⟨k, hk⟩ := tail (x4 := 0) (by rw [hng]; rfl)
      refine ⟨k, ?_⟩
      unfold fulcrumref02_Parse.e
      refine no (decide_eq_false (by omega)) (yes (by simp) ?_)
      rw [hall]
      rw [hdg] at hk
      exact hk
  obtain ⟨k, hk⟩ := ex
  exact fulcrumref02_Parse.of k s hk

/-! ### writing -/
/-- A number's text. -/
def wtxt (z : Int) : ByteArray := if z < 0 then (⟨#[45]⟩ : ByteArray) ++ txt 10 (-z).toNat else txt 10 z.toNat
theorem ab_toNat (z : Int) : (ab z).toNat = if z < 0 then (-z).toNat else z.toNat := by unfold ab; split <;> rfl
theorem txt_size10 {n k : Nat} (h : n < 2 ^ k) : (txt 10 n).size ≤ k + 1 := by
  by_cases h0 : n = 0
  · subst h0
    have : txt 10 0 = ⟨#[48]⟩ := if_pos rfl
    rw [this]
    show 1 ≤ _
    omega
  · rw [← lets_len, lets_txt (by decide) h0, List.length_reverse]
    exact Nat.le_trans (digs_len (by decide) k n h) (Nat.le_succ k)
theorem pw_two (m : Nat) : pw m = ((2 ^ (32 * m) : Nat) : Int) := by
  induction m with
  | zero => rfl
  | succ m ih =>
    rw [pw_succ, ih, Nat.mul_succ, Nat.pow_add, Int.natCast_mul, show ((2 ^ 32 : Nat) : Int) = 4294967296 by decide]; omega
/-- Text, where the digits are few enough. -/
theorem Text_W' {p : Bool × List Int} {z : Int} {n : Nat} (h : Wn p z n) (hn : n ≤ 70368744177664) (hd : (digs 10 (ab z).toNat).length ≤ 140737488351232) : whole_Text.F (p, ()) = some (wtxt z, ()) := by
  have e1 := Text_F' (b := 10) h.nm.limbs (by have := h.len; omega) (fun c _ hc => by
    obtain rfl : c = 10 := by omega
    rw [h.nm.val]; exact hd)
  rw [if_pos (by decide), h.nm.val] at e1
  refine whole_Text.of 0 p (st e1 (st (h.Sign_F hn) ?_))
  rw [ab_toNat]
  rcases tri z with ⟨h1, h2, _⟩ | ⟨h1, h2, _⟩ | ⟨h1, h2, _⟩
  · unfold wtxt
    rw [if_pos h1, if_pos h1]
    refine yes (decide_eq_true (by simp only; omega)) (yes (decide_eq_true ?_) rfl)
    have hs : (txt 10 (-z).toNat).size ≤ 140737488351232 := by
      rw [ab_toNat, if_pos h1] at hd
      rw [← lets_len, lets_txt (by decide) (by omega), List.length_reverse]; exact hd
    show 1 + (txt (10 : Int).toNat (-z).toNat).size ≤ _
    have : (10 : Int).toNat = 10 := rfl
    rw [this]
    omega
  · unfold wtxt
    rw [if_neg (by omega), if_neg (by omega)]
    exact no (decide_eq_false (by simp only; omega)) rfl
  · unfold wtxt
    rw [if_neg (by omega), if_neg (by omega)]
    exact no (decide_eq_false (by simp only; omega)) rfl
theorem digs_ab {z : Int} {n : Nat} (h : ab z < pw n) : (digs 10 (ab z).toNat).length ≤ 32 * n := by
  refine digs_len (by decide) _ _ ?_
  have := ab_nonneg z
  rw [pw_two] at h
  omega
theorem Text_W {p : Bool × List Int} {z : Int} {n : Nat} (h : Wn p z n) (hn : n ≤ 1099511627776) : whole_Text.F (p, ()) = some (wtxt z, ()) :=
  Text_W' h (by omega) (Nat.le_trans (digs_ab h.nm.lt) (by omega))
theorem rText_W {p : Bool × List Int} {z : Int} {n : Nat} (h : Wn p z n) (hn : n ≤ 1099511627776) : fulcrumref02_Text.F (p, ()) = some (wtxt z, ()) := by
  have e0 := h.nm.rNorm_F (by omega)
  have e1 := rText_F (b := 10) h.nm.norm.limbs (by have := h.nm.norm.len; omega)
  rw [if_pos (by decide), h.nm.norm.val] at e1
  refine fulcrumref02_Text.of 0 p (st e0 (st e1 (st (h.rSign_F (by omega)) ?_)))
  rw [ab_toNat]
  rcases tri z with ⟨h1, h2, _⟩ | ⟨h1, h2, _⟩ | ⟨h1, h2, _⟩
  · unfold wtxt
    rw [if_pos h1, if_pos h1]
    refine yes (decide_eq_true (by simp only; omega)) (yes (decide_eq_true ?_) rfl)
    have hd := digs_ab h.nm.lt
    have hs : (txt 10 (-z).toNat).size ≤ 140737488351232 := by
      rw [ab_toNat, if_pos h1] at hd
      rw [← lets_len, lets_txt (by decide) (by omega), List.length_reverse]; omega
    show 1 + (txt (10 : Int).toNat (-z).toNat).size ≤ _
    have : (10 : Int).toNat = 10 := rfl
    rw [this]
    omega
  · unfold wtxt
    rw [if_neg (by omega), if_neg (by omega)]
    exact no (decide_eq_false (by simp only; omega)) rfl
  · unfold wtxt
    rw [if_neg (by omega), if_neg (by omega)]
    exact no (decide_eq_false (by simp only; omega)) rfl

/-! ### there and back -/
theorem txt_digits {n : Nat} : 0 < (txt 10 n).size ∧ (∀ i : Nat, i < (txt 10 n).size → dval (btI (txt 10 n) (i : Int)) < 10) ∧ ¬ (1 < (txt 10 n).size ∧ btI (txt 10 n) 0 = 48) := by
  refine Classical.byContradiction fun h => ?_
  have h1 := parse10_bad h
  have h2 := parse_txt (b := 10) (by decide) n
  rw [show ((10 : Nat) : Int) = 10 from rfl, h1] at h2
  have := congrArg (fun q => q.2.1) h2
  simp at this
theorem txt_pv (n : Nat) : pv (txt 10 n) 10 (txt 10 n).size = n := pv_txt (b := 10) (by decide) n
theorem btI0 (s : ByteArray) (h : 0 < s.size) : btI s 0 = (lets s).getD 0 0 := btI_lets s 0 h
theorem ng_txt (n : Nat) : ng (txt 10 n) = false := by
  obtain ⟨h0, h1, _⟩ := txt_digits (n := n)
  refine decide_eq_false fun h => ?_
  have := h1 0 h0
  rw [show ((0 : Nat) : Int) = 0 from rfl, h.2] at this
  exact absurd this (by decide)
theorem lets_wneg (n : Nat) : lets ((⟨#[45]⟩ : ByteArray) ++ txt 10 n) = 45 :: lets (txt 10 n) := by rw [lets_append, lets_minus]; rfl
theorem back_W (z : Int) : wparse (wtxt z) = (wc z, 0, ()) := by
  by_cases hz : z < 0
  · have hw : wtxt z = (⟨#[45]⟩ : ByteArray) ++ txt 10 (-z).toNat := if_pos hz
    have hsz : (wtxt z).size = (txt 10 (-z).toNat).size + 1 := by
      rw [← lets_len, hw, lets_wneg, List.length_cons, lets_len]
    have hng : ng (wtxt z) = true := by
      refine decide_eq_true ⟨by omega, ?_⟩
      rw [btI0 _ (by omega), hw, lets_wneg]; rfl
    have hdg : dg (wtxt z) = txt 10 (-z).toNat := by
      unfold dg
      rw [if_pos hng]
      refine ba_ext ?_
      rw [lets_tl, hw, lets_wneg]; rfl
    obtain ⟨h0, h1, h2⟩ := txt_digits (n := (-z).toNat)
    have hfirst : btI (txt 10 (-z).toNat) 0 ≠ 48 := by
      intro h48
      have hs1 : (txt 10 (-z).toNat).size = 1 := by
        rcases Nat.lt_or_ge 1 (txt 10 (-z).toNat).size with h5 | h5
        · exact absurd ⟨h5, h48⟩ h2
        · omega
      have h3 := pv_one _ hs1
      rw [txt_pv, h48] at h3
      have : dval 48 = 0 := by decide
      omega
    have hok : okP (wtxt z) := ⟨by rw [hdg]; exact h0, by rw [hdg]; exact h1, by rw [hdg]; exact fun h => hfirst h.2⟩
    unfold wparse
    rw [if_pos hok]
    unfold zOf
    rw [if_pos hng, hdg, txt_pv]
    rw [show -(((-z).toNat : Nat) : Int) = z by omega]
  · have hw : wtxt z = txt 10 z.toNat := if_neg hz
    have hng : ng (wtxt z) = false := by rw [hw]; exact ng_txt _
    have hdg : dg (wtxt z) = txt 10 z.toNat := by
      unfold dg
      rw [if_neg (by rw [hng]; decide), hw]
    obtain ⟨h0, h1, h2⟩ := txt_digits (n := z.toNat)
    have hok : okP (wtxt z) := ⟨by rw [hdg]; exact h0, by rw [hdg]; exact h1, by rw [hdg, hw]; exact h2⟩
    unfold wparse
    rw [if_pos hok]
    unfold zOf
    rw [if_neg (by rw [hng]; decide), hdg, txt_pv]
    rw [show ((z.toNat : Nat) : Int) = z by omega]
theorem wtxt_pos (z : Int) : 0 < (wtxt z).size := by
  refine Classical.byContradiction fun h => ?_
  have hb := back_W z
  unfold wparse at hb
  rw [if_neg] at hb
  · have := congrArg (fun q => q.2.1) hb
    simp at this
  · intro hok
    have := hok.1
    have := dg_size (wtxt z)
    omega
theorem wtxt_inj {y z : Int} (h : wtxt y = wtxt z) : y = z := by
  have h1 := back_W y
  rw [h, back_W z] at h1
  exact (wc_inj (congrArg Prod.fst h1)).symm
/-- Digits without noughts in front are what is written of their number. -/
theorem digs_of : ∀ (l : List Int), (∀ c ∈ l, (0 ≤ c ∧ c < 256) ∧ dval c < 10) → (∀ c, l.getLast? = some c → c ≠ 48) → ∃ n : Nat, l.foldr (fun c v => v * (10 : Int) + dval c) 0 = n ∧ digs 10 n = l ∧ (l ≠ [] → 0 < n)
  | [], _, _ => ⟨0, rfl, digs_zero 10, fun h => absurd rfl h⟩
  | c :: l, h1, h2 => by
    obtain ⟨n, e1, e2, e3⟩ := digs_of l (fun c' hc => h1 c' (List.mem_cons_of_mem _ hc)) (fun c' hc => h2 c' (by
      cases l with
      | nil => simp at hc
      | cons d l => rw [List.getLast?_cons_cons]; exact hc))
    obtain ⟨hc, hd⟩ := h1 c (by simp)
    have hd0 := dval_pos c
    obtain ⟨d, hdd⟩ := Int.eq_ofNat_of_zero_le hd0
    have hd10 : d < 10 := by omega
    have hpos : 0 < n * 10 + d := by
      cases l with
      | nil =>
        have := h2 c rfl
        have : d ≠ 0 := fun e => this (dval48 (by rw [hdd, e]; rfl))
        omega
      | cons x l => have := e3 (by simp); omega
    refine ⟨n * 10 + d, ?_, ?_, fun _ => hpos⟩
    · rw [List.foldr_cons, e1, hdd]; omega
    · rw [digs_pos (by decide) (by omega), show (n * 10 + d) / 10 = n by omega, show (n * 10 + d) % 10 = d by omega, e2]
      congr 1
      exact (dig_at (by omega) hc).2 hdd
theorem txt_of {s : ByteArray} (h0 : 0 < s.size) (h1 : ∀ i : Nat, i < s.size → dval (btI s (i : Int)) < 10) (h2 : ¬ (1 < s.size ∧ btI s 0 = 48)) : txt 10 (pv s 10 s.size).toNat = s := by
  have hall : ∀ c ∈ lets s, (0 ≤ c ∧ c < 256) ∧ dval c < 10 := by
    intro c hc
    obtain ⟨i, hi, rfl⟩ := List.getElem_of_mem hc
    have hi' : i < s.size := by rw [← lets_len]; exact hi
    have e := btI_lets s i hi'
    simp only [List.getD, List.getElem?_eq_getElem hi, Option.getD_some] at e
    rw [← e]
    exact ⟨btI_bound _ _, h1 i hi'⟩
  by_cases h48 : btI s 0 = 48
  · have hs1 : s.size = 1 := by
      rcases Nat.lt_or_ge 1 s.size with h5 | h5
      · exact absurd ⟨h5, h48⟩ h2
      · omega
    have h3 := pv_one _ hs1
    rw [h48] at h3
    rw [h3, show (dval 48).toNat = 0 by decide, show txt 10 0 = ⟨#[48]⟩ from if_pos rfl]
    refine ba_ext ?_
    have hl : (lets s).length = 1 := by rw [lets_len, hs1]
    have e := btI0 s h0
    rw [h48] at e
    match hq : lets s, hl with
    | [c], _ =>
      rw [hq] at e
      simp only [List.getD, List.getElem?_cons_zero, Option.getD_some] at e
      rw [← e]; rfl
  · obtain ⟨n, e1, e2, e3⟩ := digs_of (lets s).reverse (fun c hc => hall c (List.mem_reverse.1 hc)) (fun c hc => by
      rw [List.getLast?_reverse] at hc
      have e := btI0 s h0
      rw [List.head?_eq_getElem?] at hc
      simp only [List.getD, hc, Option.getD_some] at e
      rw [← e]; exact h48)
    have hpv : pv s 10 s.size = n := by
      rw [pv_fold _ _ _ (Nat.le_refl _), ← lets_len, List.take_length, ← e1, List.foldr_reverse]
    have hne : lets s ≠ [] := fun h => by have := lets_len s; rw [h] at this; simp at this; omega
    have hn := e3 (by simpa using hne)
    rw [hpv, Int.toNat_natCast]
    refine ba_ext ?_
    rw [lets_txt (by decide) (by omega), e2, List.reverse_reverse]
theorem there_W {s : ByteArray} (h : okP s) : wtxt (zOf s) = s := by
  have hn := (pv_ten h.2.1).pos
  cases hng : ng s with
  | false =>
    have hdg : dg s = s := by unfold dg; rw [if_neg (by rw [hng]; decide)]
    obtain ⟨h0, h1, h2⟩ := h
    rw [hdg] at h0 h1 h2 hn
    have hz : zOf s = pv s 10 s.size := by unfold zOf; rw [if_neg (by rw [hng]; decide), hdg]
    unfold wtxt
    rw [hz, if_neg (by omega)]
    exact txt_of h0 h1 h2
  | true =>
    have hsz := ng_size hng
    have hfirst : btI (dg s) 0 ≠ 48 := fun e => h.2.2 ⟨by have := h.1; omega, e⟩
    have hp := pv_first h.2.1 h.1 hfirst
    have hz : zOf s = -(pv (dg s) 10 (dg s).size) := by unfold zOf; rw [if_pos hng]
    unfold wtxt
    rw [hz, if_pos (by omega), Int.neg_neg, txt_of h.1 h.2.1 (fun e => hfirst e.2)]
    refine ba_ext ?_
    have h45 : 0 < s.size ∧ btI s 0 = 45 := of_decide_eq_true hng
    have e := btI0 s h45.1
    rw [h45.2] at e
    rw [lets_append, lets_minus]
    have hdg : dg s = tl s := by unfold dg; rw [if_pos hng]
    rw [hdg, lets_tl]
    have hl : 0 < (lets s).length := by rw [lets_len]; exact h45.1
    match hq : lets s, hl with
    | c :: r, _ =>
      rw [hq] at e
      simp only [List.getD, List.getElem?_cons_zero, Option.getD_some] at e
      rw [← e]; rfl
end Go.Fx.Tryd

namespace Go.Fx.Tryd
open Go Go.Fx Go.Fx.Num
set_option linter.unusedVariables false
set_option linter.unusedSimpArgs false

theorem wparse_len {s : ByteArray} (hs : s.size ≤ 140737488355328) : (wparse s).1.2.length ≤ 70368744177664 := by
  unfold wparse
  split
  · rename_i h; exact Nat.le_trans (zOf_wn h).len (by omega)
  · exact Nat.zero_le _
theorem endless_F (p : Bool × List Int) : fulcrumlaw02_endless.F (p, ()) = some (decide ((p.2.length : Int) > 223000000), ()) := fulcrumlaw02_endless.of 0 p rfl
theorem wholeTexts_true (a : Bool × List Int) (s : ByteArray) (wa : ∀ x ∈ a.2, (Lit.int .u32 x).wf = true) (la : a.2.length * 4 ≤ 140737488351232) (ls : s.size ≤ 140737488351232) : fulcrumlaw02_WholeTexts.F (a, s, ()) = some (true, ()) := by
  refine fulcrumlaw02_WholeTexts.of 0 a s (st (endless_F a) ?_)
  by_cases h : (a.2.length : Int) > 223000000
  · exact yes (decide_eq_true h) rfl
  · have hs : s.size ≤ 140737488355328 := by omega
    have ha : Wn a (wv a) 223000000 := ⟨limbs_of wa, rfl, by omega⟩
    have e1 := wsame_F (wparse s).1 (wparse s).1 (wparse_len hs)
    rw [decide_eq_true rfl] at e1
    refine no (decide_eq_false h) (st (Parse_W hs) (st (rParse_W hs) (yes (by simp) (st e1 (yes rfl (st (Text_W ha (by decide)) (st (rText_W ha (by decide)) ?_)))))))
    simp
theorem one_F : fulcrumlaw02_one.F () = some (wc 1, ()) := fulcrumlaw02_one.of 0 (st (WOf_F (n := 1) (by decide)) rfl)
theorem wtxt_one : wtxt 1 = ⟨#[49]⟩ := by
  unfold wtxt
  rw [if_neg (by decide)]
  have h := txt_of (s := ⟨#[49]⟩) (by decide) (fun i hi => by
    have : (⟨#[49]⟩ : ByteArray).size = 1 := rfl
    obtain rfl : i = 0 := by omega
    decide) (by decide)
  have hp : (pv ⟨#[49]⟩ 10 (⟨#[49]⟩ : ByteArray).size).toNat = (1 : Int).toNat := by decide
  rw [hp] at h
  exact h
theorem wholeOneText_true (s : ByteArray) (ls : s.size ≤ 140737488351232) : fulcrumlaw02_WholeOneText.F (s, ()) = some (true, ()) := by
  have hs : s.size ≤ 140737488355328 := by omega
  refine fulcrumlaw02_WholeOneText.of 0 s (st (Parse_W hs) ?_)
  by_cases hok : okP s
  · have e0 : wparse s = (wc (zOf s), 0, ()) := by unfold wparse; rw [if_pos hok]
    have e1 := Text_W' (zOf_wn hok) (by omega) (by
      -- the digits are the text's own
      have hb := there_W hok
      have hsz : (wtxt (zOf s)).size ≤ 140737488351232 := by rw [hb]; exact ls
      have key : (digs 10 (ab (zOf s)).toNat).length ≤ (wtxt (zOf s)).size := by
        by_cases h0 : (ab (zOf s)).toNat = 0
        · rw [h0, digs_zero]; exact Nat.zero_le _
        · rw [ab_toNat] at h0 ⊢
          unfold wtxt
          split
          · rename_i hz
            rw [if_pos hz] at h0
            rw [← lets_len, lets_wneg, List.length_cons, lets_txt (by decide) h0, List.length_reverse]
            omega
          · rename_i hz
            rw [if_neg hz] at h0
            rw [← lets_len, lets_txt (by decide) h0, List.length_reverse]
            exact Nat.le_refl _
      omega)
    rw [e0]
    refine no rfl (st e1 ?_)
    rw [there_W hok]
    simp
  · have e0 : wparse s = ((false, []), 15, ()) := by unfold wparse; rw [if_neg hok]
    rw [e0]
    refine yes rfl (yes rfl (yes rfl (yes rfl (st one_F (st (Text_W (Wof_bound (n := 1) (by decide)) (by decide)) ?_)))))
    rw [wtxt_one]
    simp
theorem awake_F : fulcrumlaw02_awake.F () = some (true, ()) := by
  have w2 := Wof_bound (n := 2) (by decide)
  have w1 := Wof_bound (n := 1) (by decide)
  have w0 := Wof_bound (n := 0) (by decide)
  exact fulcrumlaw02_awake.of 0 (st (WOf_F (n := 2) (by decide)) (st one_F (st (w2.Cmp_F w1 (by decide)) (yes rfl (st one_F (st (w1.Sign_F (by decide)) (yes rfl (st (WOf_F (n := 0) (by decide)) (st (w0.Sign_F (by decide)) rfl)))))))))
theorem wholeBack_true (a b : Bool × List Int) (wa : ∀ x ∈ a.2, (Lit.int .u32 x).wf = true) (la : a.2.length * 4 ≤ 140737488351232) (wb : ∀ x ∈ b.2, (Lit.int .u32 x).wf = true) (lb : b.2.length * 4 ≤ 140737488351232) : fulcrumlaw02_WholeBack.F (a, b, ()) = some (true, ()) := by
  refine fulcrumlaw02_WholeBack.of 0 a b (st (endless_F a) ?_)
  by_cases h : (a.2.length : Int) > 223000000
  · exact yes (decide_eq_true h) rfl
  · refine no (decide_eq_false h) (st (endless_F b) ?_)
    by_cases h' : (b.2.length : Int) > 223000000
    · exact yes (decide_eq_true h') rfl
    · have ha : Wn a (wv a) 223000000 := ⟨limbs_of wa, rfl, by omega⟩
      have hb : Wn b (wv b) 223000000 := ⟨limbs_of wb, rfl, by omega⟩
      have hsz : (wtxt (wv a)).size ≤ 140737488355328 := by
        have hd := digs_ab ha.nm.lt
        rw [ab_toNat] at hd
        unfold wtxt
        split
        · rename_i hz
          rw [if_pos hz] at hd
          rw [← lets_len, lets_wneg, List.length_cons, lets_txt (by decide) (by omega), List.length_reverse]
          omega
        · rename_i hz
          rw [if_neg hz] at hd
          by_cases h0 : (wv a).toNat = 0
          · rw [h0, show txt 10 0 = ⟨#[48]⟩ from if_pos rfl]; decide
          · rw [← lets_len, lets_txt (by decide) h0, List.length_reverse]
            omega
      have p1 := Parse_W hsz
      rw [back_W] at p1
      have s1 := wsame_F (wc (wv a)) (wc (wv a)) (Nat.le_trans ha.norm.len (by decide))
      rw [decide_eq_true rfl] at s1
      have hpos := wtxt_pos (wv a)
      have c1 := ha.Cmp_F hb (by decide)
      have heq : (sgn (wv a - wv b) == 0) = decide (wv a = wv b) := by
        by_cases e : wv a = wv b
        · rw [decide_eq_true e, e, Int.sub_self]; rfl
        · rw [decide_eq_false e]
          unfold sgn
          split
          · rfl
          · split
            · omega
            · rfl
      have ht : ((wtxt (wv a)).toList == (wtxt (wv b)).toList) = decide (wv a = wv b) := by
        rw [lets_eq]
        by_cases e : wv a = wv b
        · rw [e]; simp
        · rw [decide_eq_false e]
          exact decide_eq_false fun hl => e (wtxt_inj (ba_ext hl))
      have s2 := wsame_F (wc (wv a)) (wc (wv b)) (Nat.le_trans ha.norm.len (by decide))
      have hs2 : decide (wc (wv a) = wc (wv b)) = decide (wv a = wv b) := by
        by_cases e : wv a = wv b
        · rw [e]; simp
        · rw [decide_eq_false e]
          exact decide_eq_false fun hl => e (wc_inj hl)
      rw [hs2] at s2
      refine no (decide_eq_false h') (st (Text_W ha (by decide)) (st p1 (no rfl (st (ha.Norm_F (by decide)) (st s1 (no rfl (no (beq_eq_false_iff_ne.2 (by show ((wtxt (wv a)).size : Int) ≠ 0; omega)) (st c1 (st (Text_W hb (by decide)) ?_)))))))))
      show (bif (sgn (wv a - wv b) == 0) == ((wtxt (wv a)).toList == (wtxt (wv b)).toList) then _ else _) = _
      rw [heq, ht]
      refine yes (by simp) (st (ha.Norm_F (by decide)) (st (hb.Norm_F (by decide)) (st s2 ?_)))
      refine yes (by simp) (st awake_F rfl)
end Go.Fx.Tryd
