/- Straight-line steps of a printed function. -/
import Derived.Test.YthmdbafinpmojaaGreatNA
import Derived.Test.YthmdbafinpmojaaGreatW08b
namespace Go.Fx.Tryz
open Go Go.Fx Go.Fx.Num
set_option linter.unusedVariables false
set_option linter.unusedSimpArgs false

section
variable {α β : Type}
theorem st {x : Option α} {a : α} {f : α → Option β} {r : Option β} (h : x = some a) (g : f a = r) : x.bind f = r := by rw [h]; exact g
theorem yes {b : Bool} {x y r : Option β} (h : b = true) (g : x = r) : (bif b then x else y) = r := by rw [h]; exact g
theorem no {b : Bool} {x y r : Option β} (h : b = false) (g : y = r) : (bif b then x else y) = r := by rw [h]; exact g
end
theorem wrap_ok {i : Int} (h : -9223372036854775808 ≤ i) (h2 : i < 9223372036854775808) : IntKind.i64.wrap i = i := i64_add ⟨h, by omega⟩

end Go.Fx.Tryz

namespace Go.Fx.Tryz
open Go Go.Fx Go.Fx.Num
set_option linter.unusedVariables false
set_option linter.unusedSimpArgs false

/-! ### normal forms, of bounds and of all that holds them -/
def bdn (nf : Dt44 → Dt44) (b : Dt66) : Dt66 := if b.1 = true then (true, nf b.2.1, b.2.2) else zt66
def lin (nf : Dt44 → Dt44) (l : Dt68) : Dt68 := (bdn nf l.1, bdn nf l.2)
def chn (nf : Dt44 → Dt44) (c : Dt70) : Dt70 := (c.1, c.2.1, c.2.2.1, bdn nf c.2.2.2)
def stn (nf : Dt44 → Dt44) (s : Dt32) : Dt32 := (s.1.map (lin nf), s.2.1, s.2.2.map (chn nf))
/-- The reference's normal form of a bound's number is nf's. -/
def NB (nf : Dt44 → Dt44) (b : Dt66) : Prop := b.1 = true → fulcrumref05_Norm.F (b.2.1, ()) = some (nf b.2.1, ())
theorem RBound_F {nf : Dt44 → Dt44} {b : Dt66} (h : NB nf b) : fulcrumref08_Bound.F (b, ()) = some (bdn nf b, ()) := by
  refine fulcrumref08_Bound.of 0 b ?_
  unfold bdn
  cases hb : b.1 with
  | false => exact yes (by rw [hb]; rfl) rfl
  | true => exact no (by rw [hb]; rfl) (st (h hb) rfl)

/-! ### making -/
def mkStore (n : Nat) : Dt81 := (zt79, (true, List.replicate n zt68))
def mkState (n : Nat) : Dt32 := (List.replicate n zt68, zt79)
theorem New_F (v : Int) : bounds_New.F () (v, ()) = some (if 0 ≤ v ∧ v ≤ 65536 then (some (mkStore v.toNat), (0, ()), ()) else (none, (1, ()), ())) := by
  refine bounds_New.of () v _ fun G => ⟨0, ?_⟩
  unfold bounds_New.e
  by_cases h1 : v < 0
  · rw [if_neg (by omega)]; exact yes (decide_eq_true h1) rfl
  refine no (decide_eq_false h1) ?_
  by_cases h2 : v > 65536
  · rw [if_neg (by omega)]; exact yes (decide_eq_true h2) rfl
  refine no (decide_eq_false h2) ?_
  rw [if_pos (by omega)]
  exact yes (by rw [blt_dec]; simp only [Bool.and_eq_true, decide_eq_true_eq]; omega) rfl
theorem RNew_F (v : Int) : fulcrumref08_New.F (v, ()) = some (if 0 ≤ v ∧ v ≤ 65536 then (mkState v.toNat, 0, ()) else (zt32, 1, ())) := by
  refine fulcrumref08_New.of 0 v ?_
  unfold fulcrumref08_New.e
  by_cases h1 : v < 0
  · rw [if_neg (by omega)]; exact yes (decide_eq_true h1) rfl
  refine no (decide_eq_false h1) ?_
  by_cases h2 : v > 65536
  · rw [if_neg (by omega)]; exact yes (decide_eq_true h2) rfl
  refine no (decide_eq_false h2) ?_
  rw [if_pos (by omega)]
  exact yes (by rw [blt_dec]; simp only [Bool.and_eq_true, decide_eq_true_eq]; omega) rfl

/-! ### the store's plain methods -/
theorem is_F (d : Dt81) : bounds_Store_is.F d () = some ((), (d.2.1, ()), d) := bounds_Store_is.of d _ fun G => ⟨0, rfl⟩
theorem Vars_F {d : Dt81} (h : d.2.1 = true) : bounds_Store_Vars.F d () = some ((), ((d.2.2.length : Int), ()), d) :=
  bounds_Store_Vars.of d _ fun G => ⟨0, st (is_F d) (no (by show (!d.2.1) = false; rw [h]; rfl) rfl)⟩
theorem Level_F {d : Dt81} (h : d.2.1 = true) : bounds_Store_Level.F d () = some ((), (d.1.1, ()), d) :=
  bounds_Store_Level.of d _ fun G => ⟨0, st (is_F d) (no (by show (!d.2.1) = false; rw [h]; rfl) rfl)⟩
/-- What Grow makes of a store. -/
def growS (d : Dt81) : Unit × (Int × Int × Unit) × Dt81 :=
  if d.2.2.length = 65536 then ((), (0, 2, ()), d) else ((), ((d.2.2.length : Int), 0, ()), (d.1, (true, d.2.2 ++ [zt68])))
theorem Grow_F {d : Dt81} (h : d.2.1 = true) (hl : d.2.2.length ≤ 65536) : bounds_Store_Grow.F d () = some (growS d) := by
  refine bounds_Store_Grow.of d _ fun G => ⟨0, st (is_F d) (no (by show (!d.2.1) = false; rw [h]; rfl) ?_)⟩
  unfold growS
  by_cases h1 : d.2.2.length = 65536
  · rw [if_pos h1]
    exact yes (by show (((d.2.2.length : Nat) : Int) == 65536) = true; rw [h1]; rfl) rfl
  · rw [if_neg h1]
    refine no (by show (((d.2.2.length : Nat) : Int) == 65536) = false; exact beq_eq_false_iff_ne.2 (by omega)) ?_
    refine yes (decide_eq_true (by show d.2.2.length + 1 < 549755813888; omega)) ?_
    have e : IntKind.i64.wrap ((List.length (List.append d.2.2 [zt68]) : Int) - 1) = d.2.2.length := by
      rw [show List.length (List.append d.2.2 [zt68]) = d.2.2.length + 1 from List.length_append]
      exact (wrap_ok (by omega) (by omega)).trans (by omega)
    show some (((), (IntKind.i64.wrap ((List.length (List.append d.2.2 [zt68]) : Int) - 1), (0 : Int), ()), (d.1, (d.2.1, d.2.2 ++ [zt68]))), G.b, ([] : List Value)) = _
    rw [e, h]

/-! ### the document's copies -/
theorem getD_at {α : Type} (l : List α) (z : α) {i : Nat} (h : i < l.length) : List.getD l (Int.toNat (i : Int)) z = l[i] := by
  rw [Int.toNat_natCast, List.getD_eq_getElem?_getD, List.getElem?_eq_getElem h]; rfl
theorem Copy_F {nf : Dt44 → Dt44} {s : Dt32} (h1 : ∀ l ∈ s.1, NB nf l.1 ∧ NB nf l.2) (h2 : ∀ c ∈ s.2.2, NB nf c.2.2.2) (n1 : s.1.length ≤ 65536) (n2 : s.2.2.length < 900000000000) :
    fulcrumref08_Copy.F (s, ()) = some (stn nf s, ()) := by
  have k7 : ∃ j, ∀ k, fulcrumref08_Copy.L7 (k + j) s.1 s.2.1 s.2.2 0 (s.1.map (lin nf)) s.2.1 [] 0 = some (stn nf s, ()) := by
    refine up (fun k (p : Nat × Dt30) => fulcrumref08_Copy.L7 k s.1 s.2.1 s.2.2 0 (s.1.map (lin nf)) s.2.1 p.2 (p.1 : Int)) _
      (fun i (t : Dt30) => t = (s.2.2.take i).map (chn nf)) s.2.2.length (fun i t hi ht => ?_) (fun t ht => ⟨1, fun k => ?_⟩) 0 [] (Nat.zero_le _) rfl
    · subst ht
      refine ⟨_, rfl, 1, fun k => ?_⟩
      show fulcrumref08_Copy.L7 (k + 1) _ _ _ _ _ _ _ _ = fulcrumref08_Copy.L7 k _ _ _ _ _ _ _ _
      rw [fulcrumref08_Copy.L7_succ]
      unfold fulcrumref08_Copy.b7
      refine yes (decide_eq_true (by omega)) (yes (by simp only [Bool.and_eq_true, decide_eq_true_eq]; omega) ?_)
      rw [getD_at s.2.2 zt70 hi]
      refine st (RBound_F (h2 _ (List.getElem_mem hi))) ?_
      refine yes (decide_eq_true (by simp only [List.length_map, List.length_take, List.length_cons, List.length_nil]; omega)) ?_
      have e : IntKind.i64.wrap ((i : Int) + 1) = ((i + 1 : Nat) : Int) := (wrap_ok (by omega) (by omega)).trans (by omega)
      have e2 : List.append ((s.2.2.take i).map (chn nf)) [chn nf s.2.2[i]] = (s.2.2.take (i + 1)).map (chn nf) := by
        rw [List.take_succ_eq_append_getElem hi, List.map_append]; rfl
      show fulcrumref08_Copy.L7 k s.1 s.2.1 s.2.2 0 (s.1.map (lin nf)) s.2.1 (List.append ((s.2.2.take i).map (chn nf)) [chn nf s.2.2[i]]) (IntKind.i64.wrap ((i : Int) + 1)) = _
      rw [e, e2]
    · subst ht
      show fulcrumref08_Copy.L7 (k + 1) _ _ _ _ _ _ _ _ = _
      rw [fulcrumref08_Copy.L7_succ]
      unfold fulcrumref08_Copy.b7
      refine no (decide_eq_false (by omega)) ?_
      rw [List.take_length]; rfl
  obtain ⟨_, -, j, hj⟩ := upTo (fun k (p : Nat × Dt29) => fulcrumref08_Copy.L3 k s.1 s.2.1 s.2.2 0 p.2 s.2.1 (p.1 : Int)) (fun k (_ : Unit) => fulcrumref08_Copy.L7 k s.1 s.2.1 s.2.2 0 (s.1.map (lin nf)) s.2.1 [] 0)
    (fun i (t : Dt29) => t = (s.1.take i).map (lin nf)) (fun _ => True) s.1.length (fun i t hi ht => by
      subst ht
      refine ⟨_, rfl, 1, fun k => ?_⟩
      show fulcrumref08_Copy.L3 (k + 1) _ _ _ _ _ _ _ = fulcrumref08_Copy.L3 k _ _ _ _ _ _ _
      rw [fulcrumref08_Copy.L3_succ]
      unfold fulcrumref08_Copy.b3
      refine yes (decide_eq_true (by omega)) (yes (by simp only [Bool.and_eq_true, decide_eq_true_eq]; omega) ?_)
      rw [getD_at s.1 zt68 hi]
      have hm := h1 _ (List.getElem_mem hi)
      refine st (RBound_F hm.1) (yes (by simp only [Bool.and_eq_true, decide_eq_true_eq]; omega) (st (RBound_F hm.2) ?_))
      refine yes (decide_eq_true (by simp only [List.length_map, List.length_take, List.length_cons, List.length_nil]; omega)) ?_
      have e : IntKind.i64.wrap ((i : Int) + 1) = ((i + 1 : Nat) : Int) := (wrap_ok (by omega) (by omega)).trans (by omega)
      have e2 : List.append ((s.1.take i).map (lin nf)) [lin nf s.1[i]] = (s.1.take (i + 1)).map (lin nf) := by
        rw [List.take_succ_eq_append_getElem hi, List.map_append]; rfl
      show fulcrumref08_Copy.L3 k s.1 s.2.1 s.2.2 0 (List.append ((s.1.take i).map (lin nf)) [lin nf s.1[i]]) s.2.1 (IntKind.i64.wrap ((i : Int) + 1)) = _
      rw [e, e2]) (fun t ht => by
      subst ht
      refine ⟨(), trivial, 1, fun k => ?_⟩
      show fulcrumref08_Copy.L3 (k + 1) _ _ _ _ _ _ _ = _
      rw [fulcrumref08_Copy.L3_succ]
      unfold fulcrumref08_Copy.b3
      refine no (decide_eq_false (by omega)) ?_
      rw [List.take_length]) 0 [] (Nat.zero_le _) rfl
  obtain ⟨i, hi⟩ := k7
  refine fulcrumref08_Copy.of (i + j) s ?_
  show fulcrumref08_Copy.L3 (i + j) s.1 s.2.1 s.2.2 0 [] s.2.1 0 = _
  exact (hj i).trans (by have := hi 0; rwa [Nat.zero_add] at this)
def growR (nf : Dt44 → Dt44) (s : Dt32) : Dt32 × Int × Int × Unit :=
  if s.1.length = 65536 then (s, 0, 2, ()) else (((stn nf s).1 ++ [zt68], (stn nf s).2), (s.1.length : Int), 0, ())
theorem RGrow_F {nf : Dt44 → Dt44} {s : Dt32} (h1 : ∀ l ∈ s.1, NB nf l.1 ∧ NB nf l.2) (h2 : ∀ c ∈ s.2.2, NB nf c.2.2.2) (n1 : s.1.length ≤ 65536) (n2 : s.2.2.length < 900000000000) :
    fulcrumref08_Grow.F (s, ()) = some (growR nf s) := by
  refine fulcrumref08_Grow.of 0 s ?_
  unfold growR
  by_cases h : s.1.length = 65536
  · rw [if_pos h]; exact yes (decide_eq_true (by omega)) rfl
  · rw [if_neg h]
    refine no (decide_eq_false (by omega)) (st (Copy_F h1 h2 n1 n2) (yes (decide_eq_true ?_) rfl))
    show ((s.1.map (lin nf)).length + 1 < 549755813888)
    rw [List.length_map]; omega
end Go.Fx.Tryz
