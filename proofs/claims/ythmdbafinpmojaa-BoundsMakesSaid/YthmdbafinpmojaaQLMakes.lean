/- BoundsMakes, of what the walked function answers. -/
import Derived.Test.YthmdbafinpmojaaQ0
namespace Go.Fx.Try
open Go Go.Fx Go.Fx.Num
set_option linter.unusedVariables false
set_option linter.unusedSimpArgs false

theorem boundsMakes_true (a : Int) (h : (Lit.int .i64 a).wf = true) : fulcrumlaw08_BoundsMakes.F (a, ()) = some (true, ()) := by
  refine fulcrumlaw08_BoundsMakes.of 0 a (st (New_F a) ?_)
  by_cases hr : 0 ≤ a ∧ a ≤ 65536
  · rw [if_pos hr]
    refine st (RNew_F a) ?_
    rw [if_pos hr]
    refine no rfl (no rfl (no rfl ?_))
    have hl : (mkStore a.toNat).2.2.length = a.toNat := List.length_replicate
    have hm : (mkState a.toNat).1.length = a.toNat := List.length_replicate
    refine st (Grow_F (d := mkStore a.toNat) rfl (by omega)) (st (RGrow_F (nf := id) (s := mkState a.toNat) ?_ ?_ (by omega) (by show 0 < _; omega)) ?_)
    · intro l hl
      have := List.eq_of_mem_replicate hl
      subst this
      exact ⟨fun h => (by cases h), fun h => (by cases h)⟩
    · intro c hc; cases hc
    · unfold growS growR
      rw [hl, hm]
      by_cases h6 : a.toNat = 65536
      · rw [if_pos h6, if_pos h6]
        refine yes (by simp) (yes (by simp) (st (Vars_F (d := mkStore a.toNat) rfl) (yes ?_ (st (Level_F (d := mkStore a.toNat) rfl) rfl))))
        show (((mkStore a.toNat).2.2.length : Int) == ((mkState a.toNat).1.length : Int)) = true
        rw [hl, hm]; simp
      · rw [if_neg h6, if_neg h6]
        refine yes (by simp) (yes (by simp) (st (Vars_F (d := ((mkStore a.toNat).1, (true, (mkStore a.toNat).2.2 ++ [zt55]))) rfl) (yes ?_ (st (Level_F (d := ((mkStore a.toNat).1, (true, (mkStore a.toNat).2.2 ++ [zt55]))) rfl) rfl))))
        show ((((mkStore a.toNat).2.2 ++ [zt55]).length : Int) == (((mkState a.toNat).1.map (lin id) ++ [zt55]).length : Int)) = true
        rw [List.length_append, List.length_append, List.length_map, hl, hm]; simp
  · rw [if_neg hr]
    refine st (RNew_F a) ?_
    rw [if_neg hr]
    exact no rfl (no rfl (yes rfl rfl))
end Go.Fx.Try
