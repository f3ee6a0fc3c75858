/- BoundsNobody, of what the walked function answers. -/
import Derived.Test.YthmdbafinpmojaaW08
import Derived.Test.YthmdbafinpmojaaQA
import Derived.Test.YthmdbafinpmojaaEv31
namespace Go.Fx.Try
open Go Go.Fx Go.Fx.Num
set_option linter.unusedVariables false
set_option linter.unusedSimpArgs false

theorem is_F (d : Dt75) : bounds_Store_is.F d () = some ((), (d.2.1, ()), d) := bounds_Store_is.of d _ fun G => ⟨0, rfl⟩
theorem is_N : bounds_Store_is_nil.F () () = some ((), (false, ()), ()) := bounds_Store_is_nil.of () _ fun G => ⟨0, rfl⟩
theorem wrong_off {d : Dt75} (h : d.2.1 = false) (v : Int) : bounds_Store_wrong.F d (v, ()) = some ((), (1, ()), d) :=
  bounds_Store_wrong.of d v _ fun G => ⟨0, st (is_F d) (yes (by show (!d.2.1) = true; rw [h]; rfl) rfl)⟩
theorem wrong_N (v : Int) : bounds_Store_wrong_nil.F () (v, ()) = some ((), (1, ()), ()) :=
  bounds_Store_wrong_nil.of () v _ fun G => ⟨0, st (is_N) (yes rfl rfl)⟩
theorem Limit_off {d : Dt75} (h : d.2.1 = false) (v : Int) : bounds_Store_Limit.F d (v, ()) = some ((), (zt55, 1, ()), d) :=
  bounds_Store_Limit.of d v _ fun G => ⟨0, st (wrong_off h v) (yes rfl rfl)⟩
theorem Limit_N (v : Int) : bounds_Store_Limit_nil.F () (v, ()) = some ((), (zt55, 1, ()), ()) :=
  bounds_Store_Limit_nil.of () v _ fun G => ⟨0, st (wrong_N v) (yes rfl rfl)⟩
theorem Lift_off {d : Dt75} (h : d.2.1 = false) (v : Int) (a : Dt47) (w : Int) : bounds_Store_Lift.F d (v, a, w, ()) = some ((), (zt64, 1, ()), d) :=
  bounds_Store_Lift.of d v a w _ fun G => ⟨0, st (wrong_off h v) (yes rfl rfl)⟩
theorem Lift_N (v : Int) (a : Dt47) (w : Int) : bounds_Store_Lift_nil.F () (v, a, w, ()) = some ((), (zt64, 1, ()), ()) :=
  bounds_Store_Lift_nil.of () v a w _ fun G => ⟨0, st (wrong_N v) (yes rfl rfl)⟩
theorem Press_off {d : Dt75} (h : d.2.1 = false) (v : Int) (a : Dt47) (w : Int) : bounds_Store_Press.F d (v, a, w, ()) = some ((), (zt64, 1, ()), d) :=
  bounds_Store_Press.of d v a w _ fun G => ⟨0, st (wrong_off h v) (yes rfl rfl)⟩
theorem Press_N (v : Int) (a : Dt47) (w : Int) : bounds_Store_Press_nil.F () (v, a, w, ()) = some ((), (zt64, 1, ()), ()) :=
  bounds_Store_Press_nil.of () v a w _ fun G => ⟨0, st (wrong_N v) (yes rfl rfl)⟩
theorem Fixed_off {d : Dt75} (h : d.2.1 = false) (v : Int) : bounds_Store_Fixed.F d (v, ()) = some ((), (false, 1, ()), d) :=
  bounds_Store_Fixed.of d v _ fun G => ⟨0, st (wrong_off h v) (yes rfl rfl)⟩
theorem Fixed_N (v : Int) : bounds_Store_Fixed_nil.F () (v, ()) = some ((), (false, 1, ()), ()) :=
  bounds_Store_Fixed_nil.of () v _ fun G => ⟨0, st (wrong_N v) (yes rfl rfl)⟩
theorem Inside_off {d : Dt75} (h : d.2.1 = false) (v : Int) (a : Dt47) : bounds_Store_Inside.F d (v, a, ()) = some ((), (false, 1, ()), d) :=
  bounds_Store_Inside.of d v a _ fun G => ⟨0, st (wrong_off h v) (yes rfl rfl)⟩
theorem Inside_N (v : Int) (a : Dt47) : bounds_Store_Inside_nil.F () (v, a, ()) = some ((), (false, 1, ()), ()) :=
  bounds_Store_Inside_nil.of () v a _ fun G => ⟨0, st (wrong_N v) (yes rfl rfl)⟩
theorem Push_off {d : Dt75} (h : d.2.1 = false)  : bounds_Store_Push.F d () = some ((), (), d) :=
  bounds_Store_Push.of d  _ fun G => ⟨0, st (is_F d) (no (by show d.2.1 = false; exact h) rfl)⟩
theorem Push_N  : bounds_Store_Push_nil.F () () = some ((), (), ()) :=
  bounds_Store_Push_nil.of ()  _ fun G => ⟨0, st (is_N) (no rfl rfl)⟩
theorem Grow_off {d : Dt75} (h : d.2.1 = false)  : bounds_Store_Grow.F d () = some ((), (0, 1, ()), d) :=
  bounds_Store_Grow.of d  _ fun G => ⟨0, st (is_F d) (yes (by show (!d.2.1) = true; rw [h]; rfl) rfl)⟩
theorem Grow_N  : bounds_Store_Grow_nil.F () () = some ((), (0, 1, ()), ()) :=
  bounds_Store_Grow_nil.of ()  _ fun G => ⟨0, st (is_N) (yes rfl rfl)⟩
theorem Back_off {d : Dt75} (h : d.2.1 = false) (v : Int) : bounds_Store_Back.F d (v, ()) = some ((), (1, ()), d) :=
  bounds_Store_Back.of d v _ fun G => ⟨0, st (is_F d) (yes (by show (!d.2.1) = true; rw [h]; rfl) rfl)⟩
theorem Back_N (v : Int) : bounds_Store_Back_nil.F () (v, ()) = some ((), (1, ()), ()) :=
  bounds_Store_Back_nil.of () v _ fun G => ⟨0, st (is_N) (yes rfl rfl)⟩
theorem Vars_off {d : Dt75} (h : d.2.1 = false)  : bounds_Store_Vars.F d () = some ((), (0, ()), d) :=
  bounds_Store_Vars.of d  _ fun G => ⟨0, st (is_F d) (yes (by show (!d.2.1) = true; rw [h]; rfl) rfl)⟩
theorem Vars_N  : bounds_Store_Vars_nil.F () () = some ((), (0, ()), ()) :=
  bounds_Store_Vars_nil.of ()  _ fun G => ⟨0, st (is_N) (yes rfl rfl)⟩
theorem Level_off {d : Dt75} (h : d.2.1 = false)  : bounds_Store_Level.F d () = some ((), (0, ()), d) :=
  bounds_Store_Level.of d  _ fun G => ⟨0, st (is_F d) (yes (by show (!d.2.1) = true; rw [h]; rfl) rfl)⟩
theorem Level_N  : bounds_Store_Level_nil.F () () = some ((), (0, ()), ()) :=
  bounds_Store_Level_nil.of ()  _ fun G => ⟨0, st (is_N) (yes rfl rfl)⟩
theorem Fits_off {d : Dt75} (h : d.2.1 = false) (l : Dt48) : bounds_Store_Fits.F d (l, ()) = some ((), (-1, ()), d) :=
  bounds_Store_Fits.of d l _ fun G => ⟨0, st (is_F d) (yes (by show (!d.2.1) = true; rw [h]; rfl) rfl)⟩
theorem Fits_N (l : Dt48) : bounds_Store_Fits_nil.F () (l, ()) = some ((), (-1, ()), ()) :=
  bounds_Store_Fits_nil.of () l _ fun G => ⟨0, st (is_N) (yes rfl rfl)⟩
theorem State_off {d : Dt75} (h : d.2.1 = false)  : bounds_Store_State.F d () = some ((), (zt29, ()), d) :=
  bounds_Store_State.of d  _ fun G => ⟨0, st (is_F d) (yes (by show (!d.2.1) = true; rw [h]; rfl) rfl)⟩
theorem State_N  : bounds_Store_State_nil.F () () = some ((), (zt29, ()), ()) :=
  bounds_Store_State_nil.of ()  _ fun G => ⟨0, st (is_N) (yes rfl rfl)⟩

theorem same0 : fulcrumlaw08_sameState.F (zt29, zt29, ()) = some (true, ()) := by
  refine fulcrumlaw08_sameState.of 2 zt29 zt29 ?_
  unfold fulcrumlaw08_sameState.e
  refine no rfl (no rfl (no rfl ?_))
  show fulcrumlaw08_sameState.L4 (1 + 1) _ _ _ _ _ _ _ = _
  rw [fulcrumlaw08_sameState.L4_succ]
  unfold fulcrumlaw08_sameState.b4
  refine no rfl ?_
  show fulcrumlaw08_sameState.L10 (0 + 1) _ _ _ _ _ _ _ = _
  rw [fulcrumlaw08_sameState.L10_succ]
  unfold fulcrumlaw08_sameState.b10
  exact no rfl rfl
theorem boundsNobody_true (a : Dt50) (w : K.wf Kt50 a) (f : K.fits Go.Proofs.Try.prog.bytesOf 140737488351232 Kt50 a) : fulcrumlaw08_BoundsNobody.F (a, ()) = some (true, ()) := by
  have r0 : ∀ k, fulcrumlaw08_BoundsNobody.L3 (k + 1) a.1 a.2.1 a.2.2.1.1.1.1 a.2.2.1.1.1.2 a.2.2.1.1.2 a.2.2.1.2.1.1 a.2.2.1.2.1.2 a.2.2.1.2.2 a.2.2.2.1 a.2.2.2.2 0 = fulcrumlaw08_BoundsNobody.L3 k a.1 a.2.1 a.2.2.1.1.1.1 a.2.2.1.1.1.2 a.2.2.1.1.2 a.2.2.1.2.1.1 a.2.2.1.2.1.2 a.2.2.1.2.2 a.2.2.2.1 a.2.2.2.2 1 := by
    intro k
    rw [fulcrumlaw08_BoundsNobody.L3_succ]
    unfold fulcrumlaw08_BoundsNobody.b3
    exact yes rfl (no rfl (st (Push_N  ) (st (Grow_N  ) (st (Limit_N  a.2.1) (st (Lift_N  a.2.1 (((a.2.2.1.1.1.1, a.2.2.1.1.1.2), a.2.2.1.1.2), ((a.2.2.1.2.1.1, a.2.2.1.2.1.2), a.2.2.1.2.2)) a.2.2.2.1) (st (Press_N  a.2.1 (((a.2.2.1.1.1.1, a.2.2.1.1.1.2), a.2.2.1.1.2), ((a.2.2.1.2.1.1, a.2.2.1.2.1.2), a.2.2.1.2.2)) a.2.2.2.1) (st (Fixed_N  a.2.1) (st (Inside_N  a.2.1 (((a.2.2.1.1.1.1, a.2.2.1.1.1.2), a.2.2.1.1.2), ((a.2.2.1.2.1.1, a.2.2.1.2.1.2), a.2.2.1.2.2))) (no rfl (no rfl (no rfl (no rfl (no rfl (no rfl (no rfl (no rfl (st (Back_N  a.2.2.2.1) (no rfl (st (Vars_N  ) (no rfl (st (Level_N  ) (no rfl (st (Fits_N  zt48) (no rfl (st (State_N  ) (st same0 (no rfl rfl)))))))))))))))))))))))))))
  have r1 : ∀ k, fulcrumlaw08_BoundsNobody.L3 (k + 1) a.1 a.2.1 a.2.2.1.1.1.1 a.2.2.1.1.1.2 a.2.2.1.1.2 a.2.2.1.2.1.1 a.2.2.1.2.1.2 a.2.2.1.2.2 a.2.2.2.1 a.2.2.2.2 1 = fulcrumlaw08_BoundsNobody.L3 k a.1 a.2.1 a.2.2.1.1.1.1 a.2.2.1.1.1.2 a.2.2.1.1.2 a.2.2.1.2.1.1 a.2.2.1.2.1.2 a.2.2.1.2.2 a.2.2.2.1 a.2.2.2.2 2 := by
    intro k
    rw [fulcrumlaw08_BoundsNobody.L3_succ]
    unfold fulcrumlaw08_BoundsNobody.b3
    exact yes rfl (yes rfl (st (Push_off (d := zt75) rfl ) (st (Grow_off (d := zt75) rfl ) (st (Limit_off (d := zt75) rfl a.2.1) (st (Lift_off (d := zt75) rfl a.2.1 (((a.2.2.1.1.1.1, a.2.2.1.1.1.2), a.2.2.1.1.2), ((a.2.2.1.2.1.1, a.2.2.1.2.1.2), a.2.2.1.2.2)) a.2.2.2.1) (st (Press_off (d := zt75) rfl a.2.1 (((a.2.2.1.1.1.1, a.2.2.1.1.1.2), a.2.2.1.1.2), ((a.2.2.1.2.1.1, a.2.2.1.2.1.2), a.2.2.1.2.2)) a.2.2.2.1) (st (Fixed_off (d := zt75) rfl a.2.1) (st (Inside_off (d := zt75) rfl a.2.1 (((a.2.2.1.1.1.1, a.2.2.1.1.1.2), a.2.2.1.1.2), ((a.2.2.1.2.1.1, a.2.2.1.2.1.2), a.2.2.1.2.2))) (no rfl (no rfl (no rfl (no rfl (no rfl (no rfl (no rfl (no rfl (st (Back_off (d := zt75) rfl a.2.2.2.1) (no rfl (st (Vars_off (d := zt75) rfl ) (no rfl (st (Level_off (d := zt75) rfl ) (no rfl (st (Fits_off (d := zt75) rfl zt48) (no rfl (st (State_off (d := zt75) rfl ) (st same0 (no rfl rfl)))))))))))))))))))))))))))
  refine fulcrumlaw08_BoundsNobody.of 3 a ?_
  refine (r0 2).trans ((r1 1).trans ?_)
  rw [fulcrumlaw08_BoundsNobody.L3_succ]
  unfold fulcrumlaw08_BoundsNobody.b3
  exact no rfl rfl
end Go.Fx.Try
