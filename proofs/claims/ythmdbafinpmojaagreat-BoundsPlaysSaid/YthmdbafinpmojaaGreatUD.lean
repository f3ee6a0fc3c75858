/- The laws' own helpers: are bounds the same, what Limit tells of the first variables; the ops of a law's argument. -/
import Derived.Test.YthmdbafinpmojaaGreatUC
import Derived.Test.YthmdbafinpmojaaGreatEv31
namespace Go.Fx.Tryz
open Go Go.Fx Go.Fx.Num
set_option linter.unusedVariables false
set_option linter.unusedSimpArgs false

/-! ### alike -/
theorem rt_zero : Rt zt42 0 SZ where
  num := ⟨limbs_of (fun x hx => by cases hx), rfl, Nat.zero_le _⟩
  den := ⟨limbs_of (fun x hx => by cases hx), rfl, Nat.zero_le _⟩
  val := by show Rat.divInt (wv (false, [])) (Num.val []) = 0; rw [show Num.val [] = 0 from rfl, Rat.divInt_zero]
  pos := by decide
theorem dn_zero : Dn zt44 (0, 0) SZ := ⟨rt_zero, rt_zero⟩
theorem at_dn {b : AB} (h : Bk b) : ∃ x, Dn (bI b).2.1 x SZ := by
  match b, h with
  | none, _ => exact ⟨(0, 0), dn_zero⟩
  | some (x, w), h => exact ⟨x, h x w rfl⟩
theorem bI_inj {a b : AB} (h : bI a = bI b) : a = b := by
  match a, b, h with
  | none, none, _ => rfl
  | none, some (y, w), h => exact absurd (congrArg Prod.fst h) (by simp [bI])
  | some (x, u), none, h => exact absurd (congrArg Prod.fst h) (by simp [bI])
  | some (x, u), some (y, w), h =>
    have h1 : dcan x = dcan y := congrArg (fun z => z.2.1) h
    have h2 : u = w := congrArg (fun z => z.2.2) h
    rw [dcan_inj h1, h2]
theorem sameBound_F {a : AB} (ha : Bk a) (c : Dt66) : fulcrumlaw08_sameBound.F (bI a, c, ()) = some (decide (bI a = c), ()) := by
  obtain ⟨x, hx⟩ := at_dn ha
  refine fulcrumlaw08_sameBound.of 0 _ _ ?_
  unfold fulcrumlaw08_sameBound.e
  by_cases h1 : (bI a).1 = c.1
  · refine yes (by rw [h1]; exact beq_self_eq_true _) ?_
    by_cases h2 : (bI a).2.2 = c.2.2
    · refine yes (by rw [h2]; exact beq_self_eq_true _) (st (SameDelta_F hx c.2.1 (by decide)) ?_)
      by_cases h3 : (bI a).2.1 = c.2.1
      · rw [decide_eq_true h3, decide_eq_true (Prod.ext h1 (Prod.ext h3 h2))]
      · rw [decide_eq_false h3, decide_eq_false fun h => h3 (congrArg (fun z => z.2.1) h)]
    · refine no (beq_ne h2) ?_
      rw [decide_eq_false fun h => h2 (congrArg (fun z => z.2.2) h)]
  · refine no (beq_eq_false_iff_ne.2 h1) ?_
    rw [decide_eq_false fun h => h1 (congrArg Prod.fst h)]
theorem sameLimit_F {a : AL} (ha : Bk a.1 ∧ Bk a.2) (c : Dt68) : fulcrumlaw08_sameLimit.F (lI a, c, ()) = some (decide (bI a.1 = c.1) && decide (bI a.2 = c.2), ()) := by
  refine fulcrumlaw08_sameLimit.of 0 _ _ (st (sameBound_F ha.1 c.1) ?_)
  by_cases h1 : bI a.1 = c.1
  · refine yes (decide_eq_true h1) (st (sameBound_F ha.2 c.2) ?_)
    rw [decide_eq_true h1, Bool.true_and]
  · refine no (decide_eq_false h1) ?_
    rw [decide_eq_false h1, Bool.false_and]
/-! ### a law's arguments -/
theorem b115 : Go.Proofs.Tryz.prog.bytesOf 114 = 4 := by kernel_rfl
theorem b50 : Go.Proofs.Tryz.prog.bytesOf 47 = 160 := by kernel_rfl
theorem nat_of {a : Dt38} (w : K.wf Kt38 a) (f : K.fits Go.Proofs.Tryz.prog.bytesOf 140737488351232 Kt38 a) : Nm a (Num.val a) SZ := by
  refine ⟨limbs_of fun x hx => w x hx, rfl, ?_⟩
  have := f.1
  rw [b115] at this
  show List.length (α := Int) a ≤ 35184372087808
  have h2 : List.length (α := Int) a * 4 ≤ 140737488351232 := this
  omega
theorem rt_of {r : Dt42} (w : K.wf Kt42 r) (f : K.fits Go.Proofs.Tryz.prog.bytesOf 140737488351232 Kt42 r) : Rt r (rv r) SZ where
  num := by
    have := nat_of w.1.2 f.1.2
    exact ⟨this.limbs, rfl, this.len⟩
  den := nat_of w.2 f.2
  val := rfl
  pos := by decide
theorem dn_of {d : Dt44} (w : K.wf Kt44 d) (f : K.fits Go.Proofs.Tryz.prog.bytesOf 140737488351232 Kt44 d) : Dn d (dv d) SZ := ⟨rt_of w.1 f.1, rt_of w.2 f.2⟩
theorem op_of {o : Dt47} (w : K.wf Kt47 o) (f : K.fits Go.Proofs.Tryz.prog.bytesOf 140737488351232 Kt47 o) : OkO o := ⟨dn_of w.2.2.1 f.2.2.1⟩
theorem ops_of {l : Dt22} (w : K.wf Kt22 l) (f : K.fits Go.Proofs.Tryz.prog.bytesOf 140737488351232 Kt22 l) : (∀ o ∈ l, OkO o) ∧ l.length ≤ 879609302195 := by
  refine ⟨fun o ho => op_of (w o ho) (f.2 o ho), ?_⟩
  have := f.1
  rw [b50] at this
  have h2 : List.length (α := Dt47) l * 160 ≤ 140737488351232 := this
  omega

/-! ### a law's arguments of bounded bulk -/
end Go.Fx.Tryz
