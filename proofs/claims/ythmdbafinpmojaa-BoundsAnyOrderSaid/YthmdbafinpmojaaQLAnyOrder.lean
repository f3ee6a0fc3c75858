/- BoundsAnyOrder, of what the walked function answers. -/
import Derived.Test.YthmdbafinpmojaaUC
namespace Go.Fx.Try
open Go Go.Fx Go.Fx.Num
set_option linter.unusedVariables false
set_option linter.unusedSimpArgs false

/-! ### the tightest of what was asserted -/
def cd (up : Bool) : Int := bif up then 1 else 0
/-- Of the ops of P that assert such a bound of variable i, the tightest one is b. -/
def Bst (up : Bool) (P : Dt50 → Prop) (i : Int) (b : AB) : Prop := match b with
  | none => ∀ o, P o → o.1 = cd up → o.2.1 ≠ i
  | some (x, _) => (∃ o, P o ∧ o.1 = cd up ∧ o.2.1 = i ∧ dv o.2.2.1 = x) ∧ ∀ o, P o → o.1 = cd up → o.2.1 = i → tb up (dv o.2.2.1) x = false
theorem tb_irrefl (up : Bool) (x : Q2) : tb up x x = false := by
  have h : dcmp x x = 0 := dcmp_eq.2 rfl
  cases up <;> exact decide_eq_false (by rw [h]; omega)
theorem tb_tri {up : Bool} {x y : Q2} (h : tb up x y = false) (g : tb up y x = false) : x = y := by
  rw [← tb_swap] at g
  cases up
  · have h1 : ¬0 < dcmp x y := of_decide_eq_false h
    have h2 : ¬dcmp x y < 0 := of_decide_eq_false g
    exact dcmp_eq.1 (by omega)
  · have h1 : ¬dcmp x y < 0 := of_decide_eq_false h
    have h2 : ¬0 < dcmp x y := of_decide_eq_false g
    exact dcmp_eq.1 (by omega)
/-- What is no tighter than y is no tighter than what is tighter than y. -/
theorem tb_le {up : Bool} {x y z : Q2} (h : tb up x y = false) (g : tb up z y = true) : tb up x z = false := by
  cases up
  · refine decide_eq_false fun hx => ?_
    have h1 : dlt z x := dcmp_gt.1 hx
    have h2 : dlt y z := dcmp_gt.1 (of_decide_eq_true g)
    exact (of_decide_eq_false h) (dcmp_gt.2 (dlt_trans h2 h1))
  · refine decide_eq_false fun hx => ?_
    have h1 : dlt x z := dcmp_lt.1 hx
    have h2 : dlt z y := dcmp_lt.1 (of_decide_eq_true g)
    exact (of_decide_eq_false h) (dcmp_lt.2 (dlt_trans h1 h2))
theorem Bst.same {up : Bool} {P Q : Dt50 → Prop} (hPQ : ∀ o, P o ↔ Q o) {i : Int} {b c : AB} (hb : Bst up P i b) (hc : Bst up Q i c) : b.map (·.1) = c.map (·.1) := by
  match b, c, hb, hc with
  | none, none, _, _ => rfl
  | none, some (y, w), hb, hc =>
    obtain ⟨⟨o, h1, h2, h3, _⟩, _⟩ := hc
    exact absurd h3 (hb o ((hPQ o).2 h1) h2)
  | some (x, u), none, hb, hc =>
    obtain ⟨⟨o, h1, h2, h3, _⟩, _⟩ := hb
    exact absurd h3 (hc o ((hPQ o).1 h1) h2)
  | some (x, u), some (y, w), hb, hc =>
    obtain ⟨⟨o, h1, h2, h3, h4⟩, h5⟩ := hb
    obtain ⟨⟨p, g1, g2, g3, g4⟩, g5⟩ := hc
    have e1 := h5 p ((hPQ p).2 g1) g2 g3
    have e2 := g5 o ((hPQ o).1 h1) h2 h3
    rw [g4] at e1
    rw [h4] at e2
    have := tb_tri e2 e1
    show some x = some y
    rw [this]
theorem Bst.iff {up : Bool} {P Q : Dt50 → Prop} (hPQ : ∀ o, P o ↔ Q o) {i : Int} {b : AB} (hb : Bst up P i b) : Bst up Q i b := by
  match b, hb with
  | none, hb => exact fun o ho => hb o ((hPQ o).2 ho)
  | some (x, u), hb =>
    obtain ⟨⟨o, h1, h⟩, h5⟩ := hb
    exact ⟨⟨o, (hPQ o).1 h1, h⟩, fun p hp => h5 p ((hPQ p).2 hp)⟩
/-- An op that asserts something else changes nothing. -/
theorem Bst.skip {up : Bool} {P : Dt50 → Prop} {i : Int} {b : AB} (hb : Bst up P i b) {o : Dt50} (h : ¬(o.1 = cd up ∧ o.2.1 = i)) : Bst up (fun q => P q ∨ q = o) i b := by
  match b, hb with
  | none, hb =>
    intro q hq h1 h2
    rcases hq with hq | rfl
    · exact hb q hq h1 h2
    · exact h ⟨h1, h2⟩
  | some (x, u), hb =>
    obtain ⟨⟨p, h1, h2⟩, h5⟩ := hb
    refine ⟨⟨p, .inl h1, h2⟩, fun q hq g1 g2 => ?_⟩
    rcases hq with hq | rfl
    · exact h5 q hq g1 g2
    · exact absurd ⟨g1, g2⟩ h
/-- One that is kept. -/
theorem Bst.keep {up : Bool} {P : Dt50 → Prop} {i : Int} {b : AB} (hb : Bst up P i b) {o : Dt50} (h : kept up b (dv o.2.2.1) = true) : Bst up (fun q => P q ∨ q = o) i b := by
  match b, hb, h with
  | some (x, u), hb, h =>
    obtain ⟨⟨p, h1, h2⟩, h5⟩ := hb
    refine ⟨⟨p, .inl h1, h2⟩, fun q hq g1 g2 => ?_⟩
    rcases hq with hq | rfl
    · exact h5 q hq g1 g2
    · have h : (!tb up (dv q.2.2.1) x) = true := h
      simpa using h
/-- One that moves the bound. -/
theorem Bst.move {up : Bool} {P : Dt50 → Prop} {i : Int} {b : AB} (hb : Bst up P i b) {o : Dt50} (h1 : o.1 = cd up) (h2 : o.2.1 = i) (h : ¬kept up b (dv o.2.2.1) = true) (w : Int) : Bst up (fun q => P q ∨ q = o) i (some (dv o.2.2.1, w)) := by
  refine ⟨⟨o, .inr rfl, h1, h2, rfl⟩, fun q hq g1 g2 => ?_⟩
  rcases hq with hq | rfl
  · match b, hb, h with
    | none, hb, _ => exact absurd g2 (hb q hq g1)
    | some (x, u), hb, h =>
      have h3 : tb up (dv o.2.2.1) x = true := by
        have h : ¬(!tb up (dv o.2.2.1) x) = true := h
        simpa using h
      exact tb_le (hb.2 q hq g1 g2) h3
  · exact tb_irrefl _ _
/-- Each bound of a store is the tightest one of P. -/
def Best (P : Dt50 → Prop) (m : M) : Prop := ∀ (i : Nat) (l : AL), m.limits[i]? = some l → ∀ up, Bst up P i (own up l)
theorem best_skip {P : Dt50 → Prop} {m : M} (h : Best P m) {o : Dt50} (ho : ∀ up (i : Nat), i < m.limits.length → ¬(o.1 = cd up ∧ o.2.1 = (i : Int))) : Best (fun q => P q ∨ q = o) m := fun i l hl up =>
  (h i l hl up).skip (ho up i (List.getElem?_eq_some_iff.1 hl).1)
theorem own_put (up : Bool) (l : AL) (b : AB) : own up (put up l b) = b := by cases up <;> rfl
theorem own_put_ne {up vp : Bool} (h : vp ≠ up) (l : AL) (b : AB) : own vp (put up l b) = own vp l := by
  cases up <;> cases vp <;> first | rfl | exact absurd rfl h
theorem best_asrt {P : Dt50 → Prop} {m : M} (h : Best P m) (up : Bool) {o : Dt50} (ho : o.1 = cd up) (hk : (asrt up m o.2.1 (dv o.2.2.1) o.2.2.2.1).2.1.1 ≠ 2) : Best (fun q => P q ∨ q = o) (asrt up m o.2.1 (dv o.2.2.1) o.2.2.2.1).1 := by
  have other : ∀ (vp : Bool) (i : Nat), vp ≠ up ∨ o.2.1 ≠ (i : Int) → ¬(o.1 = cd vp ∧ o.2.1 = (i : Int)) := by
    rintro vp i (g | g) ⟨g1, g2⟩
    · rw [ho] at g1
      cases up <;> cases vp <;> first | exact g rfl | exact absurd g1 (by decide)
    · exact g g2
  unfold asrt at hk ⊢
  split
  · rename_i hv
    rw [if_pos hv] at hk
    dsimp only at hk ⊢
    have hi : o.2.1.toNat < m.limits.length := by omega
    have hg : m.limits.getD o.2.1.toNat (none, none) = m.limits[o.2.1.toNat] := by rw [List.getD_eq_getElem?_getD, List.getElem?_eq_getElem hi]; rfl
    have hl0 := List.getElem?_eq_getElem hi
    rw [hg] at hk ⊢
    generalize m.limits[o.2.1.toNat] = l0 at hk hl0 ⊢
    have hvi : ((o.2.1.toNat : Nat) : Int) = o.2.1 := by omega
    by_cases h1 : kept up (own up l0) (dv o.2.2.1) = true
    · rw [if_pos h1]
      intro i l hl vp
      by_cases g : vp = up ∧ o.2.1 = (i : Int)
      · obtain ⟨rfl, g⟩ := g
        have : i = o.2.1.toNat := by omega
        subst this
        rw [hl0] at hl
        obtain rfl := Option.some.inj hl
        exact (h _ _ hl0 vp).keep h1
      · exact (h i l hl vp).skip (other vp i (by
          by_cases e : vp = up
          · exact .inr fun e2 => g ⟨e, e2⟩
          · exact .inl e))
    · rw [if_neg h1] at hk ⊢
      by_cases h2 : clash up (oth up l0) (dv o.2.2.1) = true
      · rw [if_pos h2] at hk; exact absurd rfl hk
      · rw [if_neg h2]
        intro i l hl vp
        by_cases e : i = o.2.1.toNat
        · subst e
          have hl : (m.limits.set o.2.1.toNat (put up l0 (some (dv o.2.2.1, o.2.2.2.1))))[o.2.1.toNat]? = some l := hl
          rw [List.getElem?_set_self hi] at hl
          obtain rfl := Option.some.inj hl
          by_cases e2 : vp = up
          · subst e2
            rw [own_put]
            exact (h _ _ hl0 vp).move ho hvi.symm h1 _
          · rw [own_put_ne e2]
            exact (h _ _ hl0 vp).skip (other vp _ (.inl e2))
        · have hl : (m.limits.set o.2.1.toNat (put up l0 (some (dv o.2.2.1, o.2.2.2.1))))[i]? = some l := hl
          rw [List.getElem?_set_ne (by omega)] at hl
          exact (h i l hl vp).skip (other vp i (.inr (by omega)))
  · rename_i hv
    exact best_skip h fun vp i hi g => hv (by omega)

/-! ### asserting what an op says -/
def asM (m : M) (o : Dt50) : M × Int :=
  if o.1 = 0 then ((asrt false m o.2.1 (dv o.2.2.1) o.2.2.2.1).1, (asrt false m o.2.1 (dv o.2.2.1) o.2.2.2.1).2.1.1)
  else if o.1 = 1 then ((asrt true m o.2.1 (dv o.2.2.1) o.2.2.2.1).1, (asrt true m o.2.1 (dv o.2.2.1) o.2.2.2.1).2.1.1) else (m, 0)
theorem assert_F {m : M} {K : Nat} (h : m.ok K) (hK : K < 900000000000) {o : Dt50} (ho : OkO o) : fulcrumlaw08_assert.F (mS m) (o, ()) = some ((), ((asM m o).2, ()), mS (asM m o).1) := by
  refine fulcrumlaw08_assert.of (mS m) o _ fun G => ⟨0, ?_⟩
  unfold fulcrumlaw08_assert.e asM
  by_cases h0 : o.1 = 0
  · rw [if_pos h0]
    exact yes (by rw [h0]; rfl) (st (Lift_F h (by omega) o.2.1 ho.at' o.2.2.2.1) rfl)
  rw [if_neg h0]
  refine no (beq_ne h0) ?_
  by_cases h1 : o.1 = 1
  · rw [if_pos h1]
    exact yes (by rw [h1]; rfl) (st (Press_F h (by omega) o.2.1 ho.at' o.2.2.2.1) rfl)
  rw [if_neg h1]
  exact no (beq_ne h1) rfl
theorem asM_ok {m : M} {K : Nat} (h : m.ok K) {o : Dt50} (ho : OkO o) : (asM m o).1.ok (K + 1) := by
  unfold asM
  split
  · exact asrt_ok h _ _ ho.at'.norm _
  split
  · exact asrt_ok h _ _ ho.at'.norm _
  · exact h.mono (Nat.le_succ _)
theorem asrt_len (up : Bool) (m : M) (v : Int) (x : Q2) (w : Int) : (asrt up m v x w).1.limits.length = m.limits.length := by
  unfold asrt
  split
  · dsimp only
    split
    · rfl
    · split
      · rfl
      · exact List.length_set
  · rfl
theorem asM_len (m : M) (o : Dt50) : (asM m o).1.limits.length = m.limits.length := by
  unfold asM
  split
  · exact asrt_len ..
  split
  · exact asrt_len ..
  · rfl
theorem asM_best {P : Dt50 → Prop} {m : M} (h : Best P m) {o : Dt50} (hk : (asM m o).2 ≠ 2) : Best (fun q => P q ∨ q = o) (asM m o).1 := by
  unfold asM at hk ⊢
  by_cases h0 : o.1 = 0
  · rw [if_pos h0] at hk ⊢
    exact best_asrt h false h0 hk
  rw [if_neg h0] at hk ⊢
  by_cases h1 : o.1 = 1
  · rw [if_pos h1] at hk ⊢
    exact best_asrt h true h1 hk
  rw [if_neg h1]
  exact best_skip h fun up i _ g => by cases up; exact h0 g.1; exact h1 g.1
end Go.Fx.Try

namespace Go.Fx.Try
open Go Go.Fx Go.Fx.Num
set_option linter.unusedVariables false
set_option linter.unusedSimpArgs false

noncomputable def LA (k : Nat) (n : Int) (l : Dt38) (a b : M) (c : Bool) (i : Int) : Option (Bool × Unit) :=
  fulcrumlaw08_BoundsAnyOrder.L9 k n l a.level (a.changes.map cI) true (a.limits.map lI) b.level (b.changes.map cI) true (b.limits.map lI) c i
noncomputable def LV (k : Nat) (n : Int) (l : Dt38) (a : M) (one two : Dt26) (v : Int) : Option (Bool × Unit) :=
  fulcrumlaw08_BoundsAnyOrder.L19 k n l a.level (a.changes.map cI) true (a.limits.map lI) one two v
structure Junk where
  j1 : Bool
  j2 : Bool
  j3 : Bool
  j4 : Dt47
  j5 : Dt47
  j6 : Bool
  j7 : Bool
noncomputable def LO (k : Nat) (n : Int) (l : Dt38) (a : M) (one two : Dt26) (v : Int) (p : Dt55) (i : Int) (j : Junk) : Option (Bool × Unit) :=
  fulcrumlaw08_BoundsAnyOrder.L27 k n l a.level (a.changes.map cI) true (a.limits.map lI) one two v p.1.1 p.1.2.1.1.1.1 p.1.2.1.1.1.2 p.1.2.1.1.2 p.1.2.1.2.1.1 p.1.2.1.2.1.2 p.1.2.1.2.2 p.1.2.2
    p.2.1 p.2.2.1.1.1.1 p.2.2.1.1.1.2 p.2.2.1.1.2 p.2.2.1.2.1.1 p.2.2.1.2.1.2 p.2.2.1.2.2 p.2.2.2 i j.j1 j.j2 j.j3 j.j4.1.1.1 j.j4.1.1.2 j.j4.1.2 j.j4.2.1.1 j.j4.2.1.2 j.j4.2.2 j.j5.1.1.1 j.j5.1.1.2 j.j5.1.2 j.j5.2.1.1 j.j5.2.1.2 j.j5.2.2 j.j6 j.j7
theorem bne_of {a b : Int} (h : a ≠ b) : (a != b) = true := bne_iff_ne.2 h
theorem LO_round (k : Nat) (n : Int) (l : Dt38) (a : M) (one two : Dt26) (v : Int) (p : AL) (bp : Bk p.1 ∧ Bk p.2) (i : Nat) (hi : i < l.length) (hl : l.length < 900000000000) (ho : OkO l[i]) (j : Junk)
    (h1 : Bst false (· ∈ l) v p.1) (h2 : Bst true (· ∈ l) v p.2) : LO (k + 1) n l a one two v (lI p) i j = LO k n l a one two v (lI p) ((i + 1 : Nat) : Int) j := by
  have hend : LO k n l a one two v (lI p) (IntKind.i64.wrap ((i : Int) + 1)) j = LO k n l a one two v (lI p) ((i + 1 : Nat) : Int) j := by
    rw [(wrap_ok (by omega) (by omega)).trans (show (i : Int) + 1 = ((i + 1 : Nat) : Int) by omega)]
  have hv1 : decide ((i : Int) < (l.length : Int)) = true := decide_eq_true (by omega)
  have hin : (decide (0 ≤ (i : Int)) && decide ((i : Int) < (l.length : Int))) = true := by simp <;> omega
  have hm : l[i] ∈ l := List.getElem_mem hi
  unfold LO at hend ⊢
  rw [fulcrumlaw08_BoundsAnyOrder.L27_succ]
  unfold fulcrumlaw08_BoundsAnyOrder.b27
  rw [getD_at l zt50 hi]
  refine yes hv1 (yes hin ?_)
  generalize l[i] = o at ho hm
  by_cases hv : o.2.1 = v
  · refine no (bne_eq_false_iff_eq.2 hv) (yes hin ?_)
    by_cases h0 : o.1 = 0
    · have h01 : (o.1 == (1 : Int)) = false := beq_ne (by omega)
      refine yes (by rw [h0]; rfl) ?_
      obtain ⟨lo, hi⟩ := p
      rcases lo with _ | ⟨x, u⟩
      · exact absurd hv (h1 o hm h0)
      · have hC := Dn.rCmp_F (bp.1 x u rfl) ho.at' (by decide)
        have ht : decide (0 < dcmp (dv o.2.2.1) x) = false := h1.2 o hm h0 hv
        have hlt : decide (dcmp x (dv o.2.2.1) < 0) = false := by rw [decide_eq_decide.2 (dcmp_swap x (dv o.2.2.1)).1]; exact ht
        exact no rfl (yes hin (st hC (no hlt (yes hin (no h01 hend)))))
    · refine no (beq_ne h0) (yes hin ?_)
      by_cases h3 : o.1 = 1
      · refine yes (by rw [h3]; rfl) ?_
        obtain ⟨lo, hi⟩ := p
        rcases hi with _ | ⟨y, t⟩
        · exact absurd hv (h2 o hm h3)
        · have hC := Dn.rCmp_F (bp.2 y t rfl) ho.at' (by decide)
          have ht : decide (dcmp (dv o.2.2.1) y < 0) = false := h2.2 o hm h3 hv
          have hgt : decide (dcmp y (dv o.2.2.1) > 0) = false := by
            refine decide_eq_false fun g => ?_
            exact (of_decide_eq_false ht) ((dcmp_swap y (dv o.2.2.1)).2.1 g)
          exact no rfl (yes hin (st hC (no hgt hend)))
      · exact no (beq_ne h3) hend
  · exact yes (bne_of hv) hend
theorem LO_last (k : Nat) (n : Int) (l : Dt38) (a : M) (one two : Dt26) (v : Nat) (hv : v < 70000) (p : Dt55) (j : Junk) : LO (k + 1) n l a one two v p (l.length : Int) j = LV k n l a one two ((v + 1 : Nat) : Int) := by
  unfold LO LV
  rw [fulcrumlaw08_BoundsAnyOrder.L27_succ]
  unfold fulcrumlaw08_BoundsAnyOrder.b27
  refine no (decide_eq_false (by omega)) ?_
  rw [(wrap_ok (by omega) (by omega)).trans (show (v : Int) + 1 = ((v + 1 : Nat) : Int) by omega)]
theorem LO_all (n : Int) (l : Dt38) (hl : l.length < 900000000000) (ho : ∀ o ∈ l, OkO o) (a : M) (one two : Dt26) (v : Nat) (hv : v < 70000) (p : AL) (bp : Bk p.1 ∧ Bk p.2) (h1 : Bst false (· ∈ l) (v : Int) p.1) (h2 : Bst true (· ∈ l) (v : Int) p.2) (j : Junk) :
    ∃ q, ∀ k, LO (k + q) n l a one two v (lI p) 0 j = LV k n l a one two ((v + 1 : Nat) : Int) := by
  obtain ⟨_, -, q, hq⟩ := upTo (fun k (s : Nat × Unit) => LO k n l a one two v (lI p) (s.1 : Int) j) (fun k (_ : Unit) => LV k n l a one two ((v + 1 : Nat) : Int)) (fun _ _ => True) (fun _ => True) l.length
    (fun i _ hi _ => ⟨(), trivial, 1, fun k => LO_round k n l a one two v p bp i hi hl (ho _ (List.getElem_mem hi)) j h1 h2⟩)
    (fun _ _ => ⟨(), trivial, 1, fun k => LO_last k n l a one two v hv (lI p) j⟩) 0 () (Nat.zero_le _) trivial
  exact ⟨q, hq⟩
theorem bI_has (b : AB) : (bI b).1 = b.isSome := by cases b <;> rfl
theorem bI_at {b c : AB} (h : b.map (·.1) = c.map (·.1)) : (bI b).2.1 = (bI c).2.1 := by
  match b, c, h with
  | none, none, _ => rfl
  | none, some (y, w), h => cases h
  | some (x, u), none, h => cases h
  | some (x, u), some (y, w), h =>
    have h : some x = some y := h
    cases h; rfl
theorem has_eq {b c : AB} (h : b.map (·.1) = c.map (·.1)) : (bI b).1 = (bI c).1 := by
  rw [bI_has, bI_has]
  have := congrArg Option.isSome h
  simpa using this
theorem getD_mapI' {ls : List AL} {i : Nat} (h : i < ls.length) : List.getD (ls.map lI) (Int.toNat (i : Int)) zt55 = lI ls[i] := by
  rw [getD_at (ls.map lI) zt55 (by rw [List.length_map]; exact h)]
  exact List.getElem_map ..
theorem LV_round (n : Nat) (hn : n ≤ 65536) (l : Dt38) (hl : l.length < 900000000000) (ho : ∀ o ∈ l, OkO o) (a : M) (one two : List AL) (l1 : one.length = n) (l2 : two.length = n) (b1 : ∀ p ∈ one, Bk p.1 ∧ Bk p.2)
    (B1 : ∀ (i : Nat) p, one[i]? = some p → ∀ up, Bst up (· ∈ l) (i : Int) (own up p)) (B2 : ∀ (i : Nat) p, two[i]? = some p → ∀ up, Bst up (· ∈ l) (i : Int) (own up p)) (v : Nat) (hv : v < n) :
    ∃ q, ∀ k, LV (k + q) n l a (one.map lI) (two.map lI) v = LV k n l a (one.map lI) (two.map lI) ((v + 1 : Nat) : Int) := by
  have bp := b1 _ (List.getElem_mem (show v < one.length by omega))
  have hB1 := B1 v _ (List.getElem?_eq_getElem (show v < one.length by omega))
  have hB2 := B2 v _ (List.getElem?_eq_getElem (show v < two.length by omega))
  have g1 : List.getD (one.map lI) (Int.toNat (v : Int)) zt55 = lI one[v] := getD_mapI' (by omega)
  have g2 : List.getD (two.map lI) (Int.toNat (v : Int)) zt55 = lI two[v] := getD_mapI' (by omega)
  have i1 : (decide (0 ≤ (v : Int)) && decide ((v : Int) < ((one.map lI).length : Int))) = true := by rw [List.length_map]; simp <;> omega
  have i2 : (decide (0 ≤ (v : Int)) && decide ((v : Int) < ((two.map lI).length : Int))) = true := by rw [List.length_map]; simp <;> omega
  generalize one[v] = p at bp hB1 g1
  generalize two[v] = r at hB2 g2
  have e1 : p.1.map (·.1) = r.1.map (·.1) := (hB1 false).same (fun _ => Iff.rfl) (hB2 false)
  have e2 : p.2.map (·.1) = r.2.map (·.1) := (hB1 true).same (fun _ => Iff.rfl) (hB2 true)
  obtain ⟨x, hx⟩ := at_dn bp.1
  obtain ⟨y, hy⟩ := at_dn bp.2
  have s1 := (SameDelta_F hx (bI r.1).2.1 (by decide)).trans (congrArg some (congrArg (·, ()) (decide_eq_true (bI_at e1))))
  have s2 := (SameDelta_F hy (bI r.2).2.1 (by decide)).trans (congrArg some (congrArg (·, ()) (decide_eq_true (bI_at e2))))
  have f1 : (!((bI p.1).1 == (bI r.1).1)) = false := by rw [has_eq e1, beq_self_eq_true]; rfl
  have f2 : (!((bI p.2).1 == (bI r.2).1)) = false := by rw [has_eq e2, beq_self_eq_true]; rfl
  obtain ⟨q, hq⟩ := LO_all n l hl ho a (one.map lI) (two.map lI) v (by omega) p bp (hB1 false) (hB1 true) ⟨(bI p.2).1, (bI r.2).1, (!((bI p.2).1 == (bI r.2).1)), (bI p.2).2.1, (bI r.2).2.1, true, false⟩
  refine ⟨q + 1, fun k => ?_⟩
  refine Eq.trans ?_ (hq k)
  show LV (k + q + 1) _ _ _ _ _ _ = _
  unfold LV
  rw [fulcrumlaw08_BoundsAnyOrder.L19_succ]
  unfold fulcrumlaw08_BoundsAnyOrder.b19
  rw [g1, g2]
  exact yes (decide_eq_true (by omega)) (yes i1 (yes i2 (no f1 (no f2 (st s1 (no rfl (st s2 (no rfl rfl))))))))
theorem LV_all (n : Nat) (hn : n ≤ 65536) (l : Dt38) (hl : l.length < 900000000000) (ho : ∀ o ∈ l, OkO o) (a : M) (la : a.limits.length = n) (one two : List AL) (l1 : one.length = n) (l2 : two.length = n) (b1 : ∀ p ∈ one, Bk p.1 ∧ Bk p.2)
    (B1 : ∀ (i : Nat) p, one[i]? = some p → ∀ up, Bst up (· ∈ l) (i : Int) (own up p)) (B2 : ∀ (i : Nat) p, two[i]? = some p → ∀ up, Bst up (· ∈ l) (i : Int) (own up p)) :
    ∃ q, ∀ k, LV (k + q) n l a (one.map lI) (two.map lI) 0 = some (true, ()) := by
  refine Num.up (fun k (s : Nat × Unit) => LV k n l a (one.map lI) (two.map lI) (s.1 : Int)) _ (fun _ _ => True) n (fun v _ hv _ => ?_) (fun _ _ => ⟨1, fun k => ?_⟩) 0 () (Nat.zero_le _) trivial
  · obtain ⟨q, hq⟩ := LV_round n hn l hl ho a one two l1 l2 b1 B1 B2 v hv
    exact ⟨(), trivial, q, hq⟩
  · show LV (k + 1) _ _ _ _ _ _ = _
    unfold LV
    rw [fulcrumlaw08_BoundsAnyOrder.L19_succ]
    unfold fulcrumlaw08_BoundsAnyOrder.b19
    refine no (decide_eq_false (by omega)) (st (VarsM_F a) ?_)
    rw [la]
    show some (((n : Int) == (n : Int)), ()) = _
    rw [beq_self_eq_true]

/-! ### forwards and backwards -/
structure InvA (l : Dt38) (n : Nat) (i : Nat) (a b : M) (c : Bool) : Prop where
  oka : a.ok i
  okb : b.ok i
  la : a.limits.length = n
  lb : b.limits.length = n
  ba : c = false → Best (fun o => o ∈ l.take i) a
  bb : c = false → Best (fun o => o ∈ l.drop (l.length - i)) b
theorem best_iff {P Q : Dt50 → Prop} (h : ∀ o, P o ↔ Q o) {m : M} (hb : Best P m) : Best Q m := fun i l hl up => (hb i l hl up).iff h
theorem LA_round (k : Nat) (n : Nat) (l : Dt38) (hl : l.length < 900000000000) (ho : ∀ o ∈ l, OkO o) (a b : M) (c : Bool) (i : Nat) (hi : i < l.length) (h : InvA l n i a b c) :
    ∃ a' b' c', InvA l n (i + 1) a' b' c' ∧ ∀ k, LA (k + 1) n l a b c i = LA k n l a' b' c' ((i + 1 : Nat) : Int) := by
  have hj : l.length - 1 - i < l.length := by omega
  have o1 := ho _ (List.getElem_mem hi)
  have o2 := ho _ (List.getElem_mem hj)
  have t1 : ∀ o, (o ∈ l.take i ∨ o = l[i]) ↔ o ∈ l.take (i + 1) := by
    intro o
    rw [List.take_succ_eq_append_getElem hi, List.mem_append, List.mem_singleton]
  have t2 : ∀ o, (o ∈ l.drop (l.length - i) ∨ o = l[l.length - 1 - i]) ↔ o ∈ l.drop (l.length - (i + 1)) := by
    intro o
    have e : l.drop (l.length - (i + 1)) = l[l.length - 1 - i] :: l.drop (l.length - i) := by
      have e1 : l.length - (i + 1) = l.length - 1 - i := by omega
      have e2 : l.length - 1 - i + 1 = l.length - i := by omega
      rw [e1, List.drop_eq_getElem_cons hj, e2]
    rw [e, List.mem_cons, or_comm]
  have fa := assert_F h.oka (by omega) o1
  have fb := assert_F h.okb (by omega) o2
  refine ⟨(asM a l[i]).1, (asM b l[l.length - 1 - i]).1, c || ((asM a l[i]).2 == 2 || (asM b l[l.length - 1 - i]).2 == 2), ⟨asM_ok h.oka o1, asM_ok h.okb o2, by rw [asM_len]; exact h.la, by rw [asM_len]; exact h.lb, fun hc => ?_, fun hc => ?_⟩, fun k => ?_⟩
  · simp only [Bool.or_eq_false_iff] at hc
    exact best_iff t1 (asM_best (h.ba hc.1) (fun e => by rw [e] at hc; exact absurd hc.2.1 (by decide)))
  · simp only [Bool.or_eq_false_iff] at hc
    exact best_iff t2 (asM_best (h.bb hc.1) (fun e => by rw [e] at hc; exact absurd hc.2.2 (by decide)))
  · have hv5 : IntKind.i64.wrap (IntKind.i64.wrap ((l.length : Int) - 1) - i) = ((l.length - 1 - i : Nat) : Int) := by
      rw [(wrap_ok (by omega) (by omega) : IntKind.i64.wrap ((l.length : Int) - 1) = _), wrap_ok (by omega) (by omega)]
      omega
    have e : ((i + 1 : Nat) : Int) = IntKind.i64.wrap ((i : Int) + 1) := ((wrap_ok (by omega) (by omega)).trans (by omega)).symm
    have in1 : (decide (0 ≤ (i : Int)) && decide ((i : Int) < (l.length : Int))) = true := by simp <;> omega
    have in2 : (decide (0 ≤ ((l.length - 1 - i : Nat) : Int)) && decide (((l.length - 1 - i : Nat) : Int) < (l.length : Int))) = true := by simp <;> omega
    rw [e]
    unfold LA
    rw [fulcrumlaw08_BoundsAnyOrder.L9_succ]
    unfold fulcrumlaw08_BoundsAnyOrder.b9
    simp only [hv5]
    rw [getD_at l zt50 hi, getD_at l zt50 hj]
    refine yes (decide_eq_true (by omega)) (yes in1 (st fa (yes in2 (st fb ?_))))
    cases c with
    | true => exact yes rfl rfl
    | false =>
      refine no rfl ?_
      cases hk : (asM a l[i]).2 == 2 with
      | true => exact yes rfl rfl
      | false => exact no rfl rfl
theorem newM_best (n : Nat) (P : Dt50 → Prop) (hP : ∀ o, ¬P o) : Best P (newM n) := by
  intro i l hl up
  have hl : (List.replicate n ((none, none) : AL))[i]? = some l := hl
  have : l = (none, none) := List.eq_of_mem_replicate (List.mem_of_getElem? hl)
  subst this
  cases up <;> exact fun o h => absurd h (hP o)
theorem order_core (v : Int) (l : Dt38) (ho : ∀ o ∈ l, OkO o) (hl : l.length < 890000000000) : fulcrumlaw08_BoundsAnyOrder.F (v, l, ()) = some (true, ()) := by
  have key : ∀ n : Nat, n ≤ 65536 → ∃ j, ∀ k, LA (k + j) n l (newM n) (newM n) false 0 = some (true, ()) := by
    intro n hn
    refine Num.up (fun k (s : Nat × (M × M × Bool)) => LA k n l s.2.1 s.2.2.1 s.2.2.2 (s.1 : Int)) _ (fun i s => InvA l n i s.1 s.2.1 s.2.2) l.length (fun i s hi hs => ?_) (fun s hs => ?_) 0 (newM n, newM n, false) (Nat.zero_le _) ?_
    · obtain ⟨a', b', c', h1, h2⟩ := LA_round 0 n l (by omega) ho s.1 s.2.1 s.2.2 i hi hs
      exact ⟨(a', b', c'), h1, 1, h2⟩
    · obtain ⟨a, b, c⟩ := s
      obtain ⟨oka, okb, la, lb, ba, bb⟩ := hs
      cases c with
      | true =>
        refine ⟨1, fun k => ?_⟩
        show LA (k + 1) _ _ _ _ _ _ = _
        unfold LA
        rw [fulcrumlaw08_BoundsAnyOrder.L9_succ]
        unfold fulcrumlaw08_BoundsAnyOrder.b9
        exact no (decide_eq_false (by omega)) (yes rfl rfl)
      | false =>
        have B1 := best_iff (Q := (· ∈ l)) (fun o => by rw [List.take_length]) (ba rfl)
        have B2 := best_iff (Q := (· ∈ l)) (fun o => by rw [Nat.sub_self, List.drop_zero]) (bb rfl)
        obtain ⟨q, hq⟩ := LV_all n hn l (by omega) ho a la a.limits b.limits la lb oka.lims B1 B2
        refine ⟨q + 1, fun k => ?_⟩
        show LA (k + q + 1) _ _ _ _ _ _ = _
        unfold LA
        rw [fulcrumlaw08_BoundsAnyOrder.L9_succ]
        unfold fulcrumlaw08_BoundsAnyOrder.b9
        have L1 := limits_F oka (n := n) (by omega)
        have L2 := limits_F okb (n := n) (by omega)
        rw [← la, List.take_length, la] at L1
        rw [← lb, List.take_length, lb] at L2
        exact no (decide_eq_false (by omega)) (no rfl (st L1 (st L2 (hq k))))
    · have hok := newM_ok hn
      have hlen : (newM n).limits.length = n := List.length_replicate
      have e1 : ∀ o, ¬ o ∈ l.take 0 := fun o h => by cases h
      have e2 : ∀ o, ¬ o ∈ l.drop (l.length - 0) := fun o h => by
        rw [Nat.sub_zero, List.drop_length] at h
        cases h
      exact ⟨hok, hok, hlen, hlen, fun _ => newM_best n _ e1, fun _ => newM_best n _ e2⟩
  have made : ∀ n : Nat, n ≤ 65536 → bounds_New.F () ((n : Int), ()) = some (some (mS (newM n)), (0, ()), ()) := by
    intro n hn
    rw [New_F, if_pos (by omega), Int.toNat_natCast, mkStore_I]
  by_cases h1 : v < 0
  · obtain ⟨j, hj⟩ := key 2 (by decide)
    have hm := made 2 (by decide)
    exact fulcrumlaw08_BoundsAnyOrder.of (0 + j) v l (yes (decide_eq_true h1) (st hm (st hm (no rfl (no rfl (hj 0))))))
  by_cases h2 : v > 65536
  · obtain ⟨j, hj⟩ := key 2 (by decide)
    have hm := made 2 (by decide)
    exact fulcrumlaw08_BoundsAnyOrder.of (0 + j) v l (no (decide_eq_false h1) (yes (decide_eq_true h2) (st hm (st hm (no rfl (no rfl (hj 0)))))))
  · obtain ⟨j, hj⟩ := key v.toNat (by omega)
    have hm := made v.toNat (by omega)
    have hj := hj 0
    rw [Int.toNat_of_nonneg (by omega)] at hm hj
    exact fulcrumlaw08_BoundsAnyOrder.of (0 + j) v l (no (decide_eq_false h1) (no (decide_eq_false h2) (st hm (st hm (no rfl (no rfl hj))))))
theorem boundsAnyOrder_true (v : Int) (l : Dt38) (wv : K.wf (.int .i64) v) (wl : K.wf Kt38 l) (fv : K.fits Go.Proofs.Try.prog.bytesOf 140737488351232 (.int .i64) v) (fl : K.fits Go.Proofs.Try.prog.bytesOf 140737488351232 Kt38 l) :
    fulcrumlaw08_BoundsAnyOrder.F (v, l, ()) = some (true, ()) := by
  have h := ops_of wl fl
  exact order_core v l h.1 (by omega)
end Go.Fx.Try
