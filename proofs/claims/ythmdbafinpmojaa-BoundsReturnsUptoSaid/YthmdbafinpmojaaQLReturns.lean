/- BoundsReturns, of what the walked function answers. -/
import Derived.Test.YthmdbafinpmojaaUC
namespace Go.Fx.Try
open Go Go.Fx Go.Fx.Num
set_option linter.unusedVariables false
set_option linter.unusedSimpArgs false

/-! ### calls above a level, and back -/
def Keeps (L : Int) (w : List AL) (m : M) : Prop := L < m.level ∧ ((undo L m.changes.reverse m.limits).2).take w.length = w ∧ w.length ≤ m.limits.length
theorem put_put (up : Bool) (l : AL) (a b : AB) : put up (put up l a) b = put up l b := by cases up <;> rfl
theorem put_own (up : Bool) (l : AL) : put up l (own up l) = l := by cases up <;> rfl
theorem set_getD_self (ls : List AL) {i : Nat} (h : i < ls.length) : ls.set i (ls.getD i (none, none)) = ls := by
  rw [List.getD_eq_getElem?_getD, List.getElem?_eq_getElem h]
  exact List.set_getElem_self h
theorem getD_set_self (ls : List AL) (a : AL) {i : Nat} (h : i < ls.length) : (ls.set i a).getD i (none, none) = a := by
  rw [List.getD_eq_getElem?_getD, List.getElem?_set_self h]; rfl
theorem undo_len (k : Int) : ∀ (r : List AC) (ls : List AL), (undo k r ls).2.length = ls.length
  | [], ls => rfl
  | c :: r, ls => by
    by_cases hk : c.2.2.1 ≤ k
    · rw [undo_le hk]
    · rw [undo_gt hk, undo_len k r, List.length_set]
theorem undo_append (k : Int) (z : AL) : ∀ (r : List AC) (ls : List AL), (∀ c ∈ r, c.1.toNat < ls.length) → undo k r (ls ++ [z]) = ((undo k r ls).1, (undo k r ls).2 ++ [z])
  | [], ls, _ => rfl
  | c :: r, ls, h => by
    by_cases hk : c.2.2.1 ≤ k
    · rw [undo_le hk, undo_le hk]
    · have hc := h c (List.mem_cons_self ..)
      have e : (ls ++ [z]).getD c.1.toNat (none, none) = ls.getD c.1.toNat (none, none) := by
        rw [List.getD_eq_getElem?_getD, List.getD_eq_getElem?_getD, List.getElem?_append_left hc]
      rw [undo_gt hk, undo_gt hk, e, List.set_append_left _ _ hc]
      exact undo_append k z r _ fun d hd => by rw [List.length_set]; exact h d (List.mem_cons_of_mem _ hd)
theorem keeps_asrt {L : Int} {w : List AL} {m : M} (h : Keeps L w m) (up : Bool) (v : Int) (x : Q2) (y : Int) : Keeps L w (asrt up m v x y).1 := by
  unfold asrt
  split
  · rename_i hv
    dsimp only
    split
    · exact h
    · split
      · exact h
      · obtain ⟨h1, h2, h3⟩ := h
        refine ⟨h1, ?_, by show _ ≤ (List.set _ _ _).length; rw [List.length_set]; exact h3⟩
        have hi : v.toNat < m.limits.length := by omega
        show ((undo L (m.changes ++ [(v, up, m.level, own up (m.limits.getD v.toNat (none, none)))]).reverse (m.limits.set v.toNat (put up (m.limits.getD v.toNat (none, none)) (some (x, y))))).2).take w.length = w
        rw [List.reverse_append]
        show ((undo L ((v, up, m.level, own up (m.limits.getD v.toNat (none, none))) :: m.changes.reverse) _).2).take w.length = w
        rw [undo_gt (show ¬m.level ≤ L by omega)]
        dsimp only
        rw [getD_set_self _ _ hi, List.set_set, put_put, put_own, set_getD_self _ hi]
        exact h2
  · exact h
theorem keeps_push {L : Int} {w : List AL} {m : M} (h : Keeps L w m) : Keeps L w (pushM m) := ⟨by have := h.1; show L < m.level + 1; omega, h.2⟩
theorem keeps_grow {L : Int} {w : List AL} {m : M} {K : Nat} (ok : m.ok K) (h : Keeps L w m) : Keeps L w (growM m).1 := by
  unfold growM
  split
  · exact h
  · obtain ⟨h1, h2, h3⟩ := h
    refine ⟨h1, ?_, by show w.length ≤ (m.limits ++ [(none, none)]).length; rw [List.length_append]; omega⟩
    show ((undo L m.changes.reverse (m.limits ++ [(none, none)])).2).take w.length = w
    rw [undo_append L _ _ _ fun c hc => by have := ok.chg c (List.mem_reverse.1 hc); omega]
    dsimp only
    rw [List.take_append_of_le_length (by rw [undo_len]; exact h3)]
    exact h2
theorem keeps_back {L : Int} {w : List AL} {m : M} (h : Keeps L w m) {k : Int} (hk : L < k) : Keeps L w (backM m k).1 := by
  unfold backM
  split
  · exact h
  · obtain ⟨h1, h2, h3⟩ := h
    refine ⟨hk, ?_, by show _ ≤ (undo k _ _).2.length; rw [undo_len]; exact h3⟩
    show ((undo L ((undo k m.changes.reverse m.limits).1.reverse).reverse (undo k m.changes.reverse m.limits).2).2).take w.length = w
    rw [List.reverse_reverse, undo_undo (by omega)]
    exact h2
def moreM (L : Int) (m : M) (o : Dt50) : M :=
  if o.1 = 0 then (asrt false m o.2.1 (dv o.2.2.1) o.2.2.2.1).1
  else if o.1 = 1 then (asrt true m o.2.1 (dv o.2.2.1) o.2.2.2.1).1
  else if o.1 = 2 then pushM m
  else if o.1 = 4 then (growM m).1
  else if o.1 = 3 then (if o.2.2.2.1 > L then (backM m o.2.2.2.1).1 else m)
  else m
theorem more_ok {L : Int} {m : M} {K : Nat} (h : m.ok K) {o : Dt50} (ho : OkO o) : (moreM L m o).ok (K + 1) := by
  unfold moreM
  split
  · exact asrt_ok h _ _ ho.at'.norm _
  split
  · exact asrt_ok h _ _ ho.at'.norm _
  split
  · exact push_ok h
  split
  · exact (grow_ok h).mono (Nat.le_succ _)
  split
  · split
    · exact (back_ok h _).mono (Nat.le_succ _)
    · exact h.mono (Nat.le_succ _)
  · exact h.mono (Nat.le_succ _)
theorem more_keeps {L : Int} {w : List AL} {m : M} {K : Nat} (ok : m.ok K) (h : Keeps L w m) (o : Dt50) : Keeps L w (moreM L m o) := by
  unfold moreM
  split
  · exact keeps_asrt h _ _ _ _
  split
  · exact keeps_asrt h _ _ _ _
  split
  · exact keeps_push h
  split
  · exact keeps_grow ok h
  split
  · split
    · exact keeps_back h (by assumption)
    · exact h
  · exact h
/-- One round of the law's loop. -/
theorem more_step {L : Int} {m : M} {K : Nat} (h : m.ok K) (hK : K < 900000000000) {l : Dt38} {i : Nat} (hi : i < l.length) (hl : l.length < 900000000000) (ho : OkO l[i]) (n : Int) (w : Dt26) (k : Nat) :
    fulcrumlaw08_BoundsReturns.L13 (k + 1) l m.level (m.changes.map cI) true (m.limits.map lI) L n w (i : Int) =
      fulcrumlaw08_BoundsReturns.L13 k l (moreM L m l[i]).level ((moreM L m l[i]).changes.map cI) true ((moreM L m l[i]).limits.map lI) L n w ((i + 1 : Nat) : Int) := by
  rw [fulcrumlaw08_BoundsReturns.L13_succ]
  unfold fulcrumlaw08_BoundsReturns.b13
  have e : ((i + 1 : Nat) : Int) = IntKind.i64.wrap ((i : Int) + 1) := ((wrap_ok (by omega) (by omega)).trans (by omega)).symm
  refine yes (decide_eq_true (by omega)) (yes (by simp only [Bool.and_eq_true, decide_eq_true_eq]; omega) ?_)
  rw [getD_at l zt50 hi]
  unfold moreM
  rw [e]
  by_cases h0 : l[i].1 = 0
  · rw [if_pos h0]
    exact yes (by rw [h0]; rfl) (st (Lift_F h (by omega) l[i].2.1 ho.at' l[i].2.2.2.1) rfl)
  rw [if_neg h0]
  refine no (beq_ne h0) ?_
  by_cases h1 : l[i].1 = 1
  · rw [if_pos h1]
    exact yes (by rw [h1]; rfl) (st (Press_F h (by omega) l[i].2.1 ho.at' l[i].2.2.2.1) rfl)
  rw [if_neg h1]
  refine no (beq_ne h1) ?_
  by_cases h2 : l[i].1 = 2
  · rw [if_pos h2]
    exact yes (by rw [h2]; rfl) (st (Push_F h (by omega)) rfl)
  rw [if_neg h2]
  refine no (beq_ne h2) ?_
  by_cases h4 : l[i].1 = 4
  · rw [if_pos h4]
    exact yes (by rw [h4]; rfl) (st (GrowM_F h) rfl)
  rw [if_neg h4]
  refine no (beq_ne h4) ?_
  by_cases h3 : l[i].1 = 3
  · rw [if_pos h3]
    refine yes (by rw [h3]; rfl) ?_
    by_cases h5 : l[i].2.2.2.1 > L
    · rw [if_pos h5]
      exact yes (decide_eq_true h5) (st (Back_F h hK l[i].2.2.2.1) rfl)
    · rw [if_neg h5]
      exact no (decide_eq_false h5) rfl
  rw [if_neg h3]
  exact no (beq_ne h3) rfl
theorem undo_same {m : M} (h : Lv m) : (undo m.level m.changes.reverse m.limits).2 = m.limits := by rw [undo_stop h]
/-- From Push on. -/
theorem returns_loop {m : M} {K : Nat} (h : m.ok K) (lv : Lv m) {l : Dt38} (ho : ∀ o ∈ l, OkO o) (hK : K + l.length < 800000000000) :
    ∃ j, ∀ k, fulcrumlaw08_BoundsReturns.L13 (k + j) l (pushM m).level ((pushM m).changes.map cI) true ((pushM m).limits.map lI) m.level (m.limits.length : Int) (m.limits.map lI) 0 = some (true, ()) := by
  refine Num.up (fun k (p : Nat × M) => fulcrumlaw08_BoundsReturns.L13 k l p.2.level (p.2.changes.map cI) true (p.2.limits.map lI) m.level (m.limits.length : Int) (m.limits.map lI) (p.1 : Int)) _
    (fun i s => s.ok (K + 1 + i) ∧ Keeps m.level m.limits s) l.length (fun i s hi hs => ?_) (fun s hs => ⟨1, fun k => ?_⟩) 0 (pushM m) (Nat.zero_le _)
    ⟨push_ok h, ⟨by show m.level < m.level + 1; omega, by show ((undo m.level m.changes.reverse m.limits).2).take _ = _; rw [undo_same lv, List.take_length], Nat.le_refl _⟩⟩
  · exact ⟨moreM m.level s l[i], ⟨more_ok hs.1 (ho _ (List.getElem_mem hi)), more_keeps hs.1 hs.2 _⟩, 1, fun k => more_step hs.1 (by omega) hi (by omega) (ho _ (List.getElem_mem hi)) _ _ k⟩
  · obtain ⟨ok, k1, k2, k3⟩ := hs
    show fulcrumlaw08_BoundsReturns.L13 (k + 1) _ _ _ _ _ _ _ _ _ = _
    rw [fulcrumlaw08_BoundsReturns.L13_succ]
    unfold fulcrumlaw08_BoundsReturns.b13
    refine no (decide_eq_false (by omega)) ?_
    have hB := Back_F ok (by omega) m.level
    have hb : backM s m.level = (⟨m.level, (undo m.level s.changes.reverse s.limits).1.reverse, (undo m.level s.changes.reverse s.limits).2⟩, 0) := by
      unfold backM
      have := h.lev
      rw [if_neg (by omega)]
    have okb := back_ok ok m.level
    rw [hb] at hB okb
    refine st hB (yes rfl (st (LevelM_F _) (yes (beq_self_eq_true _) ?_)))
    have hlen : m.limits.length ≤ (undo m.level s.changes.reverse s.limits).2.length := by rw [undo_len]; exact k3
    refine st (limits_F okb (n := m.limits.length) hlen) ?_
    dsimp only
    rw [k2]
    exact st (sameLimits_F h.lims h.nl) rfl
theorem play_len : ∀ (os : List Dt50) (m : M), m.limits.length ≤ (playM m os).limits.length := by
  have key : ∀ (m : M) (o : Dt50), m.limits.length ≤ (moveM m o).limits.length := by
    intro m o
    have ha : ∀ up v x w, (asrt up m v x w).1.limits.length = m.limits.length := by
      intro up v x w
      unfold asrt
      split
      · dsimp only
        split
        · rfl
        · split
          · rfl
          · exact List.length_set
      · rfl
    unfold moveM
    split
    · rw [ha]; exact Nat.le_refl _
    split
    · rw [ha]; exact Nat.le_refl _
    split
    · exact Nat.le_refl _
    split
    · unfold backM
      split
      · exact Nat.le_refl _
      · show _ ≤ (undo _ _ _).2.length
        rw [undo_len]; exact Nat.le_refl _
    split
    · unfold growM
      split
      · exact Nat.le_refl _
      · show _ ≤ (m.limits ++ [_]).length
        rw [List.length_append]; omega
    · exact Nat.le_refl _
  intro os
  induction os with
  | nil => intro m; exact Nat.le_refl _
  | cons o os ih => intro m; exact Nat.le_trans (key m o) (ih (moveM m o))
theorem returns_core (x : Dt60) (l : Dt38) (hx : ∀ o ∈ x.2, OkO o) (ho : ∀ o ∈ l, OkO o) (hn : x.2.length + l.length < 800000000000) : fulcrumlaw08_BoundsReturns.F (x, l, ()) = some (true, ()) := by
  have key : ∀ v : Int, 0 ≤ v ∧ v ≤ 65536 → ∃ j, ∀ q : Option (Bool × Unit), (∀ m : M, m = playM (newM v.toNat) x.2 → fulcrumlaw08_played.F () ((v, x.2), ()) = some (some (mS m), (mR m, ()), ()) → m.ok (0 + x.2.length) → (v : Int) ≤ m.limits.length →
      (∀ k, fulcrumlaw08_BoundsReturns.L13 (k + j) l (pushM m).level ((pushM m).changes.map cI) true ((pushM m).limits.map lI) m.level (m.limits.length : Int) (m.limits.map lI) 0 = some (true, ())) → q = some (true, ())) → q = some (true, ()) := by
    intro v hv
    have ok := play_ok (newM_ok (n := v.toNat) (by omega)) (os := x.2) hx
    have lv := play_lv (os := x.2) (newM_lv v.toNat)
    obtain ⟨j, hj⟩ := returns_loop ok lv ho (by omega)
    refine ⟨j, fun q hq => hq _ rfl (played_F (x := (v, x.2)) hv hx (by show x.2.length < _; omega)) ok ?_ hj⟩
    have := play_len x.2 (newM v.toNat)
    have e : (newM v.toNat).limits.length = v.toNat := List.length_replicate
    omega
  have tail : ∀ (v : Int) (m : M) (k : Nat), m.ok (0 + x.2.length) → v ≤ (m.limits.length : Int) →
      fulcrumlaw08_BoundsReturns.L13 k l (pushM m).level ((pushM m).changes.map cI) true ((pushM m).limits.map lI) m.level (m.limits.length : Int) (m.limits.map lI) 0 = some (true, ()) →
      ((bounds_Store_Level.F (mS m) ()).bind fun y4 => (bounds_Store_Vars.F y4.2.2 ()).bind fun y5 => (fulcrumlaw08_limits.F y5.2.2 (y5.2.1.1, ())).bind fun y6 => (bounds_Store_Push.F y6.2.2 ()).bind fun y7 => (bounds_Store_Level.F y7.2.2 ()).bind fun y8 =>
        bif (y8.2.1.1 != IntKind.i64.wrap (y4.2.1.1 + (1 : Int))) then some (false, ()) else bif decide (y5.2.1.1 < v) then some (false, ()) else
          fulcrumlaw08_BoundsReturns.L13 k l y8.2.2.1.1 y8.2.2.1.2 y8.2.2.2.1 y8.2.2.2.2 y4.2.1.1 y5.2.1.1 y6.2.1.1 (0 : Int)) = some (true, ()) := by
    intro v m k ok hv hj
    have hlev := ok.lev
    refine st (LevelM_F m) (st (VarsM_F m) (st (limits_F ok (Nat.le_refl _)) (st (Push_F ok (by omega)) (st (LevelM_F (pushM m)) ?_))))
    have e : IntKind.i64.wrap (m.level + 1) = m.level + 1 := wrap_ok (by omega) (by omega)
    refine no (bne_eq_false_iff_eq.2 e.symm) (no (decide_eq_false (by show ¬ (m.limits.length : Int) < v; omega)) ?_)
    dsimp only
    rw [List.take_length]
    exact hj
  by_cases h1 : x.1 < 0
  · obtain ⟨j, hj⟩ := key 2 (by decide)
    refine fulcrumlaw08_BoundsReturns.of (0 + j) x l (hj _ fun m _ hp ok hv hl => yes (decide_eq_true h1) (st hp (tail 2 m (0 + j) ok hv (hl 0))))
  by_cases h2 : x.1 > 65536
  · obtain ⟨j, hj⟩ := key 2 (by decide)
    refine fulcrumlaw08_BoundsReturns.of (0 + j) x l (hj _ fun m _ hp ok hv hl => no (decide_eq_false h1) (yes (decide_eq_true h2) (st hp (tail 2 m (0 + j) ok hv (hl 0)))))
  · obtain ⟨j, hj⟩ := key x.1 (by omega)
    refine fulcrumlaw08_BoundsReturns.of (0 + j) x l (hj _ fun m _ hp ok hv hl => no (decide_eq_false h1) (no (decide_eq_false h2) (st hp (tail x.1 m (0 + j) ok hv (hl 0)))))
theorem boundsReturns_true (x : Dt60) (l : Dt38) (wx : K.wf Kt60 x) (wl : K.wf Kt38 l) (bx : K.bulk Kt60 x ≤ 1048576) (bl : K.bulk Kt38 l ≤ 1048576) : fulcrumlaw08_BoundsReturns.F (x, l, ()) = some (true, ()) := by
  have hb : 1 + K.bulk Kt38 x.2 ≤ 1048576 := bx
  have h1 := ops_ofB wx.2 (by omega)
  have h2 := ops_ofB wl bl
  exact returns_core x l h1.1 h2.1 (by omega)
end Go.Fx.Try
