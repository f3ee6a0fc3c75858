/- What a store tells of itself: State, Fixed, Inside, Fits; the document's answers are the same. -/
import Derived.Test.YthmdbafinpmojaaGreatUC
namespace Go.Fx.Tryz
open Go Go.Fx Go.Fx.Num
set_option linter.unusedVariables false
set_option linter.unusedSimpArgs false
theorem copiedChange_F {c : AC} (h : Bk c.2.2.2) : bounds_copiedChange.F (cI c, ()) = some (cI c, ()) := bounds_copiedChange.of 0 _ (st (copied_F h) rfl)
theorem getD_lI {ls : List AL} {i : Nat} (h : i < ls.length) : List.getD (ls.map lI) (Int.toNat (i : Int)) zt68 = lI ls[i] := by
  rw [getD_at (ls.map lI) zt68 (by rw [List.length_map]; exact h)]
  exact List.getElem_map ..
theorem getD_cI {cs : List AC} {i : Nat} (h : i < cs.length) : List.getD (cs.map cI) (Int.toNat (i : Int)) zt70 = cI cs[i] := by
  rw [getD_at (cs.map cI) zt70 (by rw [List.length_map]; exact h)]
  exact List.getElem_map ..
theorem in_I {α β : Type} {f : α → β} {l : List α} {i : Nat} (h : i < l.length) : (decide (0 ≤ (i : Int)) && decide ((i : Int) < ((l.map f).length : Int))) = true := by rw [List.length_map]; simp <;> omega
theorem State_F {m : M} {K : Nat} (h : m.ok K) (hK : K < 900000000000) : bounds_Store_State.F (mS m) () = some ((), (mR m, ()), mS m) := by
  have hnl := h.nl
  have hnc := h.nc
  refine bounds_Store_State.of (mS m) _ fun G => ?_
  obtain ⟨j, hj⟩ := Num.up (fun k (p : Nat × Dt30) => bounds_Store_State.L10 k G.b m.level true (m.limits.map lI) 0 (m.limits.map lI) m.level p.2 (m.changes.map cI) ((m.changes.map cI).length : Int) (p.1 : Int)) (((), (mR m, ()), mS m), G.b, [])
    (fun i t => t = (m.changes.take i).map cI) m.changes.length (fun i t hi ht => by
      subst ht
      refine ⟨_, rfl, 1, fun k => ?_⟩
      show bounds_Store_State.L10 (k + 1) _ _ _ _ _ _ _ _ _ _ _ = bounds_Store_State.L10 k _ _ _ _ _ _ _ _ _ _ _
      rw [bounds_Store_State.L10_succ]
      unfold bounds_Store_State.b10
      rw [getD_cI hi]
      refine yes (decide_eq_true (by rw [List.length_map]; omega)) (yes (in_I hi) (st (copiedChange_F (h.chg _ (List.getElem_mem hi)).1) ?_))
      refine yes (decide_eq_true (by simp only [List.length_map, List.length_take, List.length_cons, List.length_nil]; omega)) ?_
      have e : IntKind.i64.wrap ((i : Int) + 1) = ((i + 1 : Nat) : Int) := (wrap_ok (by omega) (by omega)).trans (by omega)
      have e2 : List.append ((m.changes.take i).map cI) [cI m.changes[i]] = (m.changes.take (i + 1)).map cI := by
        rw [List.take_succ_eq_append_getElem hi, List.map_append]; rfl
      show bounds_Store_State.L10 k G.b m.level true (m.limits.map lI) 0 (m.limits.map lI) m.level (List.append ((m.changes.take i).map cI) [cI m.changes[i]]) (m.changes.map cI) _ (IntKind.i64.wrap ((i : Int) + 1)) = _
      rw [e, e2])
    (fun t ht => by
      subst ht
      refine ⟨1, fun k => ?_⟩
      show bounds_Store_State.L10 (k + 1) _ _ _ _ _ _ _ _ _ _ _ = _
      rw [bounds_Store_State.L10_succ]
      unfold bounds_Store_State.b10
      refine no (decide_eq_false (by rw [List.length_map]; omega)) ?_
      rw [List.take_length]; rfl) 0 [] (Nat.zero_le _) rfl
  obtain ⟨_, -, i, hi⟩ := upTo (fun k (p : Nat × Dt29) => bounds_Store_State.L5 k G.b m.level (m.changes.map cI) true 0 p.2 m.level (m.limits.map lI) ((m.limits.map lI).length : Int) (p.1 : Int)) (fun k (_ : Unit) => bounds_Store_State.L10 k G.b m.level true (m.limits.map lI) 0 (m.limits.map lI) m.level [] (m.changes.map cI) ((m.changes.map cI).length : Int) 0)
    (fun i t => t = (m.limits.take i).map lI) (fun _ => True) m.limits.length (fun i t hi ht => by
      subst ht
      refine ⟨_, rfl, 1, fun k => ?_⟩
      show bounds_Store_State.L5 (k + 1) _ _ _ _ _ _ _ _ _ _ = bounds_Store_State.L5 k _ _ _ _ _ _ _ _ _ _
      rw [bounds_Store_State.L5_succ]
      unfold bounds_Store_State.b5
      rw [getD_lI hi]
      have hm := h.lims _ (List.getElem_mem hi)
      refine yes (decide_eq_true (by rw [List.length_map]; omega)) (yes (in_I hi) (st (copiedLimit_F hm.1 hm.2) ?_))
      refine yes (decide_eq_true (by simp only [List.length_map, List.length_take, List.length_cons, List.length_nil]; omega)) ?_
      have e : IntKind.i64.wrap ((i : Int) + 1) = ((i + 1 : Nat) : Int) := (wrap_ok (by omega) (by omega)).trans (by omega)
      have e2 : List.append ((m.limits.take i).map lI) [lI m.limits[i]] = (m.limits.take (i + 1)).map lI := by
        rw [List.take_succ_eq_append_getElem hi, List.map_append]; rfl
      show bounds_Store_State.L5 k G.b m.level (m.changes.map cI) true 0 (List.append ((m.limits.take i).map lI) [lI m.limits[i]]) m.level (m.limits.map lI) _ (IntKind.i64.wrap ((i : Int) + 1)) = _
      rw [e, e2])
    (fun t ht => by
      subst ht
      refine ⟨(), trivial, 1, fun k => ?_⟩
      show bounds_Store_State.L5 (k + 1) _ _ _ _ _ _ _ _ _ _ = _
      rw [bounds_Store_State.L5_succ]
      unfold bounds_Store_State.b5
      refine no (decide_eq_false (by rw [List.length_map]; omega)) ?_
      rw [List.take_length]) 0 [] (Nat.zero_le _) rfl
  refine ⟨j + i, st (is_F (mS m)) (no rfl ?_)⟩
  exact (hi j).trans (by have := hj 0; rwa [Nat.zero_add] at this)
theorem sameState_F {m : M} {K : Nat} (h : m.ok K) (hK : K < 900000000000) : w_sameState.F (mR m, mR m, ()) = some (true, ()) := by
  have hnl := h.nl
  have hnc := h.nc
  obtain ⟨j, hj⟩ := Num.up (fun k (p : Nat × Unit) => w_sameState.L10 k (m.limits.map lI) m.level (m.changes.map cI) (m.limits.map lI) m.level (m.changes.map cI) (p.1 : Int)) (true, ()) (fun _ _ => True) m.changes.length
    (fun i _ hi _ => ⟨(), trivial, 1, fun k => by
      show w_sameState.L10 (k + 1) _ _ _ _ _ _ _ = w_sameState.L10 k _ _ _ _ _ _ _
      rw [w_sameState.L10_succ]
      unfold w_sameState.b10
      rw [getD_cI hi]
      have hb := (h.chg _ (List.getElem_mem hi)).1
      generalize m.changes[i] = c at hb
      have hs := (sameBound_F hb (bI c.2.2.2)).trans (congrArg some (congrArg (·, ()) (decide_eq_true (rfl : bI c.2.2.2 = bI c.2.2.2))))
      refine yes (decide_eq_true (by rw [List.length_map]; omega)) (yes (in_I hi) (yes (in_I hi) ?_))
      refine no (bne_eq_false_iff_eq.2 rfl) (no (by show (!((cI c).2.1 == (cI c).2.1)) = false; rw [beq_self_eq_true]; rfl) (no (bne_eq_false_iff_eq.2 rfl) (st hs (no rfl ?_))))
      rw [(wrap_ok (by omega) (by omega)).trans (show (i : Int) + 1 = ((i + 1 : Nat) : Int) by omega)]⟩)
    (fun _ _ => ⟨1, fun k => by
      show w_sameState.L10 (k + 1) _ _ _ _ _ _ _ = _
      rw [w_sameState.L10_succ]
      unfold w_sameState.b10
      exact no (decide_eq_false (by rw [List.length_map]; omega)) rfl⟩) 0 () (Nat.zero_le _) trivial
  obtain ⟨_, -, i, hi⟩ := upTo (fun k (p : Nat × Unit) => w_sameState.L4 k (m.limits.map lI) m.level (m.changes.map cI) (m.limits.map lI) m.level (m.changes.map cI) (p.1 : Int)) (fun k (_ : Unit) => w_sameState.L10 k (m.limits.map lI) m.level (m.changes.map cI) (m.limits.map lI) m.level (m.changes.map cI) 0)
    (fun _ _ => True) (fun _ => True) m.limits.length
    (fun i _ hi _ => ⟨(), trivial, 1, fun k => by
      show w_sameState.L4 (k + 1) _ _ _ _ _ _ _ = w_sameState.L4 k _ _ _ _ _ _ _
      rw [w_sameState.L4_succ]
      unfold w_sameState.b4
      rw [getD_lI hi]
      have hb := h.lims _ (List.getElem_mem hi)
      generalize m.limits[i] = l at hb
      refine yes (decide_eq_true (by rw [List.length_map]; omega)) (yes (in_I hi) (yes (in_I hi) (st (sameLimit_F hb (lI l)) (no (by rw [decide_eq_true (show bI l.1 = (lI l).1 from rfl), decide_eq_true (show bI l.2 = (lI l).2 from rfl)]; rfl) ?_))))
      rw [(wrap_ok (by omega) (by omega)).trans (show (i : Int) + 1 = ((i + 1 : Nat) : Int) by omega)]⟩)
    (fun _ _ => ⟨(), trivial, 1, fun k => by
      show w_sameState.L4 (k + 1) _ _ _ _ _ _ _ = _
      rw [w_sameState.L4_succ]
      unfold w_sameState.b4
      exact no (decide_eq_false (by rw [List.length_map]; omega)) rfl⟩) 0 () (Nat.zero_le _) trivial
  refine w_sameState.of (j + i) _ _ ?_
  unfold w_sameState.e
  refine no (bne_eq_false_iff_eq.2 rfl) (no (bne_eq_false_iff_eq.2 rfl) (no (bne_eq_false_iff_eq.2 rfl) ?_))
  exact (hi j).trans (by have := hj 0; rwa [Nat.zero_add] at this)
theorem dv_zero : dv zt44 = (0, 0) := by
  unfold dv
  have h : rv zt42 = 0 := rt_zero.val
  exact Prod.ext h h
end Go.Fx.Tryz
