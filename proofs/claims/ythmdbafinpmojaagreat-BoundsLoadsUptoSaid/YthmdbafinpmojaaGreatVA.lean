/- What a store tells of itself: State, Fixed, Inside, Fits; the document's answers are the same. -/
import Derived.Test.YthmdbafinpmojaaGreatUC
namespace Go.Fx.Tryz
open Go Go.Fx Go.Fx.Num
set_option linter.unusedVariables false
set_option linter.unusedSimpArgs false
theorem copiedChange_F {c : AC} (h : Bk c.2.2.2) : bounds_copiedChange.F (cI c, ()) = some (cI c, ()) := bounds_copiedChange.of 0 _ (st (copied_F h) rfl)
theorem getD_lI {ls : List AL} {i : Nat} (h : i < ls.length) : List.getD (ls.map lI) (Int.toNat (i : Int)) zt68 = lI ls[i] := by
  rw [getD_at (ls.map lI) zt68 (by rw [List.length_map]; exact h)]
  exact List.getElem_map ..
theorem getD_cI {cs : List AC} {i : Nat} (h : i < cs.length) : List.getD (cs.map cI) (Int.toNat (i : Int)) zt70 = cI cs[i] := by
  rw [getD_at (cs.map cI) zt70 (by rw [List.length_map]; exact h)]
  exact List.getElem_map ..
theorem in_I {α β : Type} {f : α → β} {l : List α} {i : Nat} (h : i < l.length) : (decide (0 ≤ (i : Int)) && decide ((i : Int) < ((l.map f).length : Int))) = true := by rw [List.length_map]; simp <;> omega
theorem State_F {m : M} {K : Nat} (h : m.ok K) (hK : K < 900000000000) : bounds_Store_State.F (mS m) () = some ((), (mR m, ()), mS m) := by
  have hnl := h.nl
  have hnc := h.nc
  refine bounds_Store_State.of (mS m) _ fun G => ?_
  obtain ⟨j, hj⟩ := Num.up (fun k (p : Nat × Dt30) => bounds_Store_State.L10 k G.b m.level true (m.limits.map lI) 0 (m.limits.map lI) m.level p.2 (m.changes.map cI) ((m.changes.map cI).length : Int) (p.1 : Int)) (((), (mR m, ()), mS m), G.b, [])
    (fun i t => t = (m.changes.take i).map cI) m.changes.length (fun i t hi ht => by
      subst ht
      refine ⟨_, rfl, 1, fun k => ?_⟩
      show bounds_Store_State.L10 (k + 1) _ _ _ _ _ _ _ _ _ _ _ = bounds_Store_State.L10 k _ _ _ _ _ _ _ _ _ _ _
      rw [bounds_Store_State.L10_succ]
      unfold bounds_Store_State.b10
      rw [getD_cI hi]
      refine yes (decide_eq_true (by rw [List.length_map]; omega)) (yes (in_I hi) (st (copiedChange_F (h.chg _ (List.getElem_mem hi)).1) ?_))
      refine yes (decide_eq_true (by simp only [List.length_map, List.length_take, List.length_cons, List.length_nil]; omega)) ?_
      have e : IntKind.i64.wrap ((i : Int) + 1) = ((i + 1 : Nat) : Int) := (wrap_ok (by omega) (by omega)).trans (by omega)
      have e2 : List.append ((m.changes.take i).map cI) [cI m.changes[i]] = (m.changes.take (i + 1)).map cI := by
        rw [List.take_succ_eq_append_getElem hi, List.map_append]; rfl
      show bounds_Store_State.L10 k G.b m.level true (m.limits.map lI) 0 (m.limits.map lI) m.level (List.append ((m.changes.take i).map cI) [cI m.changes[i]]) (m.changes.map cI) _ (IntKind.i64.wrap ((i : Int) + 1)) = _
      rw [e, e2])
    (fun t ht => by
      subst ht
      refine ⟨1, fun k => ?_⟩
      show bounds_Store_State.L10 (k + 1) _ _ _ _ _ _ _ _ _ _ _ = _
      rw [bounds_Store_State.L10_succ]
      unfold bounds_Store_State.b10
      refine no (decide_eq_false (by rw [List.length_map]; omega)) ?_
      rw [List.take_length]; rfl) 0 [] (Nat.zero_le _) rfl
  obtain ⟨_, -, i, hi⟩ := upTo (fun k (p : Nat × Dt29) => bounds_Store_State.L5 k G.b m.level (m.changes.map cI) true 0 p.2 m.level (m.limits.map lI) ((m.limits.map lI).length : Int) (p.1 : Int)) (fun k (_ : Unit) => bounds_Store_State.L10 k G.b m.level true (m.limits.map lI) 0 (m.limits.map lI) m.level [] (m.changes.map cI) ((m.changes.map cI).length : Int) 0)
    (fun i t => t = (m.limits.take i).map lI) (fun _ => True) m.limits.length (fun i t hi ht => by
      subst ht
      refine ⟨_, rfl, 1, fun k => ?_⟩
      show bounds_Store_State.L5 (k + 1) _ _ _ _ _ _ _ _ _ _ = bounds_Store_State.L5 k _ _ _ _ _ _ _ _ _ _
      rw [bounds_Store_State.L5_succ]
      unfold bounds_Store_State.b5
      rw [getD_lI hi]
      have hm := h.lims _ (List.getElem_mem hi)
      refine yes (decide_eq_true (by rw [List.length_map]; omega)) (yes (in_I hi) (st (copiedLimit_F hm.1 hm.2) ?_))
      refine yes (decide_eq_true (by simp only [List.length_map, List.length_take, List.length_cons, List.length_nil]; omega)) ?_
      have e : IntKind.i64.wrap ((i : Int) + 1) = ((i + 1 : Nat) : Int) := (wrap_ok (by omega) (by omega)).trans (by omega)
      have e2 : List.append ((m.limits.take i).map lI) [lI m.limits[i]] = (m.limits.take (i + 1)).map lI := by
        rw [List.take_succ_eq_append_getElem hi, List.map_append]; rfl
      show bounds_Store_State.L5 k G.b m.level (m.changes.map cI) true 0 (List.append ((m.limits.take i).map lI) [lI m.limits[i]]) m.level (m.limits.map lI) _ (IntKind.i64.wrap ((i : Int) + 1)) = _
      rw [e, e2])
    (fun t ht => by
      subst ht
      refine ⟨(), trivial, 1, fun k => ?_⟩
      show bounds_Store_State.L5 (k + 1) _ _ _ _ _ _ _ _ _ _ = _
      rw [bounds_Store_State.L5_succ]
      unfold bounds_Store_State.b5
      refine no (decide_eq_false (by rw [List.length_map]; omega)) ?_
      rw [List.take_length]) 0 [] (Nat.zero_le _) rfl
  refine ⟨j + i, st (is_F (mS m)) (no rfl ?_)⟩
  exact (hi j).trans (by have := hj 0; rwa [Nat.zero_add] at this)
theorem sameState_F {m : M} {K : Nat} (h : m.ok K) (hK : K < 900000000000) : w_sameState.F (mR m, mR m, ()) = some (true, ()) := by
  have hnl := h.nl
  have hnc := h.nc
  obtain ⟨j, hj⟩ := Num.up (fun k (p : Nat × Unit) => w_sameState.L10 k (m.limits.map lI) m.level (m.changes.map cI) (m.limits.map lI) m.level (m.changes.map cI) (p.1 : Int)) (true, ()) (fun _ _ => True) m.changes.length
    (fun i _ hi _ => ⟨(), trivial, 1, fun k => by
      show w_sameState.L10 (k + 1) _ _ _ _ _ _ _ = w_sameState.L10 k _ _ _ _ _ _ _
      rw [w_sameState.L10_succ]
      unfold w_sameState.b10
      rw [getD_cI hi]
      have hb := (h.chg _ (List.getElem_mem hi)).1
      generalize m.changes[i] = c at hb
      have hs := (sameBound_F hb (bI c.2.2.2)).trans (congrArg some (congrArg (·, ()) (decide_eq_true (rfl : bI c.2.2.2 = bI c.2.2.2))))
      refine yes (decide_eq_true (by rw [List.length_map]; omega)) (yes (in_I hi) (yes (in_I hi) ?_))
      refine no (bne_eq_false_iff_eq.2 rfl) (no (by show (!((cI c).2.1 == (cI c).2.1)) = false; rw [beq_self_eq_true]; rfl) (no (bne_eq_false_iff_eq.2 rfl) (st hs (no rfl ?_))))
      rw [(wrap_ok (by omega) (by omega)).trans (show (i : Int) + 1 = ((i + 1 : Nat) : Int) by omega)]⟩)
    (fun _ _ => ⟨1, fun k => by
      show w_sameState.L10 (k + 1) _ _ _ _ _ _ _ = _
      rw [w_sameState.L10_succ]
      unfold w_sameState.b10
      exact no (decide_eq_false (by rw [List.length_map]; omega)) rfl⟩) 0 () (Nat.zero_le _) trivial
  obtain ⟨_, -, i, hi⟩ := upTo (fun k (p : Nat × Unit) => w_sameState.L4 k (m.limits.map lI) m.level (m.changes.map cI) (m.limits.map lI) m.level (m.changes.map cI) (p.1 : Int)) (fun k (_ : Unit) => w_sameState.L10 k (m.limits.map lI) m.level (m.changes.map cI) (m.limits.map lI) m.level (m.changes.map cI) 0)
    (fun _ _ => True) (fun _ => True) m.limits.length
    (fun i _ hi _ => ⟨(), trivial, 1, fun k => by
      show w_sameState.L4 (k + 1) _ _ _ _ _ _ _ = w_sameState.L4 k _ _ _ _ _ _ _
      rw [w_sameState.L4_succ]
      unfold w_sameState.b4
      rw [getD_lI hi]
      have hb := h.lims _ (List.getElem_mem hi)
      generalize m.limits[i] = l at hb
      refine yes (decide_eq_true (by rw [List.length_map]; omega)) (yes (in_I hi) (yes (in_I hi) (st (sameLimit_F hb (lI l)) (no (by rw [decide_eq_true (show bI l.1 = (lI l).1 from rfl), decide_eq_true (show bI l.2 = (lI l).2 from rfl)]; rfl) ?_))))
      rw [(wrap_ok (by omega) (by omega)).trans (show (i : Int) + 1 = ((i + 1 : Nat) : Int) by omega)]⟩)
    (fun _ _ => ⟨(), trivial, 1, fun k => by
      show w_sameState.L4 (k + 1) _ _ _ _ _ _ _ = _
      rw [w_sameState.L4_succ]
      unfold w_sameState.b4
      exact no (decide_eq_false (by rw [List.length_map]; omega)) rfl⟩) 0 () (Nat.zero_le _) trivial
  refine w_sameState.of (j + i) _ _ ?_
  unfold w_sameState.e
  refine no (bne_eq_false_iff_eq.2 rfl) (no (bne_eq_false_iff_eq.2 rfl) (no (bne_eq_false_iff_eq.2 rfl) ?_))
  exact (hi j).trans (by have := hj 0; rwa [Nat.zero_add] at this)
def keepsB (l : AL) (x : Q2) : Bool := !aboveB l.1 x && !belowB l.2 x
theorem keeps_F {l : AL} (hl : Bk l.1 ∧ Bk l.2) {a : Dt44} {x : Q2} (ha : Dn a x SZ) : bounds_keeps.F (lI l, a, ()) = some (keepsB l x, ()) := by
  refine bounds_keeps.of 0 _ a (st (above_F hl.1 ha) ?_)
  unfold keepsB
  cases h : aboveB l.1 x with
  | true => exact no rfl rfl
  | false => exact yes rfl (st (below_F hl.2 ha) rfl)
theorem le_B (x y : Q2) : decide (dcmp x y ≤ 0) = !tb false x y := by
  show _ = !decide (0 < dcmp x y)
  rw [← decide_not]
  exact decide_eq_decide.2 (by omega)
theorem RKeeps_F {l : AL} (hl : Bk l.1 ∧ Bk l.2) {a : Dt44} {x : Q2} (ha : Dn a x SZ) : r08_Keeps.F (lI l, a, ()) = some (keepsB l x, ()) := by
  refine r08_Keeps.of 0 _ a ?_
  unfold r08_Keeps.e
  obtain ⟨lo, hi⟩ := l
  rcases lo with _ | ⟨y, u⟩
  · refine no rfl ?_
    rcases hi with _ | ⟨z, w⟩
    · exact yes rfl rfl
    · refine no rfl (st (ha.rCmp_F (hl.2 z w rfl) (by decide)) ?_)
      show some (decide (dcmp x z ≤ 0), ()) = some (!tb false x z, ())
      rw [le_B]
  · refine yes rfl (st (ha.rCmp_F (hl.1 y u rfl) (by decide)) ?_)
    show (bif tb true x y then _ else _) = _
    cases h : tb true x y with
    | true =>
      have : keepsB (some (y, u), hi) x = false := by show (!tb true x y && _) = false; rw [h]; rfl
      rw [this]; exact yes rfl rfl
    | false =>
      have : keepsB (some (y, u), hi) x = !belowB hi x := by show (!tb true x y && _) = _; rw [h]; rfl
      rw [this]
      refine no rfl ?_
      rcases hi with _ | ⟨z, w⟩
      · exact yes rfl rfl
      · refine no rfl (st (ha.rCmp_F (hl.2 z w rfl) (by decide)) ?_)
        show some (decide (dcmp x z ≤ 0), ()) = some (!tb false x z, ())
        rw [le_B]
def fixB (l : AL) : Bool := match l with
  | (some (x, _), some (y, _)) => dcmp x y == 0
  | _ => false
def fixM (m : M) (v : Int) : Bool × Int := if 0 ≤ v ∧ v < m.limits.length then (fixB (m.limits.getD v.toNat (none, none)), 0) else (false, 61)
theorem Fixed_F {m : M} {K : Nat} (h : m.ok K) (v : Int) : bounds_Store_Fixed.F (mS m) (v, ()) = some ((), ((fixM m v).1, (fixM m v).2, ()), mS m) := by
  have hlen : (mS m).2.2.length = m.limits.length := List.length_map ..
  refine bounds_Store_Fixed.of (mS m) v _ fun G => ⟨0, st (wrong_F (mS m) rfl v) ?_⟩
  unfold fixM
  by_cases hv : 0 ≤ v ∧ v < m.limits.length
  · rw [hlen, if_pos hv, if_pos hv]
    refine no rfl (yes (in_range hv) ?_)
    have hb := lims_at h hv
    have hg : List.getD (mS m).2.2 v.toNat zt68 = lI (m.limits.getD v.toNat (none, none)) := getD_map
    dsimp only
    rw [hg]
    generalize m.limits.getD v.toNat (none, none) = l at hb
    obtain ⟨lo, hi⟩ := l
    rcases lo with _ | ⟨x, u⟩
    · exact no rfl rfl
    · rcases hi with _ | ⟨y, w⟩
      · exact yes rfl (no rfl rfl)
      · exact yes rfl (yes rfl (st ((hb.1 x u rfl).Cmp_F (hb.2 y w rfl) (by decide)) rfl))
  · rw [hlen, if_neg hv, if_neg hv]
    exact yes rfl rfl
theorem RFixed_F {m : M} {K : Nat} (h : m.ok K) (v : Int) : r08_Fixed.F (mR m, v, ()) = some ((fixM m v).1, (fixM m v).2, ()) := by
  refine r08_Fixed.of 0 (mR m) v (st (Is_F (mR m) v) ?_)
  unfold fixM
  by_cases hv : 0 ≤ v ∧ v < m.limits.length
  · rw [if_pos hv]
    refine no (by rw [decide_eq_true (by rw [lenL]; exact hv)]; rfl) (yes (in_range (n := (mR m).1.length) (by rw [lenL]; exact hv)) (?_))
    have hb := lims_at h hv
    have hg : List.getD (mR m).1 v.toNat zt68 = lI (m.limits.getD v.toNat (none, none)) := getD_map
    dsimp only
    rw [hg]
    generalize m.limits.getD v.toNat (none, none) = l at hb
    obtain ⟨lo, hi⟩ := l
    rcases lo with _ | ⟨x, u⟩
    · exact no rfl rfl
    · rcases hi with _ | ⟨y, w⟩
      · exact yes rfl (no rfl rfl)
      · exact yes rfl (yes rfl (st ((hb.1 x u rfl).rCmp_F (hb.2 y w rfl) (by decide)) rfl))
  · rw [if_neg hv]
    exact yes (by rw [decide_eq_false (by rw [lenL]; exact hv)]; rfl) rfl
def insM (m : M) (v : Int) (x : Q2) : Bool × Int := if 0 ≤ v ∧ v < m.limits.length then (keepsB (m.limits.getD v.toNat (none, none)) x, 0) else (false, 61)
theorem Inside_F {m : M} {K : Nat} (h : m.ok K) (v : Int) {a : Dt44} {x : Q2} (ha : Dn a x SZ) : bounds_Store_Inside.F (mS m) (v, a, ()) = some ((), ((insM m v x).1, (insM m v x).2, ()), mS m) := by
  have hlen : (mS m).2.2.length = m.limits.length := List.length_map ..
  refine bounds_Store_Inside.of (mS m) v a _ fun G => ⟨0, st (wrong_F (mS m) rfl v) ?_⟩
  unfold insM
  by_cases hv : 0 ≤ v ∧ v < m.limits.length
  · rw [hlen, if_pos hv, if_pos hv]
    refine no rfl (yes (in_range hv) ?_)
    have hb := lims_at h hv
    have hg : List.getD (mS m).2.2 v.toNat zt68 = lI (m.limits.getD v.toNat (none, none)) := getD_map
    dsimp only
    rw [hg]
    exact st (keeps_F hb ha) rfl
  · rw [hlen, if_neg hv, if_neg hv]
    exact yes rfl rfl
theorem RInside_F {m : M} {K : Nat} (h : m.ok K) (v : Int) {a : Dt44} {x : Q2} (ha : Dn a x SZ) : r08_Inside.F (mR m, v, a, ()) = some ((insM m v x).1, (insM m v x).2, ()) := by
  refine r08_Inside.of 0 (mR m) v a (st (Is_F (mR m) v) ?_)
  unfold insM
  by_cases hv : 0 ≤ v ∧ v < m.limits.length
  · rw [if_pos hv]
    refine no (by rw [decide_eq_true (by rw [lenL]; exact hv)]; rfl) (yes (in_range (n := (mR m).1.length) (by rw [lenL]; exact hv)) (?_))
    have hb := lims_at h hv
    have hg : List.getD (mR m).1 v.toNat zt68 = lI (m.limits.getD v.toNat (none, none)) := getD_map
    dsimp only
    rw [hg]
    exact st (RKeeps_F hb ha) rfl
  · rw [if_neg hv]
    exact yes (by rw [decide_eq_false (by rw [lenL]; exact hv)]; rfl) rfl
def valAt (l : Dt45) (i : Nat) : Dt44 := l.getD i zt44
def fitR (m : M) (l : Dt45) (n : Nat) : Nat → Int
  | 0 => -1
  | r + 1 => if keepsB (m.limits.getD (n - (r + 1)) (none, none)) (dv (valAt l (n - (r + 1)))) = true then fitR m l n r else ((n - (r + 1) : Nat) : Int)
def fitM (m : M) (l : Dt45) : Int := fitR m l m.limits.length m.limits.length
theorem dv_zero : dv zt44 = (0, 0) := by
  unfold dv
  have h : rv zt42 = 0 := rt_zero.val
  exact Prod.ext h h
theorem val_dn {l : Dt45} (hl : ∀ d ∈ l, Dn d (dv d) SZ) (i : Nat) : Dn (valAt l i) (dv (valAt l i)) SZ := by
  unfold valAt
  rw [List.getD_eq_getElem?_getD]
  cases h : l[i]? with
  | none => show Dn zt44 (dv zt44) SZ; rw [dv_zero]; exact dn_zero
  | some d => exact hl d (List.mem_of_getElem? h)
theorem Fits_step {m : M} {l : Dt45} (hl : ∀ d ∈ l, Dn d (dv d) SZ) (hm : ∀ p ∈ m.limits, Bk p.1 ∧ Bk p.2) (hn : m.limits.length ≤ 65536) (g : Nat) : ∀ r, r ≤ m.limits.length →
    ∃ j, ∀ k, bounds_Store_Fits.L4 (k + j) g m.level (m.changes.map cI) true l (m.limits.map lI) ((m.limits.map lI).length : Int) ((m.limits.length - r : Nat) : Int) = some (((), (fitR m l m.limits.length r, ()), mS m), g, [])
  | 0, _ => ⟨1, fun k => by
      show bounds_Store_Fits.L4 (k + 1) _ _ _ _ _ _ _ _ = _
      rw [bounds_Store_Fits.L4_succ]
      unfold bounds_Store_Fits.b4
      exact no (decide_eq_false (by rw [List.length_map]; omega)) rfl⟩
  | r + 1, hr => by
    obtain ⟨j, hj⟩ := Fits_step hl hm hn g r (by omega)
    have hi : m.limits.length - (r + 1) < m.limits.length := by omega
    have hb := hm _ (List.getElem_mem hi)
    have he : m.limits.getD (m.limits.length - (r + 1)) (none, none) = m.limits[m.limits.length - (r + 1)] := by rw [List.getD_eq_getElem?_getD, List.getElem?_eq_getElem hi]; rfl
    have hv := val_dn hl (m.limits.length - (r + 1))
    have e : IntKind.i64.wrap (((m.limits.length - (r + 1) : Nat) : Int) + 1) = ((m.limits.length - r : Nat) : Int) := (wrap_ok (by omega) (by omega)).trans (by omega)
    refine ⟨j + 1, fun k => ?_⟩
    show bounds_Store_Fits.L4 (k + j + 1) _ _ _ _ _ _ _ _ = _
    rw [bounds_Store_Fits.L4_succ]
    unfold bounds_Store_Fits.b4 fitR
    rw [getD_lI hi, he]
    refine yes (decide_eq_true (by rw [List.length_map]; omega)) (yes (in_I hi) ?_)
    have hk := keeps_F hb hv
    have fin : ∀ (c : Bool), keepsB m.limits[m.limits.length - (r + 1)] (dv (valAt l (m.limits.length - (r + 1)))) = c →
        (bif !c then some (((), (((m.limits.length - (r + 1) : Nat) : Int), ()), mS m), g, []) else bounds_Store_Fits.L4 (k + j) g m.level (m.changes.map cI) true l (m.limits.map lI) ((m.limits.map lI).length : Int) (IntKind.i64.wrap (((m.limits.length - (r + 1) : Nat) : Int) + 1))) =
        some (((), (if c = true then fitR m l m.limits.length r else ((m.limits.length - (r + 1) : Nat) : Int), ()), mS m), g, []) := by
      intro c hc
      cases c with
      | true => rw [if_pos rfl]; refine no rfl ?_; rw [e]; exact hj k
      | false => rw [if_neg (by simp)]; exact yes rfl rfl
    have fin := fin _ rfl
    by_cases hx : m.limits.length - (r + 1) < l.length
    · have hva : valAt l (m.limits.length - (r + 1)) = List.getD l (Int.toNat ((m.limits.length - (r + 1) : Nat) : Int)) zt44 := by unfold valAt; rw [Int.toNat_natCast]
      refine yes (decide_eq_true (by omega)) (yes (by simp <;> omega) ?_)
      rw [hva] at hk fin ⊢
      exact st hk fin
    · have hva : valAt l (m.limits.length - (r + 1)) = zt44 := by
        unfold valAt; rw [List.getD_eq_getElem?_getD, List.getElem?_eq_none (by omega)]; rfl
      refine no (decide_eq_false (by omega)) ?_
      rw [hva] at hk fin ⊢
      exact st hk fin
theorem Fits_F {m : M} {K : Nat} (h : m.ok K) {l : Dt45} (hl : ∀ d ∈ l, Dn d (dv d) SZ) : bounds_Store_Fits.F (mS m) (l, ()) = some ((), (fitM m l, ()), mS m) := by
  refine bounds_Store_Fits.of (mS m) l _ fun G => ?_
  obtain ⟨j, hj⟩ := Fits_step hl h.lims h.nl G.b m.limits.length (Nat.le_refl _)
  rw [Nat.sub_self] at hj
  exact ⟨0 + j, st (is_F (mS m)) (no rfl (hj 0))⟩
theorem RFits_step {m : M} {l : Dt45} (hl : ∀ d ∈ l, Dn d (dv d) SZ) (hm : ∀ p ∈ m.limits, Bk p.1 ∧ Bk p.2) (hn : m.limits.length ≤ 65536) : ∀ r, r ≤ m.limits.length →
    ∃ j, ∀ k, r08_Fits.L2 (k + j) l (m.limits.map lI) m.level (m.changes.map cI) ((m.limits.length - r : Nat) : Int) = some (fitR m l m.limits.length r, ())
  | 0, _ => ⟨1, fun k => by
      show r08_Fits.L2 (k + 1) _ _ _ _ _ = _
      rw [r08_Fits.L2_succ]
      unfold r08_Fits.b2
      exact no (decide_eq_false (by rw [List.length_map]; omega)) rfl⟩
  | r + 1, hr => by
    obtain ⟨j, hj⟩ := RFits_step hl hm hn r (by omega)
    have hi : m.limits.length - (r + 1) < m.limits.length := by omega
    have hb := hm _ (List.getElem_mem hi)
    have he : m.limits.getD (m.limits.length - (r + 1)) (none, none) = m.limits[m.limits.length - (r + 1)] := by rw [List.getD_eq_getElem?_getD, List.getElem?_eq_getElem hi]; rfl
    have hv := val_dn hl (m.limits.length - (r + 1))
    have e : IntKind.i64.wrap (((m.limits.length - (r + 1) : Nat) : Int) + 1) = ((m.limits.length - r : Nat) : Int) := (wrap_ok (by omega) (by omega)).trans (by omega)
    refine ⟨j + 1, fun k => ?_⟩
    show r08_Fits.L2 (k + j + 1) _ _ _ _ _ = _
    rw [r08_Fits.L2_succ]
    unfold r08_Fits.b2 fitR
    rw [getD_lI hi, he]
    refine yes (decide_eq_true (by rw [List.length_map]; omega)) ?_
    have hk := RKeeps_F hb hv
    have fin : ∀ (c : Bool), keepsB m.limits[m.limits.length - (r + 1)] (dv (valAt l (m.limits.length - (r + 1)))) = c →
        (bif !c then some (((m.limits.length - (r + 1) : Nat) : Int), ()) else r08_Fits.L2 (k + j) l (m.limits.map lI) m.level (m.changes.map cI) (IntKind.i64.wrap (((m.limits.length - (r + 1) : Nat) : Int) + 1))) =
        some (if c = true then fitR m l m.limits.length r else ((m.limits.length - (r + 1) : Nat) : Int), ()) := by
      intro c hc
      cases c with
      | true => rw [if_pos rfl]; refine no rfl ?_; rw [e]; exact hj k
      | false => rw [if_neg (by simp)]; exact yes rfl rfl
    have fin := fin _ rfl
    by_cases hx : m.limits.length - (r + 1) < l.length
    · have hva : valAt l (m.limits.length - (r + 1)) = List.getD l (Int.toNat ((m.limits.length - (r + 1) : Nat) : Int)) zt44 := by unfold valAt; rw [Int.toNat_natCast]
      refine yes (decide_eq_true (by omega)) (yes (by simp <;> omega) (yes (in_I hi) ?_))
      rw [hva] at hk fin ⊢
      exact st hk fin
    · have hva : valAt l (m.limits.length - (r + 1)) = zt44 := by
        unfold valAt; rw [List.getD_eq_getElem?_getD, List.getElem?_eq_none (by omega)]; rfl
      refine no (decide_eq_false (by omega)) (yes (in_I hi) ?_)
      rw [hva] at hk fin ⊢
      exact st hk fin
theorem RFits_F {m : M} {K : Nat} (h : m.ok K) {l : Dt45} (hl : ∀ d ∈ l, Dn d (dv d) SZ) : r08_Fits.F (mR m, l, ()) = some (fitM m l, ()) := by
  obtain ⟨j, hj⟩ := RFits_step hl h.lims h.nl m.limits.length (Nat.le_refl _)
  rw [Nat.sub_self] at hj
  exact r08_Fits.of (0 + j) (mR m) l (hj 0)
structure OkP (o : Dt47) : Prop where
  ok : OkO o
  vals : ∀ d ∈ o.2.2.2.2, Dn d (dv d) SZ
theorem limM_ok {m : M} {K : Nat} (h : m.ok K) (v : Int) : Bk (limM m v).1.1 ∧ Bk (limM m v).1.2 := by
  unfold limM
  split
  · exact lims_at h (by assumption)
  · exact ⟨.none, .none⟩
theorem look_F {m : M} {K : Nat} (h : m.ok K) (hK : K < 900000000000) {o : Dt47} (ho : OkP o) : w_look.F (mS m) (mR m, o, ()) = some ((), (true, ()), mS m) := by
  refine w_look.of (mS m) (mR m) o _ fun G => ⟨0, ?_⟩
  unfold w_look.e
  by_cases h5 : o.1 = 5
  · refine yes (by rw [h5]; rfl) ?_
    have hL := Limit_F h o.2.1
    have hlm := limM_ok h o.2.1
    have hs := (sameLimit_F hlm (lI (limM m o.2.1).1)).trans (congrArg some (congrArg (·, ()) (by
      rw [decide_eq_true (show bI (limM m o.2.1).1.1 = (lI (limM m o.2.1).1).1 from rfl), decide_eq_true (show bI (limM m o.2.1).1.2 = (lI (limM m o.2.1).1).2 from rfl)]; rfl : _ = true)))
    refine st hL (st (Is_F (mR m) o.2.1) ?_)
    by_cases hv : 0 ≤ o.2.1 ∧ o.2.1 < m.limits.length
    · have e : limM m o.2.1 = (m.limits.getD o.2.1.toNat (none, none), 0) := if_pos hv
      have hg : List.getD (mR m).1 o.2.1.toNat zt68 = lI (m.limits.getD o.2.1.toNat (none, none)) := getD_map
      rw [e] at hs ⊢
      refine no (by rw [decide_eq_true (by rw [lenL]; exact hv)]; rfl) (yes rfl (yes (in_range (n := (mR m).1.length) (by rw [lenL]; exact hv)) ?_))
      dsimp only at hs ⊢
      rw [hg]
      exact st hs rfl
    · have e : limM m o.2.1 = ((none, none), 61) := if_neg hv
      rw [e] at hs ⊢
      exact yes (by rw [decide_eq_false (by rw [lenL]; exact hv)]; rfl) (yes rfl (st hs rfl))
  refine no (beq_ne h5) ?_
  by_cases h6 : o.1 = 6
  · refine yes (by rw [h6]; rfl) (st (Fixed_F h o.2.1) (st (RFixed_F h o.2.1) (yes (beq_self_eq_true _) ?_)))
    show some (((), ((_ == _), ()), mS m), G.b, ([] : List Value)) = _
    rw [beq_self_eq_true]
  refine no (beq_ne h6) ?_
  by_cases h7 : o.1 = 7
  · refine yes (by rw [h7]; rfl) (st (Inside_F h o.2.1 ho.ok.at') (st (RInside_F h o.2.1 ho.ok.at') (yes (beq_self_eq_true _) ?_)))
    show some (((), ((_ == _), ()), mS m), G.b, ([] : List Value)) = _
    rw [beq_self_eq_true]
  refine no (beq_ne h7) ?_
  by_cases h8 : o.1 = 8
  · refine yes (by rw [h8]; rfl) (st (Fits_F h ho.vals) (st (RFits_F h ho.vals) ?_))
    show some (((), ((_ == _), ()), mS m), G.b, ([] : List Value)) = _
    rw [beq_self_eq_true]
  refine no (beq_ne h8) ?_
  by_cases h9 : o.1 = 9
  · exact yes (by rw [h9]; rfl) (st (State_F h hK) (st (sameState_F h hK) rfl))
  exact no (beq_ne h9) rfl
end Go.Fx.Tryz
