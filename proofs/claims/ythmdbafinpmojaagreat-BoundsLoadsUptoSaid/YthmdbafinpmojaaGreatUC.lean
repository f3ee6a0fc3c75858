/- Calls of a store one behind the other: what stays so, and what the laws' own helpers answer. -/
import Derived.Test.YthmdbafinpmojaaGreatUA
import Derived.Test.YthmdbafinpmojaaGreatEv31
namespace Go.Fx.Tryz
open Go Go.Fx Go.Fx.Num
set_option linter.unusedVariables false
set_option linter.unusedSimpArgs false
theorem put_ok {up : Bool} {l : AL} {b : AB} (hl : Bk l.1 ∧ Bk l.2) (hb : Bk b) : Bk (put up l b).1 ∧ Bk (put up l b).2 := by
  cases up
  · exact ⟨hb, hl.2⟩
  · exact ⟨hl.1, hb⟩
theorem own_ok {up : Bool} {l : AL} (hl : Bk l.1 ∧ Bk l.2) : Bk (own up l) := by cases up; exact hl.1; exact hl.2
theorem getD_ok {ls : List AL} (h : ∀ l ∈ ls, Bk l.1 ∧ Bk l.2) (i : Nat) : Bk (ls.getD i (none, none)).1 ∧ Bk (ls.getD i (none, none)).2 := by
  rw [List.getD_eq_getElem?_getD]
  cases hi : ls[i]? with
  | none => exact ⟨.none, .none⟩
  | some l => exact h l (List.mem_of_getElem? hi)
theorem set_ok {ls : List AL} (h : ∀ l ∈ ls, Bk l.1 ∧ Bk l.2) (i : Nat) {a : AL} (ha : Bk a.1 ∧ Bk a.2) : ∀ l ∈ ls.set i a, Bk l.1 ∧ Bk l.2 := by
  intro l hl
  rcases List.mem_or_eq_of_mem_set hl with h1 | h1
  · exact h l h1
  · rw [h1]; exact ha
theorem undo_ok (k : Int) : ∀ (r : List AC) (ls : List AL), (∀ c ∈ r, Bk c.2.2.2) → (∀ l ∈ ls, Bk l.1 ∧ Bk l.2) →
    (∀ c ∈ (undo k r ls).1, c ∈ r) ∧ (undo k r ls).1.length ≤ r.length ∧ (undo k r ls).2.length = ls.length ∧ ∀ l ∈ (undo k r ls).2, Bk l.1 ∧ Bk l.2
  | [], ls, _, h => ⟨fun c hc => hc, Nat.le_refl _, rfl, h⟩
  | c :: r, ls, hr, h => by
    by_cases hk : c.2.2.1 ≤ k
    · rw [undo_le hk]
      exact ⟨fun c hc => hc, Nat.le_refl _, rfl, h⟩
    · rw [undo_gt hk]
      obtain ⟨h1, h2, h3, h4⟩ := undo_ok k r (ls.set c.1.toNat (put c.2.1 (ls.getD c.1.toNat (none, none)) c.2.2.2)) (fun d hd => hr d (List.mem_cons_of_mem _ hd))
        (set_ok h _ (put_ok (getD_ok h _) (hr c (List.mem_cons_self ..))))
      refine ⟨fun d hd => List.mem_cons_of_mem _ (h1 d hd), Nat.le_succ_of_le h2, by rw [h3, List.length_set], h4⟩
theorem M.ok.mono {m : M} {K L : Nat} (h : m.ok K) (hKL : K ≤ L) : m.ok L := ⟨h.lims, h.chg, h.nl, Nat.le_trans h.nc hKL, by have := h.lev; omega⟩
theorem asrt_ok {m : M} {K : Nat} (h : m.ok K) (up : Bool) (v : Int) {x : Q2} (hx : Dn (dcan x) x SZ) (w : Int) : (asrt up m v x w).1.ok (K + 1) := by
  unfold asrt
  by_cases hv : 0 ≤ v ∧ v < m.limits.length
  · rw [if_pos hv]
    dsimp only
    split
    · exact h.mono (Nat.le_succ _)
    · split
      · exact h.mono (Nat.le_succ _)
      · have hb := lims_at h hv
        refine ⟨set_ok h.lims _ (put_ok hb (.some hx)), ?_, by rw [List.length_set]; exact h.nl, ?_, ?_⟩
        · intro c hc
          rw [List.length_set]
          rcases List.mem_append.1 hc with h1 | h1
          · exact h.chg c h1
          · rw [List.mem_singleton.1 h1]
            exact ⟨own_ok hb, hv⟩
        · show (m.changes ++ [_]).length ≤ K + 1
          rw [List.length_append]
          have := h.nc
          show m.changes.length + 1 ≤ K + 1
          omega
        · have := h.lev
          show 0 ≤ m.level ∧ m.level ≤ ((K + 1 : Nat) : Int)
          omega
  · rw [if_neg hv]; exact h.mono (Nat.le_succ _)
theorem push_ok {m : M} {K : Nat} (h : m.ok K) : (pushM m).ok (K + 1) :=
  ⟨h.lims, h.chg, h.nl, Nat.le_succ_of_le h.nc, by have := h.lev; show 0 ≤ m.level + 1 ∧ m.level + 1 ≤ ((K + 1 : Nat) : Int); omega⟩
theorem grow_ok {m : M} {K : Nat} (h : m.ok K) : (growM m).1.ok K := by
  unfold growM
  by_cases h6 : m.limits.length = 65536
  · rw [if_pos h6]; exact h
  · rw [if_neg h6]
    have := h.nl
    refine ⟨?_, ?_, ?_, h.nc, h.lev⟩
    · intro l hl
      rcases List.mem_append.1 hl with h1 | h1
      · exact h.lims l h1
      · rw [List.mem_singleton.1 h1]; exact ⟨.none, .none⟩
    · intro c hc
      have := h.chg c hc
      refine ⟨this.1, this.2.1, ?_⟩
      show c.1 < ((m.limits ++ [(none, none)]).length : Int)
      rw [List.length_append]
      have := this.2.2
      show c.1 < ((m.limits.length + 1 : Nat) : Int)
      omega
    · show (m.limits ++ [(none, none)]).length ≤ 65536
      rw [List.length_append]
      show m.limits.length + 1 ≤ 65536
      omega
theorem back_ok {m : M} {K : Nat} (h : m.ok K) (k : Int) : (backM m k).1.ok K := by
  unfold backM
  by_cases hk : k < 0 ∨ m.level < k
  · rw [if_pos hk]; exact h
  · rw [if_neg hk]
    obtain ⟨h1, h2, h3, h4⟩ := undo_ok k m.changes.reverse m.limits (fun c hc => (h.chg c (List.mem_reverse.1 hc)).1) h.lims
    refine ⟨h4, ?_, by show (undo k _ _).2.length ≤ _; rw [h3]; exact h.nl, ?_, ?_⟩
    · intro c hc
      show _ ∧ _ ∧ _ < (((undo k m.changes.reverse m.limits).2.length : Nat) : Int)
      rw [h3]
      exact h.chg c (List.mem_reverse.1 (h1 c (List.mem_reverse.1 hc)))
    · show (undo k _ _).1.reverse.length ≤ K
      rw [List.length_reverse]
      rw [List.length_reverse] at h2
      have := h.nc; omega
    · have := h.lev
      show 0 ≤ k ∧ k ≤ K
      omega
def dv (d : Dt44) : Q2 := (rv d.1, rv d.2)
structure OkO (o : Dt47) : Prop where
  at' : Dn o.2.2.1 (dv o.2.2.1) SZ
def moveM (m : M) (o : Dt47) : M :=
  if o.1 = 0 then (asrt false m o.2.1 (dv o.2.2.1) o.2.2.2.1).1
  else if o.1 = 1 then (asrt true m o.2.1 (dv o.2.2.1) o.2.2.2.1).1
  else if o.1 = 2 then pushM m
  else if o.1 = 3 then (backM m o.2.2.2.1).1
  else if o.1 = 4 then (growM m).1
  else m
theorem move_ok {m : M} {K : Nat} (h : m.ok K) {o : Dt47} (ho : OkO o) : (moveM m o).ok (K + 1) := by
  unfold moveM
  split
  · exact asrt_ok h _ _ ho.at'.norm _
  split
  · exact asrt_ok h _ _ ho.at'.norm _
  split
  · exact push_ok h
  split
  · exact (back_ok h _).mono (Nat.le_succ _)
  split
  · exact (grow_ok h).mono (Nat.le_succ _)
  · exact h.mono (Nat.le_succ _)
theorem eqI_self (x : Int) : eqI x x = true := by unfold eqI; simp
theorem beq_ne {a b : Int} (h : a ≠ b) : (a == b) = false := beq_eq_false_iff_ne.2 h
theorem move_F {m : M} {K : Nat} (h : m.ok K) (hK : K < 900000000000) {o : Dt47} (ho : OkO o) : w_move.F (mS m) (mR m, o, ()) = some ((), (mR (moveM m o), true, ()), mS (moveM m o)) := by
  refine w_move.of (mS m) (mR m) o _ fun G => ⟨0, ?_⟩
  unfold w_move.e moveM
  by_cases h0 : o.1 = 0
  · rw [if_pos h0]
    refine yes (by rw [h0]; rfl) (yes (by rw [h0]; rfl) (st (Lift_F h (by omega) o.2.1 ho.at' o.2.2.2.1) ?_))
    have hA := Assert_F h hK false o.2.1 ho.at' o.2.2.2.1
    have e1 : (o.1 == (1 : Int)) = false := beq_ne (by omega)
    rw [← e1] at hA
    refine st hA (yes ?_ ?_)
    · show (eqI _ _ && (eqI _ _ && true)) = true
      rw [e1, eqI_self, eqI_self]; rfl
    · rw [e1]
      show some (((), (mR (asrt false m o.2.1 (dv o.2.2.1) o.2.2.2.1).1, (_ == _), ()), mS (asrt false m o.2.1 (dv o.2.2.1) o.2.2.2.1).1), G.b, ([] : List Value)) = _
      rw [beq_self_eq_true]
  rw [if_neg h0]
  refine no (beq_ne h0) ?_
  by_cases h1 : o.1 = 1
  · rw [if_pos h1]
    refine yes (by rw [h1]; rfl) (no (beq_ne h0) (st (Press_F h (by omega) o.2.1 ho.at' o.2.2.2.1) ?_))
    have hA := Assert_F h hK true o.2.1 ho.at' o.2.2.2.1
    have e1 : (o.1 == (1 : Int)) = true := by rw [h1]; rfl
    rw [← e1] at hA
    refine st hA (yes ?_ ?_)
    · show (eqI _ _ && (eqI _ _ && true)) = true
      rw [e1, eqI_self, eqI_self]; rfl
    · rw [e1]
      show some (((), (mR (asrt true m o.2.1 (dv o.2.2.1) o.2.2.2.1).1, (_ == _), ()), mS (asrt true m o.2.1 (dv o.2.2.1) o.2.2.2.1).1), G.b, ([] : List Value)) = _
      rw [beq_self_eq_true]
  rw [if_neg h1]
  refine no (beq_ne h1) ?_
  by_cases h2 : o.1 = 2
  · rw [if_pos h2]
    exact yes (by rw [h2]; rfl) (st (Push_F h (by omega)) (st (RPush_F h hK) rfl))
  rw [if_neg h2]
  refine no (beq_ne h2) ?_
  by_cases h3 : o.1 = 3
  · rw [if_pos h3]
    refine yes (by rw [h3]; rfl) (st (Back_F h hK o.2.2.2.1) (st (RBack_F h hK o.2.2.2.1) ?_))
    show some (((), (mR _, (_ == _), ()), mS _), G.b, ([] : List Value)) = _
    rw [beq_self_eq_true]
  rw [if_neg h3]
  refine no (beq_ne h3) ?_
  by_cases h4 : o.1 = 4
  · rw [if_pos h4]
    refine yes (by rw [h4]; rfl) (st (GrowM_F h) (st (RGrowM_F h hK) (yes (beq_self_eq_true _) ?_)))
    show some (((), (mR _, (_ == _), ()), mS _), G.b, ([] : List Value)) = _
    rw [beq_self_eq_true]
  rw [if_neg h4]
  exact no (beq_ne h4) rfl
theorem rt_zero : Rt zt42 0 SZ where
  num := ⟨limbs_of (fun x hx => by cases hx), rfl, Nat.zero_le _⟩
  den := ⟨limbs_of (fun x hx => by cases hx), rfl, Nat.zero_le _⟩
  val := by show Rat.divInt (wv (false, [])) (Num.val []) = 0; rw [show Num.val [] = 0 from rfl, Rat.divInt_zero]
  pos := by decide
theorem dn_zero : Dn zt44 (0, 0) SZ := ⟨rt_zero, rt_zero⟩
theorem at_dn {b : AB} (h : Bk b) : ∃ x, Dn (bI b).2.1 x SZ := by
  match b, h with
  | none, _ => exact ⟨(0, 0), dn_zero⟩
  | some (x, w), h => exact ⟨x, h x w rfl⟩
theorem sameBound_F {a : AB} (ha : Bk a) (c : Dt66) : w_sameBound.F (bI a, c, ()) = some (decide (bI a = c), ()) := by
  obtain ⟨x, hx⟩ := at_dn ha
  refine w_sameBound.of 0 _ _ ?_
  unfold w_sameBound.e
  by_cases h1 : (bI a).1 = c.1
  · refine yes (by rw [h1]; exact beq_self_eq_true _) ?_
    by_cases h2 : (bI a).2.2 = c.2.2
    · refine yes (by rw [h2]; exact beq_self_eq_true _) (st (SameDelta_F hx c.2.1 (by decide)) ?_)
      by_cases h3 : (bI a).2.1 = c.2.1
      · rw [decide_eq_true h3, decide_eq_true (Prod.ext h1 (Prod.ext h3 h2))]
      · rw [decide_eq_false h3, decide_eq_false fun h => h3 (congrArg (fun z => z.2.1) h)]
    · refine no (beq_ne h2) ?_
      rw [decide_eq_false fun h => h2 (congrArg (fun z => z.2.2) h)]
  · refine no (beq_eq_false_iff_ne.2 h1) ?_
    rw [decide_eq_false fun h => h1 (congrArg Prod.fst h)]
theorem sameLimit_F {a : AL} (ha : Bk a.1 ∧ Bk a.2) (c : Dt68) : w_sameLimit.F (lI a, c, ()) = some (decide (bI a.1 = c.1) && decide (bI a.2 = c.2), ()) := by
  refine w_sameLimit.of 0 _ _ (st (sameBound_F ha.1 c.1) ?_)
  by_cases h1 : bI a.1 = c.1
  · refine yes (decide_eq_true h1) (st (sameBound_F ha.2 c.2) ?_)
    rw [decide_eq_true h1, Bool.true_and]
  · refine no (decide_eq_false h1) ?_
    rw [decide_eq_false h1, Bool.false_and]
theorem sum_mem {α : Type} {f : α → Nat} : ∀ {l : List α} {x : α}, x ∈ l → f x ≤ (l.map f).sum
  | y :: l, x, h => by
    simp only [List.map_cons, List.sum_cons]
    rcases List.mem_cons.1 h with rfl | h
    · omega
    · have := sum_mem (f := f) h; omega
theorem sum_len {α : Type} {f : α → Nat} (hf : ∀ x, 1 ≤ f x) : ∀ l : List α, l.length ≤ (l.map f).sum
  | [] => Nat.le_refl _
  | x :: l => by
    have := sum_len hf l
    have := hf x
    simp only [List.map_cons, List.sum_cons, List.length_cons]
    omega
theorem nat_ofB {a : Dt38} (w : K.wf Kt38 a) (b : K.bulk Kt38 a ≤ 1048576) : Nm a (Num.val a) SZ := by
  refine ⟨limbs_of fun x hx => w x hx, rfl, ?_⟩
  have h : ((a : List Int).map (K.bulk (.int .u32))).sum + 1 ≤ 1048576 := b
  have h2 : List.length (α := Int) a ≤ ((a : List Int).map (K.bulk (.int .u32))).sum := sum_len (f := K.bulk (.int .u32)) (fun x => Nat.le_refl 1) a
  show List.length (α := Int) a ≤ 35184372087808
  omega
theorem rt_ofB {r : Dt42} (w : K.wf Kt42 r) (b : K.bulk Kt42 r ≤ 1048576) : Rt r (rv r) SZ := by
  have hb : (1 + K.bulk Kt38 r.1.2) + K.bulk Kt38 r.2 ≤ 1048576 := b
  have := nat_ofB w.1.2 (by omega)
  exact ⟨⟨this.limbs, rfl, this.len⟩, nat_ofB w.2 (by omega), rfl, by decide⟩
theorem dn_ofB {d : Dt44} (w : K.wf Kt44 d) (b : K.bulk Kt44 d ≤ 1048576) : Dn d (dv d) SZ := by
  have hb : K.bulk Kt42 d.1 + K.bulk Kt42 d.2 ≤ 1048576 := b
  exact ⟨rt_ofB w.1 (by omega), rt_ofB w.2 (by omega)⟩
theorem op_ofB {o : Dt47} (w : K.wf Kt47 o) (b : K.bulk Kt47 o ≤ 1048576) : OkO o := by
  have hb : 1 + (1 + (K.bulk Kt44 o.2.2.1 + (1 + K.bulk Kt45 o.2.2.2.2))) ≤ 1048576 := b
  exact ⟨dn_ofB w.2.2.1 (by omega)⟩
end Go.Fx.Tryz
