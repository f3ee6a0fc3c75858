/- Calls of a store one behind the other: what stays so, and what the laws' own helpers answer. -/
import Derived.Test.YthmdbafinpmojaaUB
import Derived.Test.YthmdbafinpmojaaEv31
namespace Go.Fx.Try
open Go Go.Fx Go.Fx.Num
set_option linter.unusedVariables false
set_option linter.unusedSimpArgs false

/-! ### what stays so -/
theorem put_ok {up : Bool} {l : AL} {b : AB} (hl : Bk l.1 ∧ Bk l.2) (hb : Bk b) : Bk (put up l b).1 ∧ Bk (put up l b).2 := by
  cases up
  · exact ⟨hb, hl.2⟩
  · exact ⟨hl.1, hb⟩
theorem own_ok {up : Bool} {l : AL} (hl : Bk l.1 ∧ Bk l.2) : Bk (own up l) := by cases up; exact hl.1; exact hl.2
theorem getD_ok {ls : List AL} (h : ∀ l ∈ ls, Bk l.1 ∧ Bk l.2) (i : Nat) : Bk (ls.getD i (none, none)).1 ∧ Bk (ls.getD i (none, none)).2 := by
  rw [List.getD_eq_getElem?_getD]
  cases hi : ls[i]? with
  | none => exact ⟨.none, .none⟩
  | some l => exact h l (List.mem_of_getElem? hi)
theorem set_ok {ls : List AL} (h : ∀ l ∈ ls, Bk l.1 ∧ Bk l.2) (i : Nat) {a : AL} (ha : Bk a.1 ∧ Bk a.2) : ∀ l ∈ ls.set i a, Bk l.1 ∧ Bk l.2 := by
  intro l hl
  rcases List.mem_or_eq_of_mem_set hl with h1 | h1
  · exact h l h1
  · rw [h1]; exact ha
theorem undo_ok (k : Int) : ∀ (r : List AC) (ls : List AL), (∀ c ∈ r, Bk c.2.2.2) → (∀ l ∈ ls, Bk l.1 ∧ Bk l.2) →
    (∀ c ∈ (undo k r ls).1, c ∈ r) ∧ (undo k r ls).1.length ≤ r.length ∧ (undo k r ls).2.length = ls.length ∧ ∀ l ∈ (undo k r ls).2, Bk l.1 ∧ Bk l.2
  | [], ls, _, h => ⟨fun c hc => hc, Nat.le_refl _, rfl, h⟩
  | c :: r, ls, hr, h => by
    by_cases hk : c.2.2.1 ≤ k
    · rw [undo_le hk]
      exact ⟨fun c hc => hc, Nat.le_refl _, rfl, h⟩
    · rw [undo_gt hk]
      obtain ⟨h1, h2, h3, h4⟩ := undo_ok k r (ls.set c.1.toNat (put c.2.1 (ls.getD c.1.toNat (none, none)) c.2.2.2)) (fun d hd => hr d (List.mem_cons_of_mem _ hd))
        (set_ok h _ (put_ok (getD_ok h _) (hr c (List.mem_cons_self ..))))
      refine ⟨fun d hd => List.mem_cons_of_mem _ (h1 d hd), Nat.le_succ_of_le h2, by rw [h3, List.length_set], h4⟩
theorem M.ok.mono {m : M} {K L : Nat} (h : m.ok K) (hKL : K ≤ L) : m.ok L := ⟨h.lims, h.chg, h.nl, Nat.le_trans h.nc hKL, by have := h.lev; omega⟩
theorem asrt_ok {m : M} {K : Nat} (h : m.ok K) (up : Bool) (v : Int) {x : Q2} (hx : Dn (dcan x) x SZ) (w : Int) : (asrt up m v x w).1.ok (K + 1) := by
  unfold asrt
  by_cases hv : 0 ≤ v ∧ v < m.limits.length
  · rw [if_pos hv]
    dsimp only
    split
    · exact h.mono (Nat.le_succ _)
    · split
      · exact h.mono (Nat.le_succ _)
      · have hb := lims_at h hv
        refine ⟨set_ok h.lims _ (put_ok hb (.some hx)), ?_, by rw [List.length_set]; exact h.nl, ?_, ?_⟩
        · intro c hc
          rw [List.length_set]
          rcases List.mem_append.1 hc with h1 | h1
          · exact h.chg c h1
          · rw [List.mem_singleton.1 h1]
            exact ⟨own_ok hb, hv⟩
        · show (m.changes ++ [_]).length ≤ K + 1
          rw [List.length_append]
          have := h.nc
          show m.changes.length + 1 ≤ K + 1
          omega
        · have := h.lev
          show 0 ≤ m.level ∧ m.level ≤ ((K + 1 : Nat) : Int)
          omega
  · rw [if_neg hv]; exact h.mono (Nat.le_succ _)
theorem push_ok {m : M} {K : Nat} (h : m.ok K) : (pushM m).ok (K + 1) :=
  ⟨h.lims, h.chg, h.nl, Nat.le_succ_of_le h.nc, by have := h.lev; show 0 ≤ m.level + 1 ∧ m.level + 1 ≤ ((K + 1 : Nat) : Int); omega⟩
theorem grow_ok {m : M} {K : Nat} (h : m.ok K) : (growM m).1.ok K := by
  unfold growM
  by_cases h6 : m.limits.length = 65536
  · rw [if_pos h6]; exact h
  · rw [if_neg h6]
    have := h.nl
    refine ⟨?_, ?_, ?_, h.nc, h.lev⟩
    · intro l hl
      rcases List.mem_append.1 hl with h1 | h1
      · exact h.lims l h1
      · rw [List.mem_singleton.1 h1]; exact ⟨.none, .none⟩
    · intro c hc
      have := h.chg c hc
      refine ⟨this.1, this.2.1, ?_⟩
      show c.1 < ((m.limits ++ [(none, none)]).length : Int)
      rw [List.length_append]
      have := this.2.2
      show c.1 < ((m.limits.length + 1 : Nat) : Int)
      omega
    · show (m.limits ++ [(none, none)]).length ≤ 65536
      rw [List.length_append]
      show m.limits.length + 1 ≤ 65536
      omega
theorem back_ok {m : M} {K : Nat} (h : m.ok K) (k : Int) : (backM m k).1.ok K := by
  unfold backM
  by_cases hk : k < 0 ∨ m.level < k
  · rw [if_pos hk]; exact h
  · rw [if_neg hk]
    obtain ⟨h1, h2, h3, h4⟩ := undo_ok k m.changes.reverse m.limits (fun c hc => (h.chg c (List.mem_reverse.1 hc)).1) h.lims
    refine ⟨h4, ?_, by show (undo k _ _).2.length ≤ _; rw [h3]; exact h.nl, ?_, ?_⟩
    · intro c hc
      show _ ∧ _ ∧ _ < (((undo k m.changes.reverse m.limits).2.length : Nat) : Int)
      rw [h3]
      exact h.chg c (List.mem_reverse.1 (h1 c (List.mem_reverse.1 hc)))
    · show (undo k _ _).1.reverse.length ≤ K
      rw [List.length_reverse]
      rw [List.length_reverse] at h2
      have := h.nc; omega
    · have := h.lev
      show 0 ≤ k ∧ k ≤ K
      omega

/-! ### levels grow from change to change -/
def Dec : List AC → Int → Prop
  | [], _ => True
  | c :: r, b => c.2.2.1 ≤ b ∧ Dec r c.2.2.1
theorem Dec.mono : ∀ {r : List AC} {a b : Int}, Dec r a → a ≤ b → Dec r b
  | [], _, _, _, _ => trivial
  | _ :: _, _, _, h, hab => ⟨Int.le_trans h.1 hab, h.2⟩
theorem Dec.undo (k : Int) : ∀ {r : List AC} {ls : List AL} {b : Int}, Dec r b → Dec (undo k r ls).1 k
  | [], ls, b, h => trivial
  | c :: r, ls, b, h => by
    by_cases hk : c.2.2.1 ≤ k
    · rw [undo_le hk]; exact ⟨hk, h.2⟩
    · rw [undo_gt hk]; exact Dec.undo k h.2
theorem undo_stop {k : Int} : ∀ {r : List AC} {ls : List AL}, Dec r k → Try.undo k r ls = (r, ls)
  | [], _, _ => rfl
  | _ :: _, _, h => undo_le h.1
/-- The way back to a level is the way back to one above it, and on. -/
theorem undo_undo {k l : Int} (hkl : l ≤ k) : ∀ (r : List AC) (ls : List AL), Try.undo l (Try.undo k r ls).1 (Try.undo k r ls).2 = Try.undo l r ls
  | [], ls => rfl
  | c :: r, ls => by
    by_cases hk : c.2.2.1 ≤ k
    · rw [undo_le hk]
    · rw [undo_gt hk, undo_undo hkl r, undo_gt (show ¬c.2.2.1 ≤ l by omega)]
def Lv (m : M) : Prop := Dec m.changes.reverse m.level
theorem asrt_lv {m : M} (h : Lv m) (up : Bool) (v : Int) (x : Q2) (w : Int) : Lv (asrt up m v x w).1 := by
  unfold asrt
  split
  · dsimp only
    split
    · exact h
    · split
      · exact h
      · show Dec (m.changes ++ [_]).reverse m.level
        rw [List.reverse_append]
        exact ⟨Int.le_refl _, h⟩
  · exact h
theorem push_lv {m : M} (h : Lv m) : Lv (pushM m) := Dec.mono h (show m.level ≤ m.level + 1 by omega)
theorem grow_lv {m : M} (h : Lv m) : Lv (growM m).1 := by unfold growM; split; exact h; exact h
theorem back_lv {m : M} (h : Lv m) (k : Int) : Lv (backM m k).1 := by
  unfold backM
  split
  · exact h
  · show Dec ((Try.undo k m.changes.reverse m.limits).1.reverse).reverse k
    rw [List.reverse_reverse]
    exact Dec.undo k h

/-! ### one call, asked for by an op -/
def dv (d : Dt47) : Q2 := (rv d.1, rv d.2)
structure OkO (o : Dt50) : Prop where
  at' : Dn o.2.2.1 (dv o.2.2.1) SZ
def moveM (m : M) (o : Dt50) : M :=
  if o.1 = 0 then (asrt false m o.2.1 (dv o.2.2.1) o.2.2.2.1).1
  else if o.1 = 1 then (asrt true m o.2.1 (dv o.2.2.1) o.2.2.2.1).1
  else if o.1 = 2 then pushM m
  else if o.1 = 3 then (backM m o.2.2.2.1).1
  else if o.1 = 4 then (growM m).1
  else m
theorem move_ok {m : M} {K : Nat} (h : m.ok K) {o : Dt50} (ho : OkO o) : (moveM m o).ok (K + 1) := by
  unfold moveM
  split
  · exact asrt_ok h _ _ ho.at'.norm _
  split
  · exact asrt_ok h _ _ ho.at'.norm _
  split
  · exact push_ok h
  split
  · exact (back_ok h _).mono (Nat.le_succ _)
  split
  · exact (grow_ok h).mono (Nat.le_succ _)
  · exact h.mono (Nat.le_succ _)
theorem move_lv {m : M} (h : Lv m) (o : Dt50) : Lv (moveM m o) := by
  unfold moveM
  split
  · exact asrt_lv h _ _ _ _
  split
  · exact asrt_lv h _ _ _ _
  split
  · exact push_lv h
  split
  · exact back_lv h _
  split
  · exact grow_lv h
  · exact h
theorem eqI_self (x : Int) : eqI x x = true := by unfold eqI; simp
theorem beq_ne {a b : Int} (h : a ≠ b) : (a == b) = false := beq_eq_false_iff_ne.2 h
theorem move_F {m : M} {K : Nat} (h : m.ok K) (hK : K < 900000000000) {o : Dt50} (ho : OkO o) : fulcrumlaw08_move.F (mS m) (mR m, o, ()) = some ((), (mR (moveM m o), true, ()), mS (moveM m o)) := by
  refine fulcrumlaw08_move.of (mS m) (mR m) o _ fun G => ⟨0, ?_⟩
  unfold fulcrumlaw08_move.e moveM
  by_cases h0 : o.1 = 0
  · rw [if_pos h0]
    refine yes (by rw [h0]; rfl) (yes (by rw [h0]; rfl) (st (Lift_F h (by omega) o.2.1 ho.at' o.2.2.2.1) ?_))
    have hA := Assert_F h hK false o.2.1 ho.at' o.2.2.2.1
    have e1 : (o.1 == (1 : Int)) = false := beq_ne (by omega)
    rw [← e1] at hA
    refine st hA (yes ?_ ?_)
    · show (eqI _ _ && (eqI _ _ && true)) = true
      rw [e1, eqI_self, eqI_self]; rfl
    · rw [e1]
      show some (((), (mR (asrt false m o.2.1 (dv o.2.2.1) o.2.2.2.1).1, (_ == _), ()), mS (asrt false m o.2.1 (dv o.2.2.1) o.2.2.2.1).1), G.b, ([] : List Value)) = _
      rw [beq_self_eq_true]
  rw [if_neg h0]
  refine no (beq_ne h0) ?_
  by_cases h1 : o.1 = 1
  · rw [if_pos h1]
    refine yes (by rw [h1]; rfl) (no (beq_ne h0) (st (Press_F h (by omega) o.2.1 ho.at' o.2.2.2.1) ?_))
    have hA := Assert_F h hK true o.2.1 ho.at' o.2.2.2.1
    have e1 : (o.1 == (1 : Int)) = true := by rw [h1]; rfl
    rw [← e1] at hA
    refine st hA (yes ?_ ?_)
    · show (eqI _ _ && (eqI _ _ && true)) = true
      rw [e1, eqI_self, eqI_self]; rfl
    · rw [e1]
      show some (((), (mR (asrt true m o.2.1 (dv o.2.2.1) o.2.2.2.1).1, (_ == _), ()), mS (asrt true m o.2.1 (dv o.2.2.1) o.2.2.2.1).1), G.b, ([] : List Value)) = _
      rw [beq_self_eq_true]
  rw [if_neg h1]
  refine no (beq_ne h1) ?_
  by_cases h2 : o.1 = 2
  · rw [if_pos h2]
    exact yes (by rw [h2]; rfl) (st (Push_F h (by omega)) (st (RPush_F h hK) rfl))
  rw [if_neg h2]
  refine no (beq_ne h2) ?_
  by_cases h3 : o.1 = 3
  · rw [if_pos h3]
    refine yes (by rw [h3]; rfl) (st (Back_F h hK o.2.2.2.1) (st (RBack_F h hK o.2.2.2.1) ?_))
    show some (((), (mR _, (_ == _), ()), mS _), G.b, ([] : List Value)) = _
    rw [beq_self_eq_true]
  rw [if_neg h3]
  refine no (beq_ne h3) ?_
  by_cases h4 : o.1 = 4
  · rw [if_pos h4]
    refine yes (by rw [h4]; rfl) (st (GrowM_F h) (st (RGrowM_F h hK) (yes (beq_self_eq_true _) ?_)))
    show some (((), (mR _, (_ == _), ()), mS _), G.b, ([] : List Value)) = _
    rw [beq_self_eq_true]
  rw [if_neg h4]
  exact no (beq_ne h4) rfl

/-! ### many calls -/
def newM (n : Nat) : M := ⟨0, [], List.replicate n (none, none)⟩
theorem newM_ok {n : Nat} (h : n ≤ 65536) : (newM n).ok 0 where
  lims l hl := by rw [List.eq_of_mem_replicate hl]; exact ⟨.none, .none⟩
  chg c hc := by cases hc
  nl := by show (List.replicate n _).length ≤ _; rw [List.length_replicate]; exact h
  nc := Nat.le_refl _
  lev := ⟨Int.le_refl _, Int.le_refl _⟩
theorem newM_lv (n : Nat) : Lv (newM n) := trivial
theorem mkStore_I (n : Nat) : mkStore n = mS (newM n) := by
  unfold mkStore mS newM
  rw [List.map_replicate]; rfl
theorem mkState_I (n : Nat) : mkState n = mR (newM n) := by
  unfold mkState mR newM
  rw [List.map_replicate]; rfl
def playM (m : M) (os : List Dt50) : M := os.foldl moveM m
theorem play_ok : ∀ {os : List Dt50} {m : M} {K : Nat}, m.ok K → (∀ o ∈ os, OkO o) → (playM m os).ok (K + os.length)
  | [], m, K, h, _ => h
  | o :: os, m, K, h, ho => by
    have := play_ok (os := os) (move_ok h (ho o (List.mem_cons_self ..))) fun p hp => ho p (List.mem_cons_of_mem _ hp)
    rw [show K + (o :: os).length = K + 1 + os.length by rw [List.length_cons]; omega]
    exact this
theorem play_lv : ∀ {os : List Dt50} {m : M}, Lv m → Lv (playM m os)
  | [], m, h => h
  | o :: os, m, h => play_lv (os := os) (move_lv h o)
theorem played_F {x : Dt60} (hx : 0 ≤ x.1 ∧ x.1 ≤ 65536) (ho : ∀ o ∈ x.2, OkO o) (hl : x.2.length < 900000000000) :
    fulcrumlaw08_played.F () (x, ()) = some (some (mS (playM (newM x.1.toNat) x.2)), (mR (playM (newM x.1.toNat) x.2), ()), ()) := by
  refine fulcrumlaw08_played.of () x _ fun G => ?_
  obtain ⟨j, hj⟩ := up (fun k (p : Nat × M) => fulcrumlaw08_played.L6 k x.1 x.2 0 p.2.level (p.2.changes.map cI) true (p.2.limits.map lI) (p.2.limits.map lI) p.2.level (p.2.changes.map cI) (p.1 : Int))
    ((some (mS (playM (newM x.1.toNat) x.2)), (mR (playM (newM x.1.toNat) x.2), ()), ()), 0, []) (fun i m => m = playM (newM x.1.toNat) (x.2.take i)) x.2.length
    (fun i m hi hm => by
      subst hm
      have hok := play_ok (newM_ok (n := x.1.toNat) (by omega)) (os := x.2.take i) fun o h => ho o (List.mem_of_mem_take h)
      rw [List.length_take, Nat.min_eq_left (by omega)] at hok
      refine ⟨moveM (playM (newM x.1.toNat) (x.2.take i)) x.2[i], ?_, 1, fun k => ?_⟩
      · unfold playM
        rw [List.take_succ_eq_append_getElem hi, List.foldl_append]; rfl
      · show fulcrumlaw08_played.L6 (k + 1) _ _ _ _ _ _ _ _ _ _ _ = fulcrumlaw08_played.L6 k _ _ _ _ _ _ _ _ _ _ _
        rw [fulcrumlaw08_played.L6_succ]
        unfold fulcrumlaw08_played.b6
        refine yes (decide_eq_true (by omega)) (yes (by simp only [Bool.and_eq_true, decide_eq_true_eq]; omega) ?_)
        rw [getD_at x.2 zt50 hi]
        refine st (move_F hok (by omega) (ho _ (List.getElem_mem hi))) ?_
        have e : IntKind.i64.wrap ((i : Int) + 1) = ((i + 1 : Nat) : Int) := (wrap_ok (by omega) (by omega)).trans (by omega)
        rw [← e]; rfl)
    (fun m hm => by
      subst hm
      refine ⟨1, fun k => ?_⟩
      show fulcrumlaw08_played.L6 (k + 1) _ _ _ _ _ _ _ _ _ _ _ = _
      rw [fulcrumlaw08_played.L6_succ]
      unfold fulcrumlaw08_played.b6
      refine no (decide_eq_false (by omega)) ?_
      rw [List.take_length]; rfl) 0 (newM x.1.toNat) (Nat.zero_le _) rfl
  refine ⟨0 + j, st (New_F x.1) ?_⟩
  rw [if_pos hx]
  refine st (RNew_F x.1) ?_
  rw [if_pos hx, mkStore_I, mkState_I]
  exact no rfl (hj 0)
end Go.Fx.Try

namespace Go.Fx.Try
open Go Go.Fx Go.Fx.Num
set_option linter.unusedVariables false
set_option linter.unusedSimpArgs false

/-! ### alike -/
theorem rt_zero : Rt zt45 0 SZ where
  num := ⟨limbs_of (fun x hx => by cases hx), rfl, Nat.zero_le _⟩
  den := ⟨limbs_of (fun x hx => by cases hx), rfl, Nat.zero_le _⟩
  val := by show Rat.divInt (wv (false, [])) (Num.val []) = 0; rw [show Num.val [] = 0 from rfl, Rat.divInt_zero]
  pos := by decide
theorem dn_zero : Dn zt47 (0, 0) SZ := ⟨rt_zero, rt_zero⟩
theorem at_dn {b : AB} (h : Bk b) : ∃ x, Dn (bI b).2.1 x SZ := by
  match b, h with
  | none, _ => exact ⟨(0, 0), dn_zero⟩
  | some (x, w), h => exact ⟨x, h x w rfl⟩
theorem bI_inj {a b : AB} (h : bI a = bI b) : a = b := by
  match a, b, h with
  | none, none, _ => rfl
  | none, some (y, w), h => exact absurd (congrArg Prod.fst h) (by simp [bI])
  | some (x, u), none, h => exact absurd (congrArg Prod.fst h) (by simp [bI])
  | some (x, u), some (y, w), h =>
    have h1 : dcan x = dcan y := congrArg (fun z => z.2.1) h
    have h2 : u = w := congrArg (fun z => z.2.2) h
    rw [dcan_inj h1, h2]
theorem lI_inj {a b : AL} (h : lI a = lI b) : a = b := Prod.ext (bI_inj (congrArg Prod.fst h)) (bI_inj (congrArg Prod.snd h))
theorem sameBound_F {a : AB} (ha : Bk a) (c : Dt53) : fulcrumlaw08_sameBound.F (bI a, c, ()) = some (decide (bI a = c), ()) := by
  obtain ⟨x, hx⟩ := at_dn ha
  refine fulcrumlaw08_sameBound.of 0 _ _ ?_
  unfold fulcrumlaw08_sameBound.e
  by_cases h1 : (bI a).1 = c.1
  · refine yes (by rw [h1]; exact beq_self_eq_true _) ?_
    by_cases h2 : (bI a).2.2 = c.2.2
    · refine yes (by rw [h2]; exact beq_self_eq_true _) (st (SameDelta_F hx c.2.1 (by decide)) ?_)
      by_cases h3 : (bI a).2.1 = c.2.1
      · rw [decide_eq_true h3, decide_eq_true (Prod.ext h1 (Prod.ext h3 h2))]
      · rw [decide_eq_false h3, decide_eq_false fun h => h3 (congrArg (fun z => z.2.1) h)]
    · refine no (beq_ne h2) ?_
      rw [decide_eq_false fun h => h2 (congrArg (fun z => z.2.2) h)]
  · refine no (beq_eq_false_iff_ne.2 h1) ?_
    rw [decide_eq_false fun h => h1 (congrArg Prod.fst h)]
theorem sameLimit_F {a : AL} (ha : Bk a.1 ∧ Bk a.2) (c : Dt55) : fulcrumlaw08_sameLimit.F (lI a, c, ()) = some (decide (bI a.1 = c.1) && decide (bI a.2 = c.2), ()) := by
  refine fulcrumlaw08_sameLimit.of 0 _ _ (st (sameBound_F ha.1 c.1) ?_)
  by_cases h1 : bI a.1 = c.1
  · refine yes (decide_eq_true h1) (st (sameBound_F ha.2 c.2) ?_)
    rw [decide_eq_true h1, Bool.true_and]
  · refine no (decide_eq_false h1) ?_
    rw [decide_eq_false h1, Bool.false_and]
/-! ### a law's arguments -/
theorem b115 : Go.Proofs.Try.prog.bytesOf 115 = 4 := by kernel_rfl
theorem b50 : Go.Proofs.Try.prog.bytesOf 50 = 160 := by kernel_rfl
theorem nat_of {a : Dt41} (w : K.wf Kt41 a) (f : K.fits Go.Proofs.Try.prog.bytesOf 140737488351232 Kt41 a) : Nm a (Num.val a) SZ := by
  refine ⟨limbs_of fun x hx => w x hx, rfl, ?_⟩
  have := f.1
  rw [b115] at this
  show List.length (α := Int) a ≤ 35184372087808
  have h2 : List.length (α := Int) a * 4 ≤ 140737488351232 := this
  omega
theorem rt_of {r : Dt45} (w : K.wf Kt45 r) (f : K.fits Go.Proofs.Try.prog.bytesOf 140737488351232 Kt45 r) : Rt r (rv r) SZ where
  num := by
    have := nat_of w.1.2 f.1.2
    exact ⟨this.limbs, rfl, this.len⟩
  den := nat_of w.2 f.2
  val := rfl
  pos := by decide
theorem dn_of {d : Dt47} (w : K.wf Kt47 d) (f : K.fits Go.Proofs.Try.prog.bytesOf 140737488351232 Kt47 d) : Dn d (dv d) SZ := ⟨rt_of w.1 f.1, rt_of w.2 f.2⟩
theorem op_of {o : Dt50} (w : K.wf Kt50 o) (f : K.fits Go.Proofs.Try.prog.bytesOf 140737488351232 Kt50 o) : OkO o := ⟨dn_of w.2.2.1 f.2.2.1⟩
theorem ops_of {l : Dt38} (w : K.wf Kt38 l) (f : K.fits Go.Proofs.Try.prog.bytesOf 140737488351232 Kt38 l) : (∀ o ∈ l, OkO o) ∧ l.length ≤ 879609302195 := by
  refine ⟨fun o ho => op_of (w o ho) (f.2 o ho), ?_⟩
  have := f.1
  rw [b50] at this
  have h2 : List.length (α := Dt50) l * 160 ≤ 140737488351232 := this
  omega

/-! ### a law's arguments of bounded bulk -/
theorem sum_mem {α : Type} {f : α → Nat} : ∀ {l : List α} {x : α}, x ∈ l → f x ≤ (l.map f).sum
  | y :: l, x, h => by
    simp only [List.map_cons, List.sum_cons]
    rcases List.mem_cons.1 h with rfl | h
    · omega
    · have := sum_mem (f := f) h; omega
theorem sum_len {α : Type} {f : α → Nat} (hf : ∀ x, 1 ≤ f x) : ∀ l : List α, l.length ≤ (l.map f).sum
  | [] => Nat.le_refl _
  | x :: l => by
    have := sum_len hf l
    have := hf x
    simp only [List.map_cons, List.sum_cons, List.length_cons]
    omega
theorem nat_ofB {a : Dt41} (w : K.wf Kt41 a) (b : K.bulk Kt41 a ≤ 1048576) : Nm a (Num.val a) SZ := by
  refine ⟨limbs_of fun x hx => w x hx, rfl, ?_⟩
  have h : ((a : List Int).map (K.bulk (.int .u32))).sum + 1 ≤ 1048576 := b
  have h2 : List.length (α := Int) a ≤ ((a : List Int).map (K.bulk (.int .u32))).sum := sum_len (f := K.bulk (.int .u32)) (fun x => Nat.le_refl 1) a
  show List.length (α := Int) a ≤ 35184372087808
  omega
theorem rt_ofB {r : Dt45} (w : K.wf Kt45 r) (b : K.bulk Kt45 r ≤ 1048576) : Rt r (rv r) SZ := by
  have hb : (1 + K.bulk Kt41 r.1.2) + K.bulk Kt41 r.2 ≤ 1048576 := b
  have := nat_ofB w.1.2 (by omega)
  exact ⟨⟨this.limbs, rfl, this.len⟩, nat_ofB w.2 (by omega), rfl, by decide⟩
theorem dn_ofB {d : Dt47} (w : K.wf Kt47 d) (b : K.bulk Kt47 d ≤ 1048576) : Dn d (dv d) SZ := by
  have hb : K.bulk Kt45 d.1 + K.bulk Kt45 d.2 ≤ 1048576 := b
  exact ⟨rt_ofB w.1 (by omega), rt_ofB w.2 (by omega)⟩
theorem op_ofB {o : Dt50} (w : K.wf Kt50 o) (b : K.bulk Kt50 o ≤ 1048576) : OkO o := by
  have hb : 1 + (1 + (K.bulk Kt47 o.2.2.1 + (1 + K.bulk Kt48 o.2.2.2.2))) ≤ 1048576 := b
  exact ⟨dn_ofB w.2.2.1 (by omega)⟩
theorem ops_ofB {l : Dt38} (w : K.wf Kt38 l) (b : K.bulk Kt38 l ≤ 1048576) : (∀ o ∈ l, OkO o) ∧ l.length ≤ 1048576 := by
  have hb : ((l : List Dt50).map (K.bulk Kt50)).sum + 1 ≤ 1048576 := b
  refine ⟨fun o ho => op_ofB (w o ho) ?_, ?_⟩
  · have := sum_mem (f := K.bulk Kt50) ho; omega
  · have h2 : List.length (α := Dt50) l ≤ ((l : List Dt50).map (K.bulk Kt50)).sum := sum_len (f := K.bulk Kt50) (fun x => by show 1 ≤ 1 + _; omega) l
    omega
end Go.Fx.Try

namespace Go.Fx.Try
open Go Go.Fx Go.Fx.Num
set_option linter.unusedVariables false
set_option linter.unusedSimpArgs false

theorem sameLimits_F {ls : List AL} (h : ∀ l ∈ ls, Bk l.1 ∧ Bk l.2) (hl : ls.length ≤ 65536) : fulcrumlaw08_sameLimits.F (ls.map lI, ls.map lI, ()) = some (true, ()) := by
  have hlen : (ls.map lI).length = ls.length := List.length_map ..
  obtain ⟨j, hj⟩ := Num.up (fun k (p : Nat × Unit) => fulcrumlaw08_sameLimits.L4 k (ls.map lI) (ls.map lI) (p.1 : Int)) (true, ()) (fun i _ => True) ls.length
    (fun i _ hi _ => ⟨(), trivial, 1, fun k => by
      show fulcrumlaw08_sameLimits.L4 (k + 1) _ _ _ = fulcrumlaw08_sameLimits.L4 k _ _ _
      rw [fulcrumlaw08_sameLimits.L4_succ]
      unfold fulcrumlaw08_sameLimits.b4
      have hin : (decide (0 ≤ (i : Int)) && decide ((i : Int) < ((ls.map lI).length : Int))) = true := by rw [hlen]; simp <;> omega
      refine yes (decide_eq_true (by rw [hlen]; omega)) (yes hin (yes hin ?_))
      rw [getD_at (ls.map lI) zt55 (by rw [hlen]; exact hi)]
      have e : (ls.map lI)[i]'(by rw [hlen]; exact hi) = lI ls[i] := List.getElem_map ..
      rw [e]
      refine st (sameLimit_F (h _ (List.getElem_mem hi)) (lI ls[i])) (no (by rw [decide_eq_true (show bI ls[i].1 = (lI ls[i]).1 from rfl), decide_eq_true (show bI ls[i].2 = (lI ls[i]).2 from rfl)]; rfl) ?_)
      rw [(wrap_ok (by omega) (by omega)).trans (show (i : Int) + 1 = ((i + 1 : Nat) : Int) by omega)]⟩)
    (fun _ _ => ⟨1, fun k => by
      show fulcrumlaw08_sameLimits.L4 (k + 1) _ _ _ = _
      rw [fulcrumlaw08_sameLimits.L4_succ]
      unfold fulcrumlaw08_sameLimits.b4
      exact no (decide_eq_false (by rw [hlen]; omega)) rfl⟩) 0 () (Nat.zero_le _) trivial
  refine fulcrumlaw08_sameLimits.of (0 + j) _ _ ?_
  unfold fulcrumlaw08_sameLimits.e
  exact no (bne_eq_false_iff_eq.2 rfl) (hj 0)

/-! ### what Limit tells of the first ones -/
theorem limM_at {m : M} {i : Nat} (h : i < m.limits.length) : limM m (i : Int) = (m.limits[i], 0) := by
  unfold limM
  rw [if_pos (by omega), Int.toNat_natCast, List.getD_eq_getElem?_getD, List.getElem?_eq_getElem h]; rfl
theorem limits_F {m : M} {K : Nat} (h : m.ok K) {n : Nat} (hn : n ≤ m.limits.length) : fulcrumlaw08_limits.F (mS m) ((n : Int), ()) = some ((), ((m.limits.take n).map lI, ()), mS m) := by
  have hnl := h.nl
  refine fulcrumlaw08_limits.of (mS m) (n : Int) _ fun G => ?_
  obtain ⟨j, hj⟩ := Num.up (fun k (p : Nat × Dt26) => fulcrumlaw08_limits.L3 k G.b m.level (m.changes.map cI) true (m.limits.map lI) (n : Int) p.2 (p.1 : Int)) (((), ((m.limits.take n).map lI, ()), mS m), G.b, []) (fun i t => t = (m.limits.take i).map lI) n
    (fun i t hi ht => by
      subst ht
      refine ⟨_, rfl, 1, fun k => ?_⟩
      show fulcrumlaw08_limits.L3 (k + 1) _ _ _ _ _ _ _ _ = fulcrumlaw08_limits.L3 k _ _ _ _ _ _ _ _
      rw [fulcrumlaw08_limits.L3_succ]
      unfold fulcrumlaw08_limits.b3
      have hL := Limit_F h (i : Int)
      rw [limM_at (by omega)] at hL
      refine yes (decide_eq_true (by omega)) (st hL (yes (decide_eq_true (by simp only [List.length_map, List.length_take, List.length_cons, List.length_nil]; omega)) ?_))
      have e : IntKind.i64.wrap ((i : Int) + 1) = ((i + 1 : Nat) : Int) := (wrap_ok (by omega) (by omega)).trans (by omega)
      have e2 : List.append ((m.limits.take i).map lI) [lI (m.limits[i]'(by omega))] = (m.limits.take (i + 1)).map lI := by
        rw [List.take_succ_eq_append_getElem (by omega), List.map_append]; rfl
      show fulcrumlaw08_limits.L3 k G.b m.level (m.changes.map cI) true (m.limits.map lI) (n : Int) (List.append ((m.limits.take i).map lI) [lI (m.limits[i]'(by omega))]) (IntKind.i64.wrap ((i : Int) + 1)) = _
      rw [e, e2])
    (fun t ht => by
      subst ht
      refine ⟨1, fun k => ?_⟩
      show fulcrumlaw08_limits.L3 (k + 1) _ _ _ _ _ _ _ _ = _
      rw [fulcrumlaw08_limits.L3_succ]
      unfold fulcrumlaw08_limits.b3
      exact no (decide_eq_false (by omega)) rfl) 0 [] (Nat.zero_le _) rfl
  exact ⟨0 + j, hj 0⟩

end Go.Fx.Try

namespace Go.Fx.Try
open Go Go.Fx Go.Fx.Num
set_option linter.unusedVariables false
set_option linter.unusedSimpArgs false

/-! ### calls above a level, and back -/
def Keeps (L : Int) (w : List AL) (m : M) : Prop := L < m.level ∧ ((undo L m.changes.reverse m.limits).2).take w.length = w ∧ w.length ≤ m.limits.length
theorem put_put (up : Bool) (l : AL) (a b : AB) : put up (put up l a) b = put up l b := by cases up <;> rfl
theorem put_own (up : Bool) (l : AL) : put up l (own up l) = l := by cases up <;> rfl
theorem set_getD_self (ls : List AL) {i : Nat} (h : i < ls.length) : ls.set i (ls.getD i (none, none)) = ls := by
  rw [List.getD_eq_getElem?_getD, List.getElem?_eq_getElem h]
  exact List.set_getElem_self h
theorem getD_set_self (ls : List AL) (a : AL) {i : Nat} (h : i < ls.length) : (ls.set i a).getD i (none, none) = a := by
  rw [List.getD_eq_getElem?_getD, List.getElem?_set_self h]; rfl
theorem undo_len (k : Int) : ∀ (r : List AC) (ls : List AL), (undo k r ls).2.length = ls.length
  | [], ls => rfl
  | c :: r, ls => by
    by_cases hk : c.2.2.1 ≤ k
    · rw [undo_le hk]
    · rw [undo_gt hk, undo_len k r, List.length_set]
theorem undo_append (k : Int) (z : AL) : ∀ (r : List AC) (ls : List AL), (∀ c ∈ r, c.1.toNat < ls.length) → undo k r (ls ++ [z]) = ((undo k r ls).1, (undo k r ls).2 ++ [z])
  | [], ls, _ => rfl
  | c :: r, ls, h => by
    by_cases hk : c.2.2.1 ≤ k
    · rw [undo_le hk, undo_le hk]
    · have hc := h c (List.mem_cons_self ..)
      have e : (ls ++ [z]).getD c.1.toNat (none, none) = ls.getD c.1.toNat (none, none) := by
        rw [List.getD_eq_getElem?_getD, List.getD_eq_getElem?_getD, List.getElem?_append_left hc]
      rw [undo_gt hk, undo_gt hk, e, List.set_append_left _ _ hc]
      exact undo_append k z r _ fun d hd => by rw [List.length_set]; exact h d (List.mem_cons_of_mem _ hd)
theorem keeps_asrt {L : Int} {w : List AL} {m : M} (h : Keeps L w m) (up : Bool) (v : Int) (x : Q2) (y : Int) : Keeps L w (asrt up m v x y).1 := by
  unfold asrt
  split
  · rename_i hv
    dsimp only
    split
    · exact h
    · split
      · exact h
      · obtain ⟨h1, h2, h3⟩ := h
        refine ⟨h1, ?_, by show _ ≤ (List.set _ _ _).length; rw [List.length_set]; exact h3⟩
        have hi : v.toNat < m.limits.length := by omega
        show ((undo L (m.changes ++ [(v, up, m.level, own up (m.limits.getD v.toNat (none, none)))]).reverse (m.limits.set v.toNat (put up (m.limits.getD v.toNat (none, none)) (some (x, y))))).2).take w.length = w
        rw [List.reverse_append]
        show ((undo L ((v, up, m.level, own up (m.limits.getD v.toNat (none, none))) :: m.changes.reverse) _).2).take w.length = w
        rw [undo_gt (show ¬m.level ≤ L by omega)]
        dsimp only
        rw [getD_set_self _ _ hi, List.set_set, put_put, put_own, set_getD_self _ hi]
        exact h2
  · exact h
theorem keeps_push {L : Int} {w : List AL} {m : M} (h : Keeps L w m) : Keeps L w (pushM m) := ⟨by have := h.1; show L < m.level + 1; omega, h.2⟩
theorem keeps_grow {L : Int} {w : List AL} {m : M} {K : Nat} (ok : m.ok K) (h : Keeps L w m) : Keeps L w (growM m).1 := by
  unfold growM
  split
  · exact h
  · obtain ⟨h1, h2, h3⟩ := h
    refine ⟨h1, ?_, by show w.length ≤ (m.limits ++ [(none, none)]).length; rw [List.length_append]; omega⟩
    show ((undo L m.changes.reverse (m.limits ++ [(none, none)])).2).take w.length = w
    rw [undo_append L _ _ _ fun c hc => by have := ok.chg c (List.mem_reverse.1 hc); omega]
    dsimp only
    rw [List.take_append_of_le_length (by rw [undo_len]; exact h3)]
    exact h2
theorem keeps_back {L : Int} {w : List AL} {m : M} (h : Keeps L w m) {k : Int} (hk : L < k) : Keeps L w (backM m k).1 := by
  unfold backM
  split
  · exact h
  · obtain ⟨h1, h2, h3⟩ := h
    refine ⟨hk, ?_, by show _ ≤ (undo k _ _).2.length; rw [undo_len]; exact h3⟩
    show ((undo L ((undo k m.changes.reverse m.limits).1.reverse).reverse (undo k m.changes.reverse m.limits).2).2).take w.length = w
    rw [List.reverse_reverse, undo_undo (by omega)]
    exact h2
theorem play_len : ∀ (os : List Dt50) (m : M), m.limits.length ≤ (playM m os).limits.length := by
  have key : ∀ (m : M) (o : Dt50), m.limits.length ≤ (moveM m o).limits.length := by
    intro m o
    have ha : ∀ up v x w, (asrt up m v x w).1.limits.length = m.limits.length := by
      intro up v x w
      unfold asrt
      split
      · dsimp only
        split
        · rfl
        · split
          · rfl
          · exact List.length_set
      · rfl
    unfold moveM
    split
    · rw [ha]; exact Nat.le_refl _
    split
    · rw [ha]; exact Nat.le_refl _
    split
    · exact Nat.le_refl _
    split
    · unfold backM
      split
      · exact Nat.le_refl _
      · show _ ≤ (undo _ _ _).2.length
        rw [undo_len]; exact Nat.le_refl _
    split
    · unfold growM
      split
      · exact Nat.le_refl _
      · show _ ≤ (m.limits ++ [_]).length
        rw [List.length_append]; omega
    · exact Nat.le_refl _
  intro os
  induction os with
  | nil => intro m; exact Nat.le_refl _
  | cons o os ih => intro m; exact Nat.le_trans (key m o) (ih (moveM m o))

/-! ### no lower bound above the upper one -/
def Cl (ls : List AL) : Prop := ∀ l ∈ ls, ∀ x u y t, l.1 = some (x, u) → l.2 = some (y, t) → ¬dlt y x
def ClU : List AC → List AL → Prop
  | [], ls => Cl ls
  | c :: r, ls => Cl ls ∧ ClU r (ls.set c.1.toNat (put c.2.1 (ls.getD c.1.toNat (none, none)) c.2.2.2))
theorem ClU.cl : ∀ {r : List AC} {ls : List AL}, ClU r ls → Cl ls
  | [], _, h => h
  | _ :: _, _, h => h.1
theorem ClU.undo (k : Int) : ∀ {r : List AC} {ls : List AL}, ClU r ls → ClU (Try.undo k r ls).1 (Try.undo k r ls).2
  | [], _, h => h
  | c :: r, ls, h => by
    by_cases hk : c.2.2.1 ≤ k
    · rw [undo_le hk]; exact h
    · rw [undo_gt hk]; exact ClU.undo k h.2
theorem Cl.append {ls : List AL} (h : Cl ls) : Cl (ls ++ [(none, none)]) := by
  intro l hl x u y t h1 h2
  rcases List.mem_append.1 hl with g | g
  · exact h l g x u y t h1 h2
  · rw [List.mem_singleton.1 g] at h1; cases h1
theorem ClU.append : ∀ {r : List AC} {ls : List AL}, (∀ c ∈ r, c.1.toNat < ls.length) → ClU r ls → ClU r (ls ++ [(none, none)])
  | [], _, _, h => Cl.append h
  | c :: r, ls, hc, h => by
    have hi := hc c (List.mem_cons_self ..)
    have e : (ls ++ [((none, none) : AL)]).getD c.1.toNat (none, none) = ls.getD c.1.toNat (none, none) := by
      rw [List.getD_eq_getElem?_getD, List.getD_eq_getElem?_getD, List.getElem?_append_left hi]
    refine ⟨Cl.append h.1, ?_⟩
    rw [e, List.set_append_left _ _ hi]
    exact ClU.append (fun d hd => by rw [List.length_set]; exact hc d (List.mem_cons_of_mem _ hd)) h.2
def Cm (m : M) : Prop := ClU m.changes.reverse m.limits
theorem cm_asrt {m : M} (h : Cm m) (up : Bool) (v : Int) (x : Q2) (w : Int) : Cm (asrt up m v x w).1 := by
  unfold asrt
  split
  · rename_i hv
    dsimp only
    split
    · exact h
    · split
      · exact h
      · rename_i hk hc
        have hi : v.toNat < m.limits.length := by omega
        show ClU (m.changes ++ [(v, up, m.level, own up (m.limits.getD v.toNat (none, none)))]).reverse (m.limits.set v.toNat (put up (m.limits.getD v.toNat (none, none)) (some (x, w))))
        rw [List.reverse_append]
        show Cl _ ∧ ClU m.changes.reverse _
        dsimp only
        rw [getD_set_self _ _ hi, List.set_set, put_put, put_own, set_getD_self _ hi]
        refine ⟨?_, h⟩
        intro l hl a s b t h1 h2
        rcases List.mem_or_eq_of_mem_set hl with g | g
        · exact h.cl l g a s b t h1 h2
        · subst g
          generalize m.limits.getD v.toNat (none, none) = l at hk hc h1 h2
          obtain ⟨lo, hi⟩ := l
          cases up with
          | false =>
            cases h1
            have h2 : hi = some (b, t) := h2
            subst h2
            intro g
            refine hc ?_
            show tb true b x = true
            exact decide_eq_true (dcmp_lt.2 g)
          | true =>
            cases h2
            have h1 : lo = some (a, s) := h1
            subst h1
            intro g
            refine hc ?_
            show tb false a x = true
            exact decide_eq_true (dcmp_gt.2 g)
  · exact h
theorem cm_move {m : M} {K : Nat} (ok : m.ok K) (h : Cm m) (o : Dt50) : Cm (moveM m o) := by
  unfold moveM
  split
  · exact cm_asrt h _ _ _ _
  split
  · exact cm_asrt h _ _ _ _
  split
  · exact h
  split
  · unfold backM
    split
    · exact h
    · show ClU (Try.undo _ _ _).1.reverse.reverse _
      rw [List.reverse_reverse]
      exact ClU.undo _ h
  split
  · unfold growM
    split
    · exact h
    · exact ClU.append (fun c hc => by have := ok.chg c (List.mem_reverse.1 hc); omega) h
  · exact h
theorem cm_play : ∀ {os : List Dt50} {m : M} {K : Nat}, m.ok K → (∀ o ∈ os, OkO o) → Cm m → Cm (playM m os)
  | [], m, K, _, _, h => h
  | o :: os, m, K, ok, ho, h => cm_play (os := os) (move_ok ok (ho o (List.mem_cons_self ..))) (fun p hp => ho p (List.mem_cons_of_mem _ hp)) (cm_move ok h o)
theorem cm_new (n : Nat) : Cm (newM n) := by
  intro l hl x u y t h1 h2
  rw [List.eq_of_mem_replicate hl] at h1; cases h1
end Go.Fx.Try
