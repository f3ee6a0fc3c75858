/- The store of bounds as what it means: bounds with their numbers, and what each call makes of them. -/
import Derived.Test.YthmdbafinpmojaaGreatQA
import Derived.Test.YthmdbafinpmojaaGreatUA
namespace Go.Fx.Tryz
open Go Go.Fx Go.Fx.Num
set_option linter.unusedVariables false
set_option linter.unusedSimpArgs false

/-! ### what is meant -/
abbrev Q2 := Rat × Rat
/-- A bound: none, or a number and why. -/
abbrev AB := Option (Q2 × Int)
abbrev AL := AB × AB
abbrev AC := Int × Bool × Int × AB
structure M where
  level : Int
  changes : List AC
  limits : List AL
noncomputable def bI : AB → Dt66
  | none => zt66
  | some (x, w) => (true, dcan x, w)
noncomputable def lI (l : AL) : Dt68 := (bI l.1, bI l.2)
noncomputable def cI (c : AC) : Dt70 := (c.1, c.2.1, c.2.2.1, bI c.2.2.2)
noncomputable def mS (m : M) : Dt81 := ((m.level, m.changes.map cI), (true, m.limits.map lI))
noncomputable def mR (m : M) : Dt32 := (m.limits.map lI, m.level, m.changes.map cI)
/-- How long a list of limbs may be. -/
def SZ : Nat := 35184372087808
def Bk (b : AB) : Prop := ∀ x w, b = some (x, w) → Dn (dcan x) x SZ
theorem Bk.none : Bk none := fun x w h => by cases h
theorem Bk.some {x : Q2} {w : Int} (h : Dn (dcan x) x SZ) : Bk (some (x, w)) := fun y v e => by cases e; exact h
structure M.ok (m : M) (K : Nat) : Prop where
  lims : ∀ l ∈ m.limits, Bk l.1 ∧ Bk l.2
  chg : ∀ c ∈ m.changes, Bk c.2.2.2 ∧ 0 ≤ c.1 ∧ c.1 < m.limits.length
  nl : m.limits.length ≤ 65536
  nc : m.changes.length ≤ K
  lev : 0 ≤ m.level ∧ m.level ≤ K

/-! ### the order of a number and a bound -/
/-- x is tighter than y. -/
def tb (up : Bool) (x y : Q2) : Bool := bif up then decide (dcmp x y < 0) else decide (0 < dcmp x y)
theorem dcmp_swap (x y : Q2) : (dcmp x y < 0 ↔ 0 < dcmp y x) ∧ (0 < dcmp x y ↔ dcmp y x < 0) := by
  rw [dcmp_lt, dcmp_gt, dcmp_gt, dcmp_lt]
  exact ⟨Iff.rfl, Iff.rfl⟩
def belowB (b : AB) (x : Q2) : Bool := match b with
  | none => false
  | some (y, _) => tb false x y
def aboveB (b : AB) (x : Q2) : Bool := match b with
  | none => false
  | some (y, _) => tb true x y
theorem below_F {b : AB} {a : Dt44} {x : Q2} (hb : Bk b) (ha : Dn a x SZ) : bounds_below.F (bI b, a, ()) = some (belowB b x, ()) := by
  refine bounds_below.of 0 _ a ?_
  match b, hb with
  | none, _ => exact no rfl rfl
  | some (y, w), hb =>
    refine yes rfl (st ((hb y w rfl).Cmp_F ha (by decide)) ?_)
    show some (decide (dcmp y x < 0), ()) = some (decide (0 < dcmp x y), ())
    rw [decide_eq_decide.2 (dcmp_swap y x).1]
theorem above_F {b : AB} {a : Dt44} {x : Q2} (hb : Bk b) (ha : Dn a x SZ) : bounds_above.F (bI b, a, ()) = some (aboveB b x, ()) := by
  refine bounds_above.of 0 _ a ?_
  match b, hb with
  | none, _ => exact no rfl rfl
  | some (y, w), hb =>
    refine yes rfl (st ((hb y w rfl).Cmp_F ha (by decide)) ?_)
    show some (decide (0 < dcmp y x), ()) = some (decide (dcmp x y < 0), ())
    rw [decide_eq_decide.2 (dcmp_swap y x).2]

/-! ### places -/
theorem getD_map {l : List AL} {v : Int} : List.getD (l.map lI) v.toNat zt68 = lI (l.getD v.toNat (none, none)) := by
  rw [List.getD_eq_getElem?_getD, List.getD_eq_getElem?_getD, List.getElem?_map]
  cases l[v.toNat]? <;> rfl
theorem getD_mem {α : Type} {l : List α} {z : α} {v : Int} (h : 0 ≤ v ∧ v < l.length) : l.getD v.toNat z ∈ l := by
  rw [List.getD_eq_getElem?_getD, List.getElem?_eq_getElem (by omega)]
  exact List.getElem_mem _
theorem in_range {v : Int} {n : Nat} (h : 0 ≤ v ∧ v < n) : (decide (0 ≤ v) && decide (v < (n : Int))) = true := by simp [h]
theorem wrong_F (d : Dt81) (h : d.2.1 = true) (v : Int) : bounds_Store_wrong.F d (v, ()) = some ((), (if 0 ≤ v ∧ v < d.2.2.length then 0 else 61, ()), d) := by
  refine bounds_Store_wrong.of d v _ fun G => ⟨0, st (is_F d) (no (by show (!d.2.1) = false; rw [h]; rfl) ?_)⟩
  by_cases h1 : v < 0
  · rw [if_neg (by omega)]; exact yes (decide_eq_true h1) rfl
  refine no (decide_eq_false h1) ?_
  by_cases h2 : v ≥ d.2.2.length
  · rw [if_neg (by omega)]; exact yes (decide_eq_true h2) rfl
  · rw [if_pos (by omega)]; exact no (decide_eq_false h2) rfl
theorem note_F (lev : Int) (cs : List Dt70) (v : Int) (up : Bool) (b : Dt66) (h : cs.length < 925904528652) : bounds_trail_note.F (lev, cs) (v, up, b, ()) = some ((), (), (lev, cs ++ [(v, up, lev, b)])) :=
  bounds_trail_note.of (lev, cs) v up b _ fun G => ⟨0, yes (decide_eq_true (by show cs.length + 1 < 925904528653; omega)) rfl⟩

/-! ### asserting -/
def own (up : Bool) (l : AL) : AB := bif up then l.2 else l.1
def oth (up : Bool) (l : AL) : AB := bif up then l.1 else l.2
def put (up : Bool) (l : AL) (b : AB) : AL := bif up then (l.1, b) else (b, l.2)
def kept (up : Bool) (b : AB) (x : Q2) : Bool := match b with
  | none => false
  | some (y, _) => !tb up x y
def clash (up : Bool) (b : AB) (x : Q2) : Bool := match b with
  | none => false
  | some (y, _) => tb (!up) y x
def whyOf (b : AB) : Int := match b with
  | none => 0
  | some (_, w) => w
def asrt (up : Bool) (m : M) (v : Int) (x : Q2) (w : Int) : M × (Int × Int) × Int :=
  if 0 ≤ v ∧ v < m.limits.length then
    let l := m.limits.getD v.toNat (none, none)
    if kept up (own up l) x = true then (m, (0, 0), 0)
    else if clash up (oth up l) x = true then (m, (2, whyOf (oth up l)), 0)
    else (⟨m.level, m.changes ++ [(v, up, m.level, own up l)], m.limits.set v.toNat (put up l (some (x, w)))⟩, (1, 0), 0)
  else (m, (0, 0), 61)
theorem tb_swap (up : Bool) (x y : Q2) : tb (!up) y x = tb up x y := by
  cases up
  · show decide (dcmp y x < 0) = decide (0 < dcmp x y)
    exact decide_eq_decide.2 (dcmp_swap y x).1
  · show decide (0 < dcmp y x) = decide (dcmp x y < 0)
    exact decide_eq_decide.2 (dcmp_swap y x).2
theorem clash_low (b : AB) (x : Q2) : clash false b x = belowB b x := by
  match b with
  | none => rfl
  | some (y, w) => exact tb_swap false x y
theorem clash_up (b : AB) (x : Q2) : clash true b x = aboveB b x := by
  match b with
  | none => rfl
  | some (y, w) => exact tb_swap true x y
theorem why_bI (b : AB) : (bI b).2.2 = whyOf b := by cases b <;> rfl
theorem lims_at {m : M} {K : Nat} (h : m.ok K) {v : Int} (hv : 0 ≤ v ∧ v < m.limits.length) : Bk (m.limits.getD v.toNat (none, none)).1 ∧ Bk (m.limits.getD v.toNat (none, none)).2 := h.lims _ (getD_mem hv)
theorem set_map (l : List AL) (i : Nat) (a : AL) : List.set (l.map lI) i (lI a) = (l.set i a).map lI := by rw [List.map_set]

theorem Lift_gen (d : Dt81) (v : Int) (a : Dt44) (w : Int) (b1 b2 : Bool) (n : Dt44) (hd : d.2.1 = true) (hv : 0 ≤ v ∧ v < d.2.2.length) (hn : d.1.2.length < 925904528652)
    (h1 : bounds_below.F ((List.getD d.2.2 v.toNat zt68).1, a, ()) = some (b1, ())) (h2 : bounds_below.F ((List.getD d.2.2 v.toNat zt68).2, a, ()) = some (b2, ())) (h3 : delta_Norm.F (a, ()) = some (n, ())) :
    bounds_Store_Lift.F d (v, a, w, ()) = some (if (List.getD d.2.2 v.toNat zt68).1.1 = true ∧ b1 = false then ((), ((0, 0), 0, ()), d) else if b2 = true then ((), ((2, (List.getD d.2.2 v.toNat zt68).2.2.2), 0, ()), d)
      else ((), ((1, 0), 0, ()), ((d.1.1, d.1.2 ++ [(v, false, d.1.1, (List.getD d.2.2 v.toNat zt68).1)]), (d.2.1, List.set d.2.2 v.toNat ((true, n, w), (List.getD d.2.2 v.toNat zt68).2))))) := by
  refine bounds_Store_Lift.of d v a w _ fun G => ⟨0, ?_⟩
  refine st (wrong_F d hd v) ?_
  rw [if_pos hv]
  refine no rfl (yes (in_range hv) ?_)
  dsimp only
  have hN := note_F d.1.1 d.1.2 v false (List.getD d.2.2 v.toNat zt68).1 hn
  by_cases hb : (List.getD d.2.2 v.toNat zt68).1.1 = true
  rotate_left
  · refine no (Bool.eq_false_iff.2 hb) (st h2 ?_)
    rw [if_neg (fun h => hb h.1)]
    cases b2 with
    | true => exact yes rfl rfl
    | false => exact no rfl (st hN (st h3 rfl))
  · refine yes hb (st h1 ?_)
    cases b1 with
    | false => rw [if_pos ⟨hb, rfl⟩]; exact yes rfl rfl
    | true =>
      rw [if_neg (fun h => by cases h.2)]
      refine no rfl (st h2 ?_)
      cases b2 with
      | true => exact yes rfl rfl
      | false => exact no rfl (st hN (st h3 rfl))
theorem Press_gen (d : Dt81) (v : Int) (a : Dt44) (w : Int) (b1 b2 : Bool) (n : Dt44) (hd : d.2.1 = true) (hv : 0 ≤ v ∧ v < d.2.2.length) (hn : d.1.2.length < 925904528652)
    (h1 : bounds_above.F ((List.getD d.2.2 v.toNat zt68).2, a, ()) = some (b1, ())) (h2 : bounds_above.F ((List.getD d.2.2 v.toNat zt68).1, a, ()) = some (b2, ())) (h3 : delta_Norm.F (a, ()) = some (n, ())) :
    bounds_Store_Press.F d (v, a, w, ()) = some (if (List.getD d.2.2 v.toNat zt68).2.1 = true ∧ b1 = false then ((), ((0, 0), 0, ()), d) else if b2 = true then ((), ((2, (List.getD d.2.2 v.toNat zt68).1.2.2), 0, ()), d)
      else ((), ((1, 0), 0, ()), ((d.1.1, d.1.2 ++ [(v, true, d.1.1, (List.getD d.2.2 v.toNat zt68).2)]), (d.2.1, List.set d.2.2 v.toNat ((List.getD d.2.2 v.toNat zt68).1, (true, n, w)))))) := by
  refine bounds_Store_Press.of d v a w _ fun G => ⟨0, ?_⟩
  refine st (wrong_F d hd v) ?_
  rw [if_pos hv]
  refine no rfl (yes (in_range hv) ?_)
  dsimp only
  have hN := note_F d.1.1 d.1.2 v true (List.getD d.2.2 v.toNat zt68).2 hn
  by_cases hb : (List.getD d.2.2 v.toNat zt68).2.1 = true
  rotate_left
  · refine no (Bool.eq_false_iff.2 hb) (st h2 ?_)
    rw [if_neg (fun h => hb h.1)]
    cases b2 with
    | true => exact yes rfl rfl
    | false => exact no rfl (st hN (st h3 rfl))
  · refine yes hb (st h1 ?_)
    cases b1 with
    | false => rw [if_pos ⟨hb, rfl⟩]; exact yes rfl rfl
    | true =>
      rw [if_neg (fun h => by cases h.2)]
      refine no rfl (st h2 ?_)
      cases b2 with
      | true => exact yes rfl rfl
      | false => exact no rfl (st hN (st h3 rfl))

theorem Lift_F {m : M} {K : Nat} (h : m.ok K) (hK : K < 925904528652) (v : Int) {a : Dt44} {x : Q2} (ha : Dn a x SZ) (w : Int) :
    bounds_Store_Lift.F (mS m) (v, a, w, ()) = some ((), ((asrt false m v x w).2.1, (asrt false m v x w).2.2, ()), mS (asrt false m v x w).1) := by
  have hlen : (mS m).2.2.length = m.limits.length := List.length_map ..
  have hn : (mS m).1.2.length < 925904528652 := by
    have : (mS m).1.2.length = m.changes.length := List.length_map ..
    have := h.nc; omega
  by_cases hv : 0 ≤ v ∧ v < m.limits.length
  · have hb := lims_at h hv
    have hg : List.getD (mS m).2.2 v.toNat zt68 = lI (m.limits.getD v.toNat (none, none)) := getD_map
    have key := Lift_gen (mS m) v a w _ _ _ rfl (by rw [hlen]; exact hv) hn (by rw [hg]; exact below_F hb.1 ha) (by rw [hg]; exact below_F hb.2 ha) (ha.Norm_F (by decide))
    rw [key, hg]
    unfold asrt
    rw [if_pos hv]
    generalize m.limits.getD v.toNat (none, none) = l at hb hg ⊢
    obtain ⟨lo, hi⟩ := l
    have hcl : clash false (oth false (lo, hi)) x = belowB hi x := clash_low hi x
    have e1 : ((lI (lo, hi)).1.1 = true ∧ belowB lo x = false) ↔ kept false (own false (lo, hi)) x = true := by
      show _ ↔ kept false lo x = true
      match lo with
      | none => simp [lI, bI, kept]
      | some (y, u) => simp [lI, bI, kept, belowB]
    by_cases hk : kept false (own false (lo, hi)) x = true
    · rw [if_pos (e1.2 hk), if_pos hk]
    · rw [if_neg (fun g => hk (e1.1 g)), if_neg hk]
      by_cases hc : belowB hi x = true
      · rw [if_pos hc, if_pos (hcl.trans hc)]
        show some ((), ((2, (bI hi).2.2), 0, ()), mS m) = _
        rw [why_bI]; rfl
      · rw [if_neg hc, if_neg (fun g => hc (hcl.symm.trans g))]
        refine congrArg some (congrArg (Prod.mk ()) (congrArg (Prod.mk _) ?_))
        unfold mS
        rw [List.map_append, ← set_map]
        rfl
  · refine bounds_Store_Lift.of (mS m) v a w _ fun G => ⟨0, st (wrong_F (mS m) rfl v) ?_⟩
    unfold asrt
    rw [hlen, if_neg hv, if_neg hv]
    exact yes rfl rfl
theorem Press_F {m : M} {K : Nat} (h : m.ok K) (hK : K < 925904528652) (v : Int) {a : Dt44} {x : Q2} (ha : Dn a x SZ) (w : Int) :
    bounds_Store_Press.F (mS m) (v, a, w, ()) = some ((), ((asrt true m v x w).2.1, (asrt true m v x w).2.2, ()), mS (asrt true m v x w).1) := by
  have hlen : (mS m).2.2.length = m.limits.length := List.length_map ..
  have hn : (mS m).1.2.length < 925904528652 := by
    have : (mS m).1.2.length = m.changes.length := List.length_map ..
    have := h.nc; omega
  by_cases hv : 0 ≤ v ∧ v < m.limits.length
  · have hb := lims_at h hv
    have hg : List.getD (mS m).2.2 v.toNat zt68 = lI (m.limits.getD v.toNat (none, none)) := getD_map
    have key := Press_gen (mS m) v a w _ _ _ rfl (by rw [hlen]; exact hv) hn (by rw [hg]; exact above_F hb.2 ha) (by rw [hg]; exact above_F hb.1 ha) (ha.Norm_F (by decide))
    rw [key, hg]
    unfold asrt
    rw [if_pos hv]
    generalize m.limits.getD v.toNat (none, none) = l at hb hg ⊢
    obtain ⟨lo, hi⟩ := l
    have hcl : clash true (oth true (lo, hi)) x = aboveB lo x := clash_up lo x
    have e1 : ((lI (lo, hi)).2.1 = true ∧ aboveB hi x = false) ↔ kept true (own true (lo, hi)) x = true := by
      show _ ↔ kept true hi x = true
      match hi with
      | none => simp [lI, bI, kept]
      | some (y, u) => simp [lI, bI, kept, aboveB]
    by_cases hk : kept true (own true (lo, hi)) x = true
    · rw [if_pos (e1.2 hk), if_pos hk]
    · rw [if_neg (fun g => hk (e1.1 g)), if_neg hk]
      by_cases hc : aboveB lo x = true
      · rw [if_pos hc, if_pos (hcl.trans hc)]
        show some ((), ((2, (bI lo).2.2), 0, ()), mS m) = _
        rw [why_bI]; rfl
      · rw [if_neg hc, if_neg (fun g => hc (hcl.symm.trans g))]
        refine congrArg some (congrArg (Prod.mk ()) (congrArg (Prod.mk _) ?_))
        unfold mS
        rw [List.map_append, ← set_map]
        rfl
  · refine bounds_Store_Press.of (mS m) v a w _ fun G => ⟨0, st (wrong_F (mS m) rfl v) ?_⟩
    unfold asrt
    rw [hlen, if_neg hv, if_neg hv]
    exact yes rfl rfl
end Go.Fx.Tryz

namespace Go.Fx.Tryz
open Go Go.Fx Go.Fx.Num
set_option linter.unusedVariables false
set_option linter.unusedSimpArgs false

def pushM (m : M) : M := ⟨m.level + 1, m.changes, m.limits⟩
theorem Push_F {m : M} {K : Nat} (h : m.ok K) (hK : K < 925904528652) : bounds_Store_Push.F (mS m) () = some ((), (), mS (pushM m)) := by
  refine bounds_Store_Push.of (mS m) _ fun G => ⟨0, st (is_F (mS m)) (yes rfl ?_)⟩
  have := h.lev
  have e : IntKind.i64.wrap (m.level + 1) = m.level + 1 := wrap_ok (by omega) (by omega)
  show some (((), (), ((IntKind.i64.wrap (m.level + 1), m.changes.map cI), (true, m.limits.map lI))), G.b, ([] : List Value)) = _
  rw [e]; rfl
def growM (m : M) : M × Int × Int := if m.limits.length = 65536 then (m, 0, 2) else (⟨m.level, m.changes, m.limits ++ [(none, none)]⟩, (m.limits.length : Int), 0)
theorem GrowM_F {m : M} {K : Nat} (h : m.ok K) : bounds_Store_Grow.F (mS m) () = some ((), ((growM m).2.1, (growM m).2.2, ()), mS (growM m).1) := by
  have hlen : (mS m).2.2.length = m.limits.length := List.length_map ..
  rw [Grow_F (d := mS m) rfl (by rw [hlen]; exact h.nl)]
  unfold growS growM
  rw [hlen]
  by_cases h6 : m.limits.length = 65536
  · rw [if_pos h6, if_pos h6]
  · rw [if_neg h6, if_neg h6]
    show some ((), (((m.limits.length : Int), (0 : Int), ())), ((m.level, m.changes.map cI), (true, m.limits.map lI ++ [zt68]))) = some ((), (((m.limits.length : Int), (0 : Int), ())), ((m.level, m.changes.map cI), (true, (m.limits ++ [(none, none)]).map lI)))
    rw [List.map_append]; rfl
theorem VarsM_F (m : M) : bounds_Store_Vars.F (mS m) () = some ((), ((m.limits.length : Int), ()), mS m) := by
  have := Vars_F (d := mS m) rfl
  rw [show (mS m).2.2.length = m.limits.length from List.length_map ..] at this
  exact this
theorem LevelM_F (m : M) : bounds_Store_Level.F (mS m) () = some ((), (m.level, ()), mS m) := Level_F (d := mS m) rfl

/-! ### what Limit tells -/
theorem copied_F {b : AB} (hb : Bk b) : bounds_copied.F (bI b, ()) = some (bI b, ()) := by
  refine bounds_copied.of 0 _ ?_
  unfold bounds_copied.e
  match b, hb with
  | none, _ => exact yes rfl rfl
  | some (x, w), hb => exact no rfl (st ((hb x w rfl).Norm_F (by decide)) rfl)
theorem copiedLimit_F {l : AL} (h1 : Bk l.1) (h2 : Bk l.2) : bounds_copiedLimit.F (lI l, ()) = some (lI l, ()) :=
  bounds_copiedLimit.of 0 _ (st (copied_F h1) (st (copied_F h2) rfl))
def limM (m : M) (v : Int) : AL × Int := if 0 ≤ v ∧ v < m.limits.length then (m.limits.getD v.toNat (none, none), 0) else ((none, none), 61)
theorem Limit_F {m : M} {K : Nat} (h : m.ok K) (v : Int) : bounds_Store_Limit.F (mS m) (v, ()) = some ((), (lI (limM m v).1, (limM m v).2, ()), mS m) := by
  have hlen : (mS m).2.2.length = m.limits.length := List.length_map ..
  refine bounds_Store_Limit.of (mS m) v _ fun G => ⟨0, st (wrong_F (mS m) rfl v) ?_⟩
  unfold limM
  by_cases hv : 0 ≤ v ∧ v < m.limits.length
  · rw [hlen, if_pos hv, if_pos hv]
    refine no rfl (yes (in_range hv) ?_)
    have hb := lims_at h hv
    have hg : List.getD (mS m).2.2 v.toNat zt68 = lI (m.limits.getD v.toNat (none, none)) := getD_map
    dsimp only
    have key := copiedLimit_F hb.1 hb.2
    rw [← hg] at key ⊢
    exact st key rfl
  · rw [hlen, if_neg hv, if_neg hv]
    exact yes rfl rfl

/-! ### the way back -/
/-- What is left of the changes (from the last one on) and of the bounds behind the way back to level k. -/
def undo (k : Int) : List AC → List AL → List AC × List AL
  | [], l => ([], l)
  | c :: r, l => if c.2.2.1 ≤ k then (c :: r, l) else undo k r (l.set c.1.toNat (put c.2.1 (l.getD c.1.toNat (none, none)) c.2.2.2))
def backM (m : M) (k : Int) : M × Int :=
  if k < 0 ∨ m.level < k then (m, 80) else (⟨k, (undo k m.changes.reverse m.limits).1.reverse, (undo k m.changes.reverse m.limits).2⟩, 0)
/-- The change that is taken next, whether there is one, and those ahead of it (from the last one on). -/
noncomputable def nxt (k : Int) : List AC → Dt70 × Bool × List AC
  | [] => (zt70, false, [])
  | c :: r => if c.2.2.1 ≤ k then (zt70, false, c :: r) else (cI c, true, r)
theorem nxt_le {k : Int} {c : AC} {r : List AC} (h : c.2.2.1 ≤ k) : nxt k (c :: r) = (zt70, false, c :: r) := if_pos h
theorem nxt_gt {k : Int} {c : AC} {r : List AC} (h : ¬c.2.2.1 ≤ k) : nxt k (c :: r) = (cI c, true, r) := if_neg h
theorem undo_le {k : Int} {c : AC} {r : List AC} {l : List AL} (h : c.2.2.1 ≤ k) : undo k (c :: r) l = (c :: r, l) := if_pos h
theorem undo_gt {k : Int} {c : AC} {r : List AC} {l : List AL} (h : ¬c.2.2.1 ≤ k) : undo k (c :: r) l = undo k r (l.set c.1.toNat (put c.2.1 (l.getD c.1.toNat (none, none)) c.2.2.2)) := if_neg h
theorem getD_last {r : List AC} {c : AC} : List.getD (((c :: r).reverse).map cI) r.length zt70 = cI c := by
  rw [List.getD_eq_getElem?_getD, List.reverse_cons, List.map_append, List.getElem?_append_right (by simp)]
  simp
theorem take_last {r : List AC} {c : AC} : List.take r.length (((c :: r).reverse).map cI) = (r.reverse).map cI := by
  rw [List.reverse_cons, List.map_append, List.take_append_of_le_length (by simp), List.take_of_length_le (by simp)]
theorem last_F (lev k : Int) (r : List AC) (hr : r.length < 900000000000) : bounds_trail_last.F (lev, (r.reverse).map cI) (k, ()) = some ((), ((nxt k r).1, (nxt k r).2.1, ()), (lev, ((nxt k r).2.2.reverse).map cI)) := by
  refine bounds_trail_last.of (lev, (r.reverse).map cI) k _ fun G => ⟨0, ?_⟩
  have hlen : (((r.reverse).map cI).length : Int) = r.length := by simp
  unfold bounds_trail_last.e
  simp only [hlen]
  match r, hr, hlen with
  | [], hr, hlen => exact yes rfl rfl
  | c :: r, hr, hlen =>
    have hr : r.length + 1 < 900000000000 := hr
    have e : IntKind.i64.wrap (((c :: r).length : Int) - 1) = (r.length : Int) := by
      rw [show ((c :: r).length : Int) - 1 = (r.length : Int) by simp]
      exact wrap_ok (by omega) (by omega)
    rw [e]
    have hin : (decide (0 ≤ (r.length : Int)) && decide ((r.length : Int) < ((c :: r).length : Int))) = true := by simp <;> omega
    refine no (decide_eq_false (by omega)) (yes hin ?_)
    simp only [Int.toNat_natCast, getD_last, take_last]
    by_cases hk : c.2.2.1 ≤ k
    · rw [nxt_le hk]
      exact yes (decide_eq_true hk) rfl
    · rw [nxt_gt hk]
      exact no (decide_eq_false hk) (yes hin (yes (by simp <;> omega) rfl))
noncomputable def LB (K : Nat) (g : Nat) (lev : Int) (cs : List Dt70) (ls : List Dt68) (k : Int) (c : Dt70) (ok : Bool) : Option ((Unit × (Int × Unit) × Dt81) × Nat × List Value) :=
  bounds_Store_Back.L6 K g lev cs true ls k c.1 c.2.1 c.2.2.1 c.2.2.2.1 c.2.2.2.2.1.1.1.1 c.2.2.2.2.1.1.1.2 c.2.2.2.2.1.1.2 c.2.2.2.2.1.2.1.1 c.2.2.2.2.1.2.1.2 c.2.2.2.2.1.2.2 c.2.2.2.2.2 ok
theorem LB_stop (K g : Nat) (lev : Int) (cs : List Dt70) (ls : List Dt68) (k : Int) (c : Dt70) : LB (K + 1) g lev cs ls k c false = some (((), (0, ()), ((k, cs), (true, ls))), g, []) := by
  unfold LB
  rw [bounds_Store_Back.L6_succ]
  unfold bounds_Store_Back.b6
  exact no rfl rfl
theorem LB_step (K g : Nat) (lev : Int) (cs : List Dt70) (ls : List AL) (k : Int) (c : AC) (hc : 0 ≤ c.1 ∧ c.1 < ls.length) {y : Dt70} {b : Bool} {cs' : List Dt70}
    (hl : bounds_trail_last.F (lev, cs) (k, ()) = some ((), (y, b, ()), (lev, cs'))) :
    LB (K + 1) g lev cs (ls.map lI) k (cI c) true = LB K g lev cs' ((ls.set c.1.toNat (put c.2.1 (ls.getD c.1.toNat (none, none)) c.2.2.2)).map lI) k y b := by
  unfold LB
  rw [bounds_Store_Back.L6_succ]
  unfold bounds_Store_Back.b6
  have hlen : ((ls.map lI).length : Int) = ls.length := by simp
  have hg : List.getD (ls.map lI) c.1.toNat zt68 = lI (ls.getD c.1.toNat (none, none)) := getD_map
  obtain ⟨v, up, l, was⟩ := c
  refine yes rfl ?_
  have hin : (decide (0 ≤ v) && decide (v < ((ls.map lI).length : Int))) = true := by rw [hlen]; exact in_range hc
  cases up with
  | true =>
    refine yes rfl (yes hin (st hl ?_))
    rw [← set_map]
    dsimp only at hg
    show bounds_Store_Back.L6 K g lev cs' true (List.set (ls.map lI) v.toNat ((List.getD (ls.map lI) v.toNat zt68).1, bI was)) k _ _ _ _ _ _ _ _ _ _ _ _ = _
    rw [hg]; rfl
  | false =>
    refine no rfl (yes hin (st hl ?_))
    rw [← set_map]
    dsimp only at hg
    show bounds_Store_Back.L6 K g lev cs' true (List.set (ls.map lI) v.toNat (bI was, (List.getD (ls.map lI) v.toNat zt68).2)) k _ _ _ _ _ _ _ _ _ _ _ _ = _
    rw [hg]; rfl
theorem LB_all (g : Nat) (lev k : Int) : ∀ (r : List AC) (ls : List AL), r.length < 900000000000 → (∀ c ∈ r, 0 ≤ c.1 ∧ c.1 < ls.length) →
    ∃ j, ∀ K, LB (K + j) g lev (((nxt k r).2.2.reverse).map cI) (ls.map lI) k (nxt k r).1 (nxt k r).2.1 = some (((), (0, ()), ((k, ((undo k r ls).1.reverse).map cI), (true, (undo k r ls).2.map lI))), g, [])
  | [], ls, _, _ => ⟨1, fun K => LB_stop K g lev _ _ k _⟩
  | c :: r, ls, hr, hc => by
    by_cases hk : c.2.2.1 ≤ k
    · rw [nxt_le hk, undo_le hk]
      exact ⟨1, fun K => LB_stop K g lev _ _ k _⟩
    · rw [nxt_gt hk, undo_gt hk]
      have hr : r.length + 1 < 900000000000 := hr
      obtain ⟨j, hj⟩ := LB_all g lev k r (ls.set c.1.toNat (put c.2.1 (ls.getD c.1.toNat (none, none)) c.2.2.2)) (by omega) fun d hd => by
        rw [List.length_set]; exact hc d (List.mem_cons_of_mem _ hd)
      refine ⟨j + 1, fun K => ?_⟩
      rw [← Nat.add_assoc, LB_step (K + j) g lev _ ls k c (hc c (List.mem_cons_self ..)) (last_F lev k r (by omega))]
      exact hj K
theorem Back_F {m : M} {K : Nat} (h : m.ok K) (hK : K < 900000000000) (k : Int) : bounds_Store_Back.F (mS m) (k, ()) = some ((), ((backM m k).2, ()), mS (backM m k).1) := by
  have hr : m.changes.reverse.length < 900000000000 := by rw [List.length_reverse]; have := h.nc; omega
  have hc : ∀ c ∈ m.changes.reverse, 0 ≤ c.1 ∧ c.1 < m.limits.length := fun c hc => (h.chg c (List.mem_reverse.1 hc)).2
  refine bounds_Store_Back.of (mS m) k _ fun G => ?_
  obtain ⟨j, hj⟩ := LB_all G.b m.level k m.changes.reverse m.limits hr hc
  refine ⟨0 + j, st (is_F (mS m)) (no rfl ?_)⟩
  unfold backM
  by_cases h1 : k < 0
  · rw [if_pos (.inl h1)]; exact yes (decide_eq_true h1) rfl
  refine no (decide_eq_false h1) ?_
  by_cases h2 : m.level < k
  · rw [if_pos (.inr h2)]; exact yes (decide_eq_true h2) rfl
  refine no (decide_eq_false h2) ?_
  rw [if_neg (by omega)]
  have hl := last_F m.level k m.changes.reverse hr
  rw [List.reverse_reverse] at hl
  exact st hl (hj 0)
end Go.Fx.Tryz

namespace Go.Fx.Tryz
open Go Go.Fx Go.Fx.Num
set_option linter.unusedVariables false
set_option linter.unusedSimpArgs false

theorem bdn_id (b : AB) : bdn id (bI b) = bI b := by cases b <;> rfl
theorem lin_id (l : AL) : lin id (lI l) = lI l := by unfold lin lI; rw [bdn_id, bdn_id]
theorem chn_id (c : AC) : chn id (cI c) = cI c := by unfold chn cI; rw [bdn_id]
theorem stn_id (m : M) : stn id (mR m) = mR m := by
  unfold stn mR
  simp only [List.map_map]
  have e1 : (lin id ∘ lI) = lI := funext lin_id
  have e2 : (chn id ∘ cI) = cI := funext chn_id
  rw [e1, e2]
theorem NB_id {b : AB} (h : Bk b) : NB id (bI b) := by
  intro hb
  match b, h with
  | some (x, w), h => exact (h x w rfl).rNorm_F (by decide)
theorem okL {m : M} {K : Nat} (h : m.ok K) : ∀ l ∈ (mR m).1, NB id l.1 ∧ NB id l.2 := by
  intro l hl
  obtain ⟨a, ha, rfl⟩ := List.mem_map.1 hl
  exact ⟨NB_id (h.lims a ha).1, NB_id (h.lims a ha).2⟩
theorem okC {m : M} {K : Nat} (h : m.ok K) : ∀ c ∈ (mR m).2.2, NB id c.2.2.2 := by
  intro c hc
  obtain ⟨a, ha, rfl⟩ := List.mem_map.1 hc
  exact NB_id (h.chg a ha).1
theorem lenL (m : M) : (mR m).1.length = m.limits.length := List.length_map ..
theorem lenC (m : M) : (mR m).2.2.length = m.changes.length := List.length_map ..
theorem CopyM_F {m : M} {K : Nat} (h : m.ok K) (hK : K < 900000000000) : fulcrumref08_Copy.F (mR m, ()) = some (mR m, ()) := by
  rw [Copy_F (okL h) (okC h) (by rw [lenL]; exact h.nl) (by rw [lenC]; have := h.nc; omega), stn_id]
theorem RGrowM_F {m : M} {K : Nat} (h : m.ok K) (hK : K < 900000000000) : fulcrumref08_Grow.F (mR m, ()) = some (mR (growM m).1, (growM m).2.1, (growM m).2.2, ()) := by
  rw [RGrow_F (okL h) (okC h) (by rw [lenL]; exact h.nl) (by rw [lenC]; have := h.nc; omega)]
  unfold growR growM
  rw [lenL, stn_id]
  by_cases h6 : m.limits.length = 65536
  · rw [if_pos h6, if_pos h6]
  · rw [if_neg h6, if_neg h6]
    show some (((m.limits.map lI ++ [zt68], (mR m).2)), (m.limits.length : Int), (0 : Int), ()) = some ((((m.limits ++ [(none, none)]).map lI, (mR m).2)), (m.limits.length : Int), (0 : Int), ())
    rw [List.map_append]; rfl
theorem RPush_F {m : M} {K : Nat} (h : m.ok K) (hK : K < 900000000000) : fulcrumref08_Push.F (mR m, ()) = some (mR (pushM m), ()) := by
  refine fulcrumref08_Push.of 0 (mR m) (st (CopyM_F h hK) ?_)
  have := h.lev
  have e : IntKind.i64.wrap (m.level + 1) = m.level + 1 := wrap_ok (by omega) (by omega)
  show some ((m.limits.map lI, (IntKind.i64.wrap (m.level + 1), m.changes.map cI)), ()) = _
  rw [e]; rfl
theorem Is_F (s : Dt32) (v : Int) : fulcrumref08_Is.F (s, v, ()) = some (decide (0 ≤ v ∧ v < s.1.length), ()) := by
  refine fulcrumref08_Is.of 0 s v ?_
  unfold fulcrumref08_Is.e
  by_cases h : v ≥ 0
  · refine yes (decide_eq_true h) ?_
    show some (decide (v < s.1.length), ()) = _
    congr 2
    exact decide_eq_decide.2 ⟨fun g => ⟨h, g⟩, fun g => g.2⟩
  · refine no (decide_eq_false h) ?_
    rw [decide_eq_false (by omega)]
theorem tighter_F (up : Bool) {a : Dt44} {x y : Q2} (ha : Dn a x SZ) (hy : Dn (dcan y) y SZ) : fulcrumref08_tighter.F (up, a, dcan y, ()) = some (tb up x y, ()) := by
  refine fulcrumref08_tighter.of 0 up a (dcan y) ?_
  unfold fulcrumref08_tighter.e
  cases up with
  | true => exact yes rfl (st (ha.rCmp_F hy (by decide)) rfl)
  | false => exact no rfl (st (ha.rCmp_F hy (by decide)) rfl)

/-! ### asserting -/
def own' (up : Bool) (l : Dt68) : Dt66 := bif up then l.2 else l.1
def oth' (up : Bool) (l : Dt68) : Dt66 := bif up then l.1 else l.2
def put' (up : Bool) (l : Dt68) (b : Dt66) : Dt68 := bif up then (l.1, b) else (b, l.2)
theorem Assert_gen (s : Dt32) (v : Int) (up : Bool) (a : Dt44) (w : Int) (t1 t2 : Bool) (n : Dt44) (hv : 0 ≤ v ∧ v < s.1.length) (hn : s.2.2.length < 925904528652) (hc : fulcrumref08_Copy.F (s, ()) = some (s, ()))
    (h1 : (own' up (List.getD s.1 v.toNat zt68)).1 = true → fulcrumref08_tighter.F (up, a, (own' up (List.getD s.1 v.toNat zt68)).2.1, ()) = some (t1, ()))
    (h2 : (oth' up (List.getD s.1 v.toNat zt68)).1 = true → fulcrumref08_tighter.F (up, a, (oth' up (List.getD s.1 v.toNat zt68)).2.1, ()) = some (t2, ())) (h3 : fulcrumref05_Norm.F (a, ()) = some (n, ())) :
    fulcrumref08_Assert.F (s, v, up, a, w, ()) = some (if (own' up (List.getD s.1 v.toNat zt68)).1 = true ∧ t1 = false then (s, (0, 0), 0, ())
      else if (oth' up (List.getD s.1 v.toNat zt68)).1 = true ∧ t2 = true then (s, (2, (oth' up (List.getD s.1 v.toNat zt68)).2.2), 0, ())
      else ((List.set s.1 v.toNat (put' up (List.getD s.1 v.toNat zt68) (true, n, w)), (s.2.1, s.2.2 ++ [(v, up, s.2.1, own' up (List.getD s.1 v.toNat zt68))])), (1, 0), 0, ())) := by
  refine fulcrumref08_Assert.of 0 s v up a w ?_
  refine st (Is_F s v) (no (by rw [decide_eq_true hv]; rfl) (yes (in_range hv) (yes (in_range hv) ?_)))
  have hlen : decide (List.length s.2.2 + 1 < 925904528653) = true := decide_eq_true (by omega)
  cases up with
  | true =>
    refine yes rfl ?_
    dsimp only [own', oth', cond_true] at h1 h2
    by_cases g1 : (List.getD s.1 v.toNat zt68).2.1 = true
    · refine yes g1 (st (h1 g1) ?_)
      cases t1 with
      | false => rw [if_pos ⟨g1, rfl⟩]; exact yes rfl rfl
      | true =>
        rw [if_neg fun h => by cases h.2]
        refine no rfl ?_
        by_cases g2 : (List.getD s.1 v.toNat zt68).1.1 = true
        · refine yes g2 (st (h2 g2) ?_)
          cases t2 with
          | true => rw [if_pos ⟨g2, rfl⟩]; exact yes rfl rfl
          | false =>
            rw [if_neg fun h => by cases h.2]
            exact no rfl (st hc (yes hlen (st h3 (yes rfl (yes (in_range hv) rfl)))))
        · refine no (Bool.eq_false_iff.2 g2) ?_
          rw [if_neg fun h => g2 h.1]
          exact st hc (yes hlen (st h3 (yes rfl (yes (in_range hv) rfl))))
    · refine no (Bool.eq_false_iff.2 g1) ?_
      rw [if_neg fun h => g1 h.1]
      by_cases g2 : (List.getD s.1 v.toNat zt68).1.1 = true
      · refine yes g2 (st (h2 g2) ?_)
        cases t2 with
        | true => rw [if_pos ⟨g2, rfl⟩]; exact yes rfl rfl
        | false =>
          rw [if_neg fun h => by cases h.2]
          exact no rfl (st hc (yes hlen (st h3 (yes rfl (yes (in_range hv) rfl)))))
      · refine no (Bool.eq_false_iff.2 g2) ?_
        rw [if_neg fun h => g2 h.1]
        exact st hc (yes hlen (st h3 (yes rfl (yes (in_range hv) rfl))))
  | false =>
    refine no rfl ?_
    dsimp only [own', oth', cond_false] at h1 h2
    by_cases g1 : (List.getD s.1 v.toNat zt68).1.1 = true
    · refine yes g1 (st (h1 g1) ?_)
      cases t1 with
      | false => rw [if_pos ⟨g1, rfl⟩]; exact yes rfl rfl
      | true =>
        rw [if_neg fun h => by cases h.2]
        refine no rfl ?_
        by_cases g2 : (List.getD s.1 v.toNat zt68).2.1 = true
        · refine yes g2 (st (h2 g2) ?_)
          cases t2 with
          | true => rw [if_pos ⟨g2, rfl⟩]; exact yes rfl rfl
          | false =>
            rw [if_neg fun h => by cases h.2]
            exact no rfl (st hc (yes hlen (st h3 (no rfl (yes (in_range hv) rfl)))))
        · refine no (Bool.eq_false_iff.2 g2) ?_
          rw [if_neg fun h => g2 h.1]
          exact st hc (yes hlen (st h3 (no rfl (yes (in_range hv) rfl))))
    · refine no (Bool.eq_false_iff.2 g1) ?_
      rw [if_neg fun h => g1 h.1]
      by_cases g2 : (List.getD s.1 v.toNat zt68).2.1 = true
      · refine yes g2 (st (h2 g2) ?_)
        cases t2 with
        | true => rw [if_pos ⟨g2, rfl⟩]; exact yes rfl rfl
        | false =>
          rw [if_neg fun h => by cases h.2]
          exact no rfl (st hc (yes hlen (st h3 (no rfl (yes (in_range hv) rfl)))))
      · refine no (Bool.eq_false_iff.2 g2) ?_
        rw [if_neg fun h => g2 h.1]
        exact st hc (yes hlen (st h3 (no rfl (yes (in_range hv) rfl))))
theorem own_I (up : Bool) (l : AL) : own' up (lI l) = bI (own up l) := by cases up <;> rfl
theorem oth_I (up : Bool) (l : AL) : oth' up (lI l) = bI (oth up l) := by cases up <;> rfl
theorem put_I (up : Bool) (l : AL) (x : Q2) (w : Int) : put' up (lI l) (true, dcan x, w) = lI (put up l (some (x, w))) := by cases up <;> rfl
def tbB (up : Bool) (b : AB) (x : Q2) : Bool := match b with
  | none => false
  | some (y, _) => tb up x y
theorem tbB_F (up : Bool) {a : Dt44} {x : Q2} (ha : Dn a x SZ) {b : AB} (hb : Bk b) (h : (bI b).1 = true) : fulcrumref08_tighter.F (up, a, (bI b).2.1, ()) = some (tbB up b x, ()) := by
  match b, hb with
  | some (y, w), hb => exact tighter_F up ha (hb y w rfl)
theorem Assert_F {m : M} {K : Nat} (h : m.ok K) (hK : K < 900000000000) (up : Bool) (v : Int) {a : Dt44} {x : Q2} (ha : Dn a x SZ) (w : Int) :
    fulcrumref08_Assert.F (mR m, v, up, a, w, ()) = some (mR (asrt up m v x w).1, (asrt up m v x w).2.1, (asrt up m v x w).2.2, ()) := by
  by_cases hv : 0 ≤ v ∧ v < m.limits.length
  · have hb := lims_at h hv
    have hg : List.getD (mR m).1 v.toNat zt68 = lI (m.limits.getD v.toNat (none, none)) := getD_map
    have ho : Bk (own up (m.limits.getD v.toNat (none, none))) ∧ Bk (oth up (m.limits.getD v.toNat (none, none))) := by
      cases up
      · exact hb
      · exact ⟨hb.2, hb.1⟩
    have key := Assert_gen (mR m) v up a w _ _ _ (by rw [lenL]; exact hv) (by rw [lenC]; have := h.nc; omega) (CopyM_F h hK)
      (by rw [hg, own_I]; exact tbB_F up ha ho.1) (by rw [hg, oth_I]; exact tbB_F up ha ho.2) (ha.rNorm_F (by decide))
    rw [key, hg, own_I, oth_I, put_I]
    unfold asrt
    rw [if_pos hv]
    generalize m.limits.getD v.toNat (none, none) = l at hb hg ho ⊢
    have e1 : ((bI (own up l)).1 = true ∧ tbB up (own up l) x = false) ↔ kept up (own up l) x = true := by
      match own up l with
      | none => simp [bI, kept, zt66]
      | some (y, u) => simp [bI, kept, tbB]
    have e2 : ((bI (oth up l)).1 = true ∧ tbB up (oth up l) x = true) ↔ clash up (oth up l) x = true := by
      match oth up l with
      | none => simp [bI, clash, zt66]
      | some (y, u) => simp [bI, clash, tbB, tb_swap]
    by_cases hk : kept up (own up l) x = true
    · rw [if_pos (e1.2 hk), if_pos hk]
    · rw [if_neg (fun g => hk (e1.1 g)), if_neg hk]
      by_cases hc : clash up (oth up l) x = true
      · rw [if_pos (e2.2 hc), if_pos hc, why_bI]
      · rw [if_neg (fun g => hc (e2.1 g)), if_neg hc]
        have e3 : (mR m).1 = m.limits.map lI := rfl
        rw [e3, set_map]
        show some ((_, (m.level, m.changes.map cI ++ [cI (v, up, m.level, own up l)])), _) = some ((_, (m.level, (m.changes ++ [(v, up, m.level, own up l)]).map cI)), _)
        rw [List.map_append]; rfl
  · refine fulcrumref08_Assert.of 0 (mR m) v up a w (st (Is_F (mR m) v) ?_)
    unfold asrt
    rw [if_neg hv]
    exact yes (by rw [decide_eq_false (by rw [lenL]; exact hv)]; rfl) rfl

/-! ### the way back -/
theorem undo_F (lev : Int) (ls : List AL) (c : AC) (r : List AC) (hr : r.length < 900000000000) (hc : 0 ≤ c.1 ∧ c.1 < ls.length) :
    fulcrumref08_undo.F () ((ls.map lI, (lev, ((c :: r).reverse).map cI)), ()) = some ((), (((ls.set c.1.toNat (put c.2.1 (ls.getD c.1.toNat (none, none)) c.2.2.2)).map lI, (lev, (r.reverse).map cI)), ()), ()) := by
  refine fulcrumref08_undo.of () _ _ fun G => ⟨0, ?_⟩
  have hlen : ((((c :: r).reverse).map cI).length : Int) = (c :: r).length := by simp
  have e : IntKind.i64.wrap (((c :: r).length : Int) - 1) = (r.length : Int) := by
    rw [show ((c :: r).length : Int) - 1 = (r.length : Int) by simp]
    exact wrap_ok (by omega) (by omega)
  have hin : (decide (0 ≤ (r.length : Int)) && decide ((r.length : Int) < ((c :: r).length : Int))) = true := by simp <;> omega
  unfold fulcrumref08_undo.e
  simp only [hlen, e, Int.toNat_natCast, getD_last, take_last]
  refine yes hin (yes (by simp <;> omega) ?_)
  have hll : ((ls.map lI).length : Int) = ls.length := by simp
  have hg : List.getD (ls.map lI) c.1.toNat zt68 = lI (ls.getD c.1.toNat (none, none)) := getD_map
  have hi : (decide (0 ≤ c.1) && decide (c.1 < ((ls.map lI).length : Int))) = true := by rw [hll]; exact in_range hc
  obtain ⟨v, up, l, was⟩ := c
  cases up with
  | true =>
    refine yes rfl (yes hi ?_)
    rw [← set_map]
    show some (((), ((List.set (ls.map lI) v.toNat ((List.getD (ls.map lI) v.toNat zt68).1, bI was), (lev, (r.reverse).map cI)), ()), ()), 0, ([] : List Value)) = _
    rw [hg]; rfl
  | false =>
    refine no rfl (yes hi ?_)
    rw [← set_map]
    show some (((), ((List.set (ls.map lI) v.toNat (bI was, (List.getD (ls.map lI) v.toNat zt68).2), (lev, (r.reverse).map cI)), ()), ()), 0, ([] : List Value)) = _
    rw [hg]; rfl
theorem RB_all (k z : Int) : ∀ (r : List AC) (ls : List AL) (lev : Int), r.length < 900000000000 → (∀ c ∈ r, 0 ≤ c.1 ∧ c.1 < ls.length) →
    ∃ j, ∀ K, fulcrumref08_Back.L4 (K + j) k z (ls.map lI) lev ((r.reverse).map cI) = some (((undo k r ls).2.map lI, (k, ((undo k r ls).1.reverse).map cI)), 0, ())
  | [], ls, lev, _, _ => ⟨1, fun K => by
    rw [fulcrumref08_Back.L4_succ]
    unfold fulcrumref08_Back.b4
    exact no rfl rfl⟩
  | c :: r, ls, lev, hr, hc => by
    have hr : r.length + 1 < 900000000000 := hr
    have hlen : ((((c :: r).reverse).map cI).length : Int) = (c :: r).length := by simp
    have e : IntKind.i64.wrap (((c :: r).length : Int) - 1) = (r.length : Int) := by
      rw [show ((c :: r).length : Int) - 1 = (r.length : Int) by simp]
      exact wrap_ok (by omega) (by omega)
    have hin : (decide (0 ≤ (r.length : Int)) && decide ((r.length : Int) < ((c :: r).length : Int))) = true := by simp <;> omega
    have step : ∀ K, fulcrumref08_Back.L4 (K + 1) k z (ls.map lI) lev (((c :: r).reverse).map cI) = if c.2.2.1 ≤ k then some ((ls.map lI, (k, ((c :: r).reverse).map cI)), 0, ()) else
        fulcrumref08_Back.L4 K k z ((ls.set c.1.toNat (put c.2.1 (ls.getD c.1.toNat (none, none)) c.2.2.2)).map lI) lev ((r.reverse).map cI) := by
      intro K
      rw [fulcrumref08_Back.L4_succ]
      unfold fulcrumref08_Back.b4
      simp only [hlen, e, Int.toNat_natCast, getD_last]
      refine yes (decide_eq_true (by simp <;> omega)) (yes hin ?_)
      by_cases hk : c.2.2.1 ≤ k
      · rw [if_pos hk]
        exact no (decide_eq_false (by show ¬ c.2.2.1 > k; omega)) rfl
      · rw [if_neg hk]
        exact yes (decide_eq_true (by show c.2.2.1 > k; omega)) (st (undo_F lev ls c r (by omega) (hc c (List.mem_cons_self ..))) rfl)
    by_cases hk : c.2.2.1 ≤ k
    · rw [undo_le hk]
      exact ⟨1, fun K => by rw [step, if_pos hk]⟩
    · rw [undo_gt hk]
      obtain ⟨j, hj⟩ := RB_all k z r (ls.set c.1.toNat (put c.2.1 (ls.getD c.1.toNat (none, none)) c.2.2.2)) lev (by omega) fun d hd => by
        rw [List.length_set]; exact hc d (List.mem_cons_of_mem _ hd)
      exact ⟨j + 1, fun K => by rw [← Nat.add_assoc, step, if_neg hk]; exact hj K⟩
theorem RBack_F {m : M} {K : Nat} (h : m.ok K) (hK : K < 900000000000) (k : Int) : fulcrumref08_Back.F (mR m, k, ()) = some (mR (backM m k).1, (backM m k).2, ()) := by
  have hr : m.changes.reverse.length < 900000000000 := by rw [List.length_reverse]; have := h.nc; omega
  have hc : ∀ c ∈ m.changes.reverse, 0 ≤ c.1 ∧ c.1 < m.limits.length := fun c hc => (h.chg c (List.mem_reverse.1 hc)).2
  obtain ⟨j, hj⟩ := RB_all k 0 m.changes.reverse m.limits m.level hr hc
  refine fulcrumref08_Back.of (0 + j) (mR m) k ?_
  unfold fulcrumref08_Back.e backM
  by_cases h1 : k < 0
  · rw [if_pos (.inl h1)]; exact yes (decide_eq_true h1) rfl
  refine no (decide_eq_false h1) ?_
  by_cases h2 : m.level < k
  · rw [if_pos (.inr h2)]; exact yes (decide_eq_true h2) rfl
  refine no (decide_eq_false h2) ?_
  rw [if_neg (by omega)]
  refine st (CopyM_F h hK) ?_
  have := hj 0
  rw [List.reverse_reverse] at this
  exact this
end Go.Fx.Tryz
