/- A state that is handed in: what it means; whether it may be (plain). -/
import Derived.Test.YthmdbafinpmojaaGreatVA
import Derived.Test.YthmdbafinpmojaaGreatW08c
namespace Go.Fx.Tryz
open Go Go.Fx Go.Fx.Num
set_option linter.unusedVariables false
set_option linter.unusedSimpArgs false
def nz (r : Dt42) : Bool := !r.1.1 && ((List.length r.1.2 : Int) + (List.length r.2 : Int) == 0)
def Zb (b : Dt66) : Bool := b.1 || ((b.2.2 == 0) && (nz b.2.1.1 && nz b.2.1.2))
noncomputable def bv (b : Dt66) : AB := bif b.1 then some (dv b.2.1, b.2.2) else none
noncomputable def lv (l : Dt68) : AL := (bv l.1, bv l.2)
noncomputable def cv (c : Dt70) : AC := (c.1, c.2.1, c.2.2.1, bv c.2.2.2)
noncomputable def mv (b : Dt32) : M := ⟨b.2.1, b.2.2.map cv, b.1.map lv⟩
def Bd (b : Dt66) : Prop := Dn b.2.1 (dv b.2.1) SZ
theorem Bd.bk {b : Dt66} (h : Bd b) : Bk (bv b) := by
  intro x w e
  unfold bv at e
  cases hb : b.1 with
  | false => rw [hb] at e; cases e
  | true => rw [hb] at e; cases e; exact h.norm
theorem nz_F {r : Dt42} {q : Rat} (h : Rt r q SZ) : bounds_zero_1.F (r, ()) = some (nz r, ()) := by
  refine bounds_zero_1.of 0 r ?_
  have h1 := h.num.len
  have h2 := h.den.len
  unfold SZ at h1 h2
  have e : IntKind.i64.wrap ((List.length r.1.2 : Int) + (List.length r.2 : Int)) = (List.length r.1.2 : Int) + (List.length r.2 : Int) := wrap_ok (by omega) (by omega)
  unfold bounds_zero_1.e nz
  cases r.1.1 with
  | true => exact no rfl rfl
  | false => exact yes rfl (by dsimp only; rw [e]; rfl)
theorem zero_F {b : Dt66} (h : Bd b) : bounds_zero.F (b, ()) = some (Zb b, ()) := by
  refine bounds_zero.of 0 b ?_
  unfold bounds_zero.e Zb
  cases hb : b.1 with
  | true => exact yes rfl rfl
  | false =>
    refine no rfl ?_
    cases hw : (b.2.2 == 0) with
    | false => exact no rfl rfl
    | true =>
      refine yes rfl (st (nz_F h.a) ?_)
      cases nz b.2.1.1 with
      | false => exact no rfl rfl
      | true => exact yes rfl (st (nz_F h.b) rfl)
theorem belowR_F {b : Dt66} (hb : Bd b) {a : Dt44} {x : Q2} (ha : Dn a x SZ) : bounds_below.F (b, a, ()) = some (belowB (bv b) x, ()) := by
  refine bounds_below.of 0 b a ?_
  unfold bounds_below.e bv
  cases h1 : b.1 with
  | false => exact no rfl rfl
  | true =>
    refine yes rfl (st (Dn.Cmp_F hb ha (by decide)) ?_)
    show some (decide (dcmp (dv b.2.1) x < 0), ()) = some (decide (0 < dcmp x (dv b.2.1)), ())
    rw [decide_eq_decide.2 (dcmp_swap (dv b.2.1) x).1]
theorem copiedR_F {b : Dt66} (h : Bd b) : bounds_copied.F (b, ()) = some (bI (bv b), ()) := by
  refine bounds_copied.of 0 _ ?_
  unfold bounds_copied.e bv
  cases h1 : b.1 with
  | false => exact yes rfl rfl
  | true => exact no rfl (st (Dn.Norm_F h (by decide)) rfl)
theorem copiedLimitR_F {l : Dt68} (h1 : Bd l.1) (h2 : Bd l.2) : bounds_copiedLimit.F (l, ()) = some (lI (lv l), ()) :=
  bounds_copiedLimit.of 0 _ (st (copiedR_F h1) (st (copiedR_F h2) rfl))
theorem copiedChangeR_F {c : Dt70} (h : Bd c.2.2.2) : bounds_copiedChange.F (c, ()) = some (cI (cv c), ()) := bounds_copiedChange.of 0 _ (st (copiedR_F h) rfl)
def cross (l : AL) : Bool := match l.1 with
  | none => false
  | some (x, _) => belowB l.2 x
noncomputable def goodL (l : Dt68) : Bool := Zb l.1 && (Zb l.2 && !cross (lv l))
def okCh (n : Nat) (lev p : Int) (c : Dt70) : Bool := decide (0 ≤ c.1 ∧ c.1 < n) && (decide (p ≤ c.2.2.1) && (decide (c.2.2.1 ≤ lev) && Zb c.2.2.2))
def chkC (n : Nat) (lev : Int) : Int → List Dt70 → Bool
  | _, [] => true
  | p, c :: r => okCh n lev p c && chkC n lev c.2.2.1 r
def loose (up : Bool) (was : AB) (x : Q2) : Bool := match was with
  | none => true
  | some (y, _) => tb up x y
def gbB : List AL → List AC → Bool
  | _, [] => true
  | l, c :: r => match own c.2.1 (l.getD c.1.toNat (none, none)) with
    | none => false
    | some (x, _) => loose c.2.1 c.2.2.2 x && gbB (l.set c.1.toNat (put c.2.1 (l.getD c.1.toNat (none, none)) c.2.2.2)) r
noncomputable def OkState (b : Dt32) : Bool := decide (b.1.length ≤ 65536 ∧ 0 ≤ b.2.1 ∧ b.2.1 ≤ 2147483647) && (b.1.all goodL && (chkC b.1.length b.2.1 0 b.2.2 && gbB (mv b).limits (mv b).changes.reverse))
def stp (ls : List AL) (c : AC) : Sum (List AL) Bool := match own c.2.1 (ls.getD c.1.toNat (none, none)) with
  | none => .inr false
  | some (x, _) => bif loose c.2.1 c.2.2.2 x then .inl (ls.set c.1.toNat (put c.2.1 (ls.getD c.1.toNat (none, none)) c.2.2.2)) else .inr false
noncomputable def stI : Sum (List AL) Bool → Sum Dt29 Bool
  | .inl ls => .inl (ls.map lI)
  | .inr b => .inr b
theorem rnd_F {ls : List AL} (hl : ∀ l ∈ ls, Bk l.1 ∧ Bk l.2) {c : AC} (hb : Bk c.2.2.2) (hc : 0 ≤ c.1 ∧ c.1 < ls.length) : gb_rnd (ls.map lI) (cI c) = some (stI (stp ls c)) := by
  obtain ⟨v, up, lev, was⟩ := c
  have hin : (decide (0 ≤ v) && decide (v < ((ls.map lI).length : Int))) = true := by rw [List.length_map]; exact in_range hc
  have hg : List.getD (ls.map lI) v.toNat Kt68.d = lI (ls.getD v.toNat (none, none)) := getD_map
  have hm := hl _ (getD_mem (z := (none, none)) hc)
  unfold gb_rnd stp
  dsimp only [cI]
  rw [hg]
  generalize ls.getD v.toNat (none, none) = l at hm
  obtain ⟨lo, hi⟩ := l
  refine yes hin ?_
  cases up with
  | true =>
    refine yes rfl (yes hin ?_)
    cases hi with
    | none => exact yes rfl rfl
    | some p =>
      obtain ⟨x, w⟩ := p
      refine no rfl ?_
      have ha := above_F hb (hm.2 x w rfl)
      cases was with
      | none => exact no rfl (congrArg some (congrArg Sum.inl (set_map ls v.toNat (lo, none))))
      | some q =>
        obtain ⟨y, u⟩ := q
        refine yes rfl (st ha ?_)
        show (bif not (tb true x y) then _ else _) = some (stI (bif tb true x y then _ else _))
        cases tb true x y with
        | false => rfl
        | true => exact no rfl (congrArg some (congrArg Sum.inl (set_map ls v.toNat (lo, some (y, u)))))
  | false =>
    refine no rfl ?_
    cases lo with
    | none => exact yes rfl rfl
    | some p =>
      obtain ⟨x, w⟩ := p
      refine no rfl ?_
      have ha := below_F hb (hm.1 x w rfl)
      cases was with
      | none => exact no rfl (congrArg some (congrArg Sum.inl (set_map ls v.toNat (none, hi))))
      | some q =>
        obtain ⟨y, u⟩ := q
        refine yes rfl (st ha ?_)
        show (bif not (tb false x y) then _ else _) = some (stI (bif tb false x y then _ else _))
        cases tb false x y with
        | false => rfl
        | true => exact no rfl (congrArg some (congrArg Sum.inl (set_map ls v.toNat (some (y, u), hi))))
theorem stp_len {ls ls' : List AL} {c : AC} (h : stp ls c = .inl ls') : ls'.length = ls.length ∧ ls' = ls.set c.1.toNat (put c.2.1 (ls.getD c.1.toNat (none, none)) c.2.2.2) := by
  unfold stp at h
  split at h
  · cases h
  · cases hl : loose c.2.1 c.2.2.2 _ with
    | false => rw [hl] at h; cases h
    | true => rw [hl] at h; cases h; exact ⟨List.length_set .., rfl⟩
theorem gbB_cons (ls : List AL) (c : AC) (r : List AC) : gbB ls (c :: r) = match stp ls c with
    | .inl ls' => gbB ls' r
    | .inr b => b := by
  unfold stp
  rw [gbB]
  cases own c.2.1 (ls.getD c.1.toNat (none, none)) with
  | none => rfl
  | some p =>
    obtain ⟨x, w⟩ := p
    dsimp only
    cases loose c.2.1 c.2.2.2 x <;> rfl
theorem gbk_F : ∀ {r : List AC} {ls : List AL}, (∀ l ∈ ls, Bk l.1 ∧ Bk l.2) → (∀ c ∈ r, Bk c.2.2.2 ∧ 0 ≤ c.1 ∧ c.1 < ls.length) → gbk (ls.map lI) (r.map cI) = some (gbB ls r)
  | [], ls, hl, hc => rfl
  | c :: r, ls, hl, hc => by
    have h := hc c (by simp)
    rw [List.map_cons, gbk, rnd_F hl h.1 h.2, gbB_cons]
    cases e : stp ls c with
    | inr b => rfl
    | inl ls' =>
      obtain ⟨e1, e2⟩ := stp_len e
      exact gbk_F (e2 ▸ set_ok hl _ (put_ok (getD_ok hl _) h.1)) (fun c' hc' => by rw [e1]; exact hc c' (by simp [hc']))
theorem goesBack_F {ls : List AL} {cs : List AC} (hl : ∀ l ∈ ls, Bk l.1 ∧ Bk l.2) (hc : ∀ c ∈ cs, Bk c.2.2.2 ∧ 0 ≤ c.1 ∧ c.1 < ls.length) (hn : cs.length < 4611686018427387904) :
    bounds_goesBack.fn (ls.map lI) (cs.map cI, ()) = some (gbB ls cs.reverse, ()) := by
  rw [bounds_goesBack.fn_eq]
  unfold gb_fn
  rw [if_pos, ← List.map_reverse, gbk_F hl (fun c h => hc c (by simpa using h))]
  · rfl
  · refine ⟨by rw [List.length_map]; exact hn, fun zs => ∃ l2 : List AL, zs = l2.map lI ∧ (∀ l ∈ l2, Bk l.1 ∧ Bk l.2) ∧ l2.length = ls.length, ⟨ls, rfl, hl, rfl⟩, ?_⟩
    rintro zs x ⟨l2, rfl, h2, hlen⟩ hx
    obtain ⟨c, hcm, rfl⟩ := List.mem_map.1 hx
    have h := hc c hcm
    refine ⟨_, rnd_F h2 h.1 (by rw [hlen]; exact h.2), fun zs2 e => ?_⟩
    cases e2 : stp l2 c with
    | inr b => rw [e2] at e; cases e
    | inl ls' =>
      rw [e2] at e
      cases e
      obtain ⟨e3, e4⟩ := stp_len e2
      exact ⟨ls', rfl, e4 ▸ set_ok h2 _ (put_ok (getD_ok h2 _) h.1), e3.trans hlen⟩
noncomputable def Res (b : Dt32) (ok : Bool) : (Option Dt81) × (Int × Unit) × Unit := bif ok then (some (mS (mv b)), ((0 : Int), ()), ()) else (none, ((81 : Int), ()), ())
structure Hyp (b : Dt32) : Prop where
  lims : ∀ l ∈ b.1, Bd l.1 ∧ Bd l.2
  chg : ∀ c ∈ b.2.2, Bd c.2.2.2
  nc : b.2.2.length ≤ 1048576
theorem Hyp.bks {b : Dt32} (h : Hyp b) : ∀ l ∈ (mv b).limits, Bk l.1 ∧ Bk l.2 := fun l hl => by
  obtain ⟨a, ha, rfl⟩ := List.mem_map.1 hl
  exact ⟨(h.lims a ha).1.bk, (h.lims a ha).2.bk⟩
def prevL (tr : List Dt70) : Nat → Int
  | 0 => 0
  | i + 1 => (tr.getD i zt70).2.2.1
theorem okCh_split {n : Nat} {lev p : Int} {c : Dt70} : okCh n lev p c = true ↔ (0 ≤ c.1 ∧ c.1 < n) ∧ p ≤ c.2.2.1 ∧ c.2.2.1 ≤ lev ∧ Zb c.2.2.2 = true := by
  unfold okCh
  simp only [Bool.and_eq_true, decide_eq_true_eq]
theorem L13_all (b : Dt32) (h : Hyp b) (hl : b.1.length ≤ 65536) : ∀ (d i : Nat), i + d = b.2.2.length → 0 ≤ prevL b.2.2 i → (∀ c ∈ b.2.2.take i, 0 ≤ c.1 ∧ c.1 < b.1.length) →
    ∃ j, ∀ k, bounds_Load.L13 (k + j) b.1 b.2.1 b.2.2 b.2.1 ((b.2.2.take i).map fun c => cI (cv c)) true (b.1.map fun l => lI (lv l)) b.2.2 b.2.2.length i = some (Res b (chkC b.1.length b.2.1 (prevL b.2.2 i) (b.2.2.drop i) && gbB (mv b).limits (mv b).changes.reverse), 0, []) := by
  obtain ⟨ls, lev, tr⟩ := b
  have hn : tr.length ≤ 1048576 := h.nc
  have hl : ls.length ≤ 65536 := hl
  intro d
  induction d with
  | zero =>
    intro i hi hp hr
    obtain rfl : i = tr.length := by simpa using hi
    refine ⟨1, fun k => ?_⟩
    rw [bounds_Load.L13_succ]
    unfold bounds_Load.b13
    refine no (decide_eq_false (by omega)) (yes (decide_eq_true (by rw [List.length_map]; show ls.length < _; omega)) ?_)
    have hgb := goesBack_F (ls := ls.map lv) (cs := tr.map cv) h.bks (fun c hc => by
      obtain ⟨a, ha, rfl⟩ := List.mem_map.1 hc
      refine ⟨(h.chg a ha).bk, ?_⟩
      have := hr a (by rw [List.take_length]; exact ha)
      rw [List.length_map]; exact this) (by rw [List.length_map]; omega)
    rw [List.map_map, List.map_map] at hgb
    rw [List.take_length, List.drop_length]
    refine st hgb ?_
    show (bif not (gbB (ls.map lv) (tr.map cv).reverse) then _ else _) = some (Res (ls, lev, tr) (true && gbB (ls.map lv) (tr.map cv).reverse), 0, [])
    cases gbB (ls.map lv) (tr.map cv).reverse with
    | false => rfl
    | true =>
      refine no rfl ?_
      show some ((some ((lev, tr.map fun c => cI (cv c)), (true, ls.map fun l => lI (lv l))), ((0 : Int), ()), ()), 0, []) = some ((some ((lev, (tr.map cv).map cI), (true, (ls.map lv).map lI)), ((0 : Int), ()), ()), 0, [])
      rw [List.map_map, List.map_map]; rfl
  | succ d ih =>
    intro i hi hp hr
    dsimp only at hi hp hr ⊢
    have hil : i < tr.length := by omega
    have hin : (decide (0 ≤ (i : Int)) && decide ((i : Int) < (tr.length : Int))) = true := by simp <;> omega
    have e1 : IntKind.i64.wrap ((i : Int) + 1) = ((i + 1 : Nat) : Int) := ((wrap_ok (by omega) (by omega)).trans (by omega))
    have hdrop : tr.drop i = tr[i] :: tr.drop (i + 1) := List.drop_eq_getElem_cons hil
    have hbd := h.chg _ (List.getElem_mem hil)
    have hz := zero_F hbd
    have hcp := copiedChangeR_F hbd
    have hnx : prevL tr (i + 1) = (tr[i]).2.2.1 := by show (tr.getD i zt70).2.2.1 = _; rw [List.getD_eq_getElem?_getD, List.getElem?_eq_getElem hil]; rfl
    have htake : tr.take (i + 1) = tr.take i ++ [tr[i]] := List.take_succ_eq_append_getElem hil
    rw [hdrop]
    show ∃ j, ∀ k, _ = some (Res (ls, lev, tr) ((okCh ls.length lev (prevL tr i) tr[i] && chkC ls.length lev (tr[i]).2.2.1 (tr.drop (i + 1))) && _), 0, [])
    cases hok : okCh ls.length lev (prevL tr i) tr[i] with
    | true =>
      obtain ⟨g1, g2, g3, g4⟩ := okCh_split.1 hok
      obtain ⟨j, hj⟩ := ih (i + 1) (by show i + 1 + d = tr.length; omega) (by show 0 ≤ prevL tr (i + 1); rw [hnx]; omega) (fun c hc => by
        have hc : c ∈ tr.take (i + 1) := hc
        rw [htake] at hc
        rcases List.mem_append.1 hc with hc | hc
        · exact hr c hc
        · obtain rfl : c = tr[i] := by simpa using hc
          exact g1)
      refine ⟨j + 1, fun k => ?_⟩
      have hj' := hj k
      dsimp only at hj'
      rw [hnx, htake, List.map_append, List.map_cons, List.map_nil] at hj'
      rw [← Nat.add_assoc, bounds_Load.L13_succ]
      unfold bounds_Load.b13
      rw [getD_at tr zt70 hil]
      generalize hc : tr[i] = c at *
      rw [g4] at hz
      refine yes (decide_eq_true (by omega)) (yes hin (no (decide_eq_false (by omega)) (no (decide_eq_false (by rw [List.length_map]; omega)) (no (decide_eq_false (by omega)) (no (decide_eq_false (by omega)) ?_)))))
      have hlen : List.length ((tr.take i).map fun c => cI (cv c)) + 1 < 925904528653 := by rw [List.length_map, List.length_take]; omega
      cases i with
      | zero =>
        refine no (decide_eq_false (by omega)) (st hz (no rfl (st hcp (yes (decide_eq_true hlen) ?_))))
        dsimp only
        rw [e1]
        exact hj'
      | succ i0 =>
        have e2 : IntKind.i64.wrap (((i0 + 1 : Nat) : Int) - 1) = (i0 : Int) := (wrap_ok (by omega) (by omega)).trans (by omega)
        refine yes (decide_eq_true (by omega)) ?_
        dsimp only
        rw [e2, getD_at tr zt70 (show i0 < tr.length by omega)]
        have hpv : prevL tr (i0 + 1) = (tr[i0]'(by omega)).2.2.1 := by show (tr.getD i0 zt70).2.2.1 = _; rw [List.getD_eq_getElem?_getD, List.getElem?_eq_getElem (by omega)]; rfl
        rw [hpv] at g2
        refine yes (by simp <;> omega) (no (decide_eq_false (by omega)) (st hz (no rfl (st hcp (yes (decide_eq_true hlen) ?_)))))
        rw [e1]
        exact hj'
    | false =>
      refine ⟨1, fun k => ?_⟩
      rw [bounds_Load.L13_succ]
      unfold bounds_Load.b13
      rw [getD_at tr zt70 hil]
      generalize hc : tr[i] = c at *
      show _ = some (Res (ls, lev, tr) false, 0, [])
      refine yes (decide_eq_true (by omega)) (yes hin ?_)
      by_cases c1 : c.1 < 0
      · exact yes (decide_eq_true c1) rfl
      refine no (decide_eq_false c1) ?_
      by_cases c2 : c.1 ≥ (ls.length : Int)
      · exact yes (decide_eq_true (by rw [List.length_map]; exact c2)) rfl
      refine no (decide_eq_false (by rw [List.length_map]; exact c2)) ?_
      by_cases c3 : c.2.2.1 < 0
      · exact yes (decide_eq_true c3) rfl
      refine no (decide_eq_false c3) ?_
      by_cases c4 : c.2.2.1 > lev
      · exact yes (decide_eq_true c4) rfl
      refine no (decide_eq_false c4) ?_
      have hz4 : prevL tr i ≤ c.2.2.1 → Zb c.2.2.2 = false := fun hp => by
        cases hz9 : Zb c.2.2.2 with
        | false => rfl
        | true => rw [okCh_split.2 ⟨⟨by omega, by omega⟩, hp, by omega, hz9⟩] at hok; cases hok
      cases i with
      | zero =>
        rw [hz4 (by show (0 : Int) ≤ _; omega)] at hz
        exact no (decide_eq_false (by omega)) (st hz (yes rfl rfl))
      | succ i0 =>
        have e2 : IntKind.i64.wrap (((i0 + 1 : Nat) : Int) - 1) = (i0 : Int) := (wrap_ok (by omega) (by omega)).trans (by omega)
        refine yes (decide_eq_true (by omega)) ?_
        dsimp only
        rw [e2, getD_at tr zt70 (show i0 < tr.length by omega)]
        have hpv : prevL tr (i0 + 1) = (tr[i0]'(by omega)).2.2.1 := by show (tr.getD i0 zt70).2.2.1 = _; rw [List.getD_eq_getElem?_getD, List.getElem?_eq_getElem (by omega)]; rfl
        refine yes (by simp <;> omega) ?_
        by_cases c5 : c.2.2.1 < (tr[i0]'(by omega)).2.2.1
        · exact yes (decide_eq_true c5) rfl
        refine no (decide_eq_false c5) ?_
        rw [hz4 (by rw [hpv]; omega)] at hz
        exact st hz (yes rfl rfl)
theorem L6_all (b : Dt32) (h : Hyp b) (hl : b.1.length ≤ 65536) : ∀ (d i : Nat), i + d = b.1.length →
    ∃ j, ∀ k, bounds_Load.L6 (k + j) b.1 b.2.1 b.2.2 b.2.1 true ((b.1.take i).map fun l => lI (lv l)) b.1 b.1.length i = some (Res b ((b.1.drop i).all goodL && (chkC b.1.length b.2.1 0 b.2.2 && gbB (mv b).limits (mv b).changes.reverse)), 0, []) := by
  intro d
  induction d with
  | zero =>
    intro i hi
    obtain rfl : i = b.1.length := by simpa using hi
    obtain ⟨j, hj⟩ := L13_all b h hl b.2.2.length 0 (by simp) (Int.le_refl _) (fun c hc => by simp at hc)
    refine ⟨j + 1, fun k => ?_⟩
    rw [← Nat.add_assoc, bounds_Load.L6_succ]
    unfold bounds_Load.b6
    refine no (decide_eq_false (by omega)) ?_
    rw [List.take_length, List.drop_length]
    exact hj k
  | succ d ih =>
    intro i hi
    have hil : i < b.1.length := by omega
    have hin : (decide (0 ≤ (i : Int)) && decide ((i : Int) < (b.1.length : Int))) = true := by simp <;> omega
    have e1 : IntKind.i64.wrap ((i : Int) + 1) = ((i + 1 : Nat) : Int) := ((wrap_ok (by omega) (by omega)).trans (by omega))
    have hdrop : b.1.drop i = b.1[i] :: b.1.drop (i + 1) := List.drop_eq_getElem_cons hil
    have htake : b.1.take (i + 1) = b.1.take i ++ [b.1[i]] := List.take_succ_eq_append_getElem hil
    obtain ⟨hb1, hb2⟩ := h.lims _ (List.getElem_mem hil)
    have z1 := zero_F hb1
    have z2 := zero_F hb2
    have hcp := copiedLimitR_F hb1 hb2
    have hbl := belowR_F hb2 hb1
    obtain ⟨j, hj⟩ := ih (i + 1) (by omega)
    refine ⟨j + 1, fun k => ?_⟩
    have hj' := hj k
    rw [htake, List.map_append, List.map_cons, List.map_nil] at hj'
    have hlen : List.length ((b.1.take i).map fun l => lI (lv l)) + 1 < 549755813888 := by rw [List.length_map, List.length_take]; omega
    rw [← Nat.add_assoc, bounds_Load.L6_succ, hdrop, List.all_cons]
    unfold bounds_Load.b6
    rw [getD_at b.1 zt68 hil]
    have hgl : ∀ l : Dt68, goodL l = (Zb l.1 && (Zb l.2 && !cross (lv l))) := fun l => rfl
    have hcr : ∀ l : Dt68, cross (lv l) = bif l.1.1 then belowB (bv l.2) (dv l.1.2.1) else false := fun l => by
      unfold cross lv bv
      cases l.1.1 <;> rfl
    rw [hgl]
    have hcr := hcr b.1[i]
    generalize b.1[i] = l at *
    refine yes (decide_eq_true (by omega)) (yes hin (st z1 ?_))
    cases g1 : Zb l.1 with
    | false => rw [Bool.false_and]; exact yes rfl rfl
    | true =>
      refine no rfl (st z2 ?_)
      cases g2 : Zb l.2 with
      | false => rw [Bool.true_and, Bool.false_and]; exact yes rfl rfl
      | true =>
        refine no rfl ?_
        rw [Bool.true_and, Bool.true_and]
        rcases Bool.eq_false_or_eq_true l.1.1 with g3 | g3
        · rw [show cross (lv l) = belowB (bv l.2) (dv l.1.2.1) from by rw [hcr, g3]; rfl]
          refine yes g3 (st hbl ?_)
          cases belowB (bv l.2) (dv l.1.2.1) with
          | true => exact yes rfl rfl
          | false =>
            refine no rfl (st hcp (yes (decide_eq_true hlen) ?_))
            dsimp only
            rw [e1]
            exact hj'
        · rw [show cross (lv l) = false from by rw [hcr, g3]; rfl]
          refine no g3 (st hcp (yes (decide_eq_true hlen) ?_))
          dsimp only
          rw [e1]
          exact hj'
theorem Load_F (b : Dt32) (h : Hyp b) : bounds_Load.F () (b, ()) = some (Res b (OkState b)) := by
  refine bounds_Load.of () b _ fun G => ?_
  unfold bounds_Load.e OkState
  by_cases c1 : b.1.length ≤ 65536
  · obtain ⟨j, hj⟩ := L6_all b h c1 b.1.length 0 (by simp)
    refine ⟨0 + j, ?_⟩
    refine no (decide_eq_false (by omega)) ?_
    by_cases c2 : b.2.1 < 0
    · rw [decide_eq_false (p := b.1.length ≤ 65536 ∧ 0 ≤ b.2.1 ∧ b.2.1 ≤ 2147483647) (by omega)]
      exact yes (decide_eq_true c2) rfl
    refine no (decide_eq_false c2) ?_
    by_cases c3 : b.2.1 > 2147483647
    · rw [decide_eq_false (p := b.1.length ≤ 65536 ∧ 0 ≤ b.2.1 ∧ b.2.1 ≤ 2147483647) (by omega)]
      exact yes (decide_eq_true c3) rfl
    refine no (decide_eq_false c3) ?_
    rw [decide_eq_true (p := b.1.length ≤ 65536 ∧ 0 ≤ b.2.1 ∧ b.2.1 ≤ 2147483647) ⟨c1, by omega, by omega⟩]
    exact hj 0
  · rw [decide_eq_false (p := b.1.length ≤ 65536 ∧ 0 ≤ b.2.1 ∧ b.2.1 ≤ 2147483647) (by omega)]
    exact ⟨0, yes (decide_eq_true (by omega)) rfl⟩
def Sane (l : List AL) : Prop := ∀ a ∈ l, cross a = false
def Hist : List AL → List AC → Prop
  | l, [] => Sane l
  | l, c :: r => Sane l ∧ (∃ x w, own c.2.1 (l.getD c.1.toNat (none, none)) = some (x, w) ∧ loose c.2.1 c.2.2.2 x = true) ∧ Hist (l.set c.1.toNat (put c.2.1 (l.getD c.1.toNat (none, none)) c.2.2.2)) r
theorem Hist.sane : ∀ {r : List AC} {l : List AL}, Hist l r → Sane l
  | [], _, h => h
  | _ :: _, _, h => h.1
theorem Hist.gb : ∀ {r : List AC} {l : List AL}, Hist l r → gbB l r = true
  | [], _, _ => rfl
  | c :: r, l, h => by
    obtain ⟨_, ⟨x, w, e1, e2⟩, h3⟩ := h
    rw [gbB, e1]
    dsimp only
    rw [e2, Bool.true_and]
    exact h3.gb
theorem Hist.undo (k : Int) : ∀ {r : List AC} {l : List AL}, Hist l r → Hist (Tryz.undo k r l).2 (Tryz.undo k r l).1
  | [], _, h => h
  | c :: r, l, h => by
    by_cases hk : c.2.2.1 ≤ k
    · rw [undo_le hk]; exact h
    · rw [undo_gt hk]; exact Hist.undo k h.2.2
theorem undo_mem (k : Int) : ∀ {r : List AC} {l : List AL} {c : AC}, c ∈ (Tryz.undo k r l).1 → c ∈ r
  | [], _, _, h => h
  | d :: r, l, c, h => by
    by_cases hk : d.2.2.1 ≤ k
    · rw [undo_le hk] at h; exact h
    · rw [undo_gt hk] at h; exact List.mem_cons_of_mem _ (undo_mem k h)
theorem Sane.app {l : List AL} (h : Sane l) : Sane (l ++ [(none, none)]) := fun a ha => by
  rcases List.mem_append.1 ha with ha | ha
  · exact h a ha
  · obtain rfl : a = (none, none) := by simpa using ha
    rfl
theorem Hist.app : ∀ {r : List AC} {l : List AL}, (∀ c ∈ r, 0 ≤ c.1 ∧ c.1 < l.length) → Hist l r → Hist (l ++ [(none, none)]) r
  | [], _, _, h => Sane.app h
  | c :: r, l, hc, h => by
    obtain ⟨h1, ⟨x, w, e1, e2⟩, h3⟩ := h
    have hi : c.1.toNat < l.length := by have := hc c (by simp); omega
    have hg : (l ++ [(none, none)]).getD c.1.toNat (none, none) = l.getD c.1.toNat (none, none) := by
      rw [List.getD_eq_getElem?_getD, List.getD_eq_getElem?_getD, List.getElem?_append_left hi]
    refine ⟨h1.app, ⟨x, w, by rw [hg]; exact e1, e2⟩, ?_⟩
    rw [hg, List.set_append_left _ _ hi]
    exact Hist.app (fun d hd => by rw [List.length_set]; exact hc d (by simp [hd])) h3
structure Sn (m : M) : Prop where
  hist : Hist m.limits m.changes.reverse
  lvs : ∀ c ∈ m.changes, 0 ≤ c.2.2.1
  lv : Lv m
theorem own_put (up : Bool) (l : AL) (b : AB) : own up (put up l b) = b := by cases up <;> rfl
theorem put_put (up : Bool) (l : AL) (b : AB) : put up (put up l b) (own up l) = l := by cases up <;> rfl
theorem asrt_sn {m : M} {K : Nat} (h : m.ok K) (s : Sn m) (up : Bool) (v : Int) (x : Q2) (w : Int) : Sn (asrt up m v x w).1 := by
  refine ⟨?_, ?_, asrt_lv s.lv up v x w⟩
  · unfold asrt
    split
    · rename_i hv
      dsimp only
      have hi : v.toNat < m.limits.length := by omega
      split
      · exact s.hist
      · rename_i hk
        split
        · exact s.hist
        · rename_i hcl
          show Hist (m.limits.set v.toNat (put up (m.limits.getD v.toNat (none, none)) (some (x, w)))) ((m.changes ++ [_]).reverse)
          rw [List.reverse_append]
          show Hist _ ((v, up, m.level, own up (m.limits.getD v.toNat (none, none))) :: m.changes.reverse)
          have hget : (m.limits.set v.toNat (put up (m.limits.getD v.toNat (none, none)) (some (x, w)))).getD v.toNat (none, none) = put up (m.limits.getD v.toNat (none, none)) (some (x, w)) := by
            rw [List.getD_eq_getElem?_getD, List.getElem?_set_self hi]; rfl
          refine ⟨fun a ha => ?_, ⟨x, w, ?_, ?_⟩, ?_⟩
          · rcases List.mem_or_eq_of_mem_set ha with ha | rfl
            · exact s.hist.sane a ha
            · generalize m.limits.getD v.toNat (none, none) = l at hcl
              have hcl : clash up (oth up l) x = false := by simpa using hcl
              cases up with
              | true =>
                obtain ⟨lo, hi⟩ := l
                cases lo with
                | none => rfl
                | some p => exact hcl
              | false =>
                rw [clash_low] at hcl
                exact hcl
          · rw [hget, own_put]
          · show loose up (own up (m.limits.getD v.toNat (none, none))) x = true
            generalize own up (m.limits.getD v.toNat (none, none)) = b at hk
            cases b with
            | none => rfl
            | some p =>
              have hk : ¬ (!tb up x p.1) = true := hk
              show tb up x p.1 = true
              simpa using hk
          · rw [hget]
            show Hist ((m.limits.set v.toNat _).set v.toNat (put up (put up (m.limits.getD v.toNat (none, none)) (some (x, w))) (own up (m.limits.getD v.toNat (none, none))))) m.changes.reverse
            rw [put_put, List.set_set]
            have : m.limits.set v.toNat (m.limits.getD v.toNat (none, none)) = m.limits := by
              rw [List.getD_eq_getElem?_getD, List.getElem?_eq_getElem hi]
              exact List.set_getElem_self hi
            rw [this]
            exact s.hist
    · exact s.hist
  · unfold asrt
    split
    · dsimp only
      split
      · exact s.lvs
      · split
        · exact s.lvs
        · intro c hc
          rcases List.mem_append.1 hc with hc | hc
          · exact s.lvs c hc
          · obtain rfl : c = (v, up, m.level, own up (m.limits.getD v.toNat (none, none))) := by simpa using hc
            exact h.lev.1
    · exact s.lvs
theorem grow_sn {m : M} {K : Nat} (h : m.ok K) (s : Sn m) : Sn (growM m).1 := by
  refine ⟨?_, ?_, grow_lv s.lv⟩
  · unfold growM
    split
    · exact s.hist
    · exact Hist.app (fun c hc => (h.chg c (by simpa using hc)).2) s.hist
  · unfold growM
    split <;> exact s.lvs
theorem back_sn {m : M} (s : Sn m) (k : Int) : Sn (backM m k).1 := by
  refine ⟨?_, ?_, back_lv s.lv k⟩
  · unfold backM
    split
    · exact s.hist
    · show Hist _ (List.reverse (List.reverse _))
      rw [List.reverse_reverse]
      exact s.hist.undo k
  · unfold backM
    split
    · exact s.lvs
    · intro c hc
      have hc : c ∈ (undo k m.changes.reverse m.limits).1.reverse := hc
      exact s.lvs c (by simpa using undo_mem k (List.mem_reverse.1 hc))
theorem move_sn {m : M} {K : Nat} (h : m.ok K) (s : Sn m) (o : Dt47) : Sn (moveM m o) := by
  unfold moveM
  split
  · exact asrt_sn h s _ _ _ _
  split
  · exact asrt_sn h s _ _ _ _
  split
  · exact ⟨s.hist, s.lvs, push_lv s.lv⟩
  split
  · exact back_sn s _
  split
  · exact grow_sn h s
  · exact s
theorem new_sn (n : Nat) : Sn (newM n) := ⟨fun a ha => (by rw [List.eq_of_mem_replicate ha]; rfl), fun c hc => (nomatch hc), newM_lv n⟩
theorem play_sn : ∀ {os : List Dt47} {m : M} {K : Nat}, m.ok K → Sn m → (∀ o ∈ os, OkO o) → Sn (playM m os)
  | [], _, _, _, s, _ => s
  | o :: os, m, K, h, s, ho => play_sn (os := os) (move_ok h (ho o (by simp))) (move_sn h s o) fun o' ho' => ho o' (by simp [ho'])
theorem dv_dcan (x : Q2) : dv (dcan x) = x := Prod.ext (rv_rcan x.1) (rv_rcan x.2)
theorem bv_bI (b : AB) : bv (bI b) = b := by
  match b with
  | none => rfl
  | some (x, w) => exact congrArg (fun y => some (y, w)) (dv_dcan x)
theorem lv_lI (l : AL) : lv (lI l) = l := Prod.ext (bv_bI l.1) (bv_bI l.2)
theorem cv_cI (c : AC) : cv (cI c) = c := by
  obtain ⟨a, b, d, e⟩ := c
  show (a, b, d, bv (bI e)) = _
  rw [bv_bI]
theorem mv_mR (m : M) : mv (mR m) = m := by
  obtain ⟨lev, cs, ls⟩ := m
  show M.mk lev ((cs.map cI).map cv) ((ls.map lI).map lv) = _
  rw [List.map_map, List.map_map, show cv ∘ cI = id from funext cv_cI, show lv ∘ lI = id from funext lv_lI, List.map_id, List.map_id]
theorem Zb_bI (b : AB) : Zb (bI b) = true := by
  match b with
  | none => rfl
  | some (x, w) => rfl
theorem Bd_bI {b : AB} (h : Bk b) : Bd (bI b) := by
  match b, h with
  | none, _ =>
    have e : dv zt44 = (0, 0) := dv_zero
    show Dn zt44 (dv zt44) SZ
    rw [e]; exact dn_zero
  | some (x, w), h =>
    show Dn (dcan x) (dv (dcan x)) SZ
    rw [dv_dcan]; exact h x w rfl
theorem hyp_mR {m : M} {K : Nat} (h : m.ok K) (hK : K ≤ 1048576) : Hyp (mR m) := by
  refine ⟨fun l hl => ?_, fun c hc => ?_, by rw [lenC]; have := h.nc; omega⟩
  · obtain ⟨a, ha, rfl⟩ := List.mem_map.1 hl
    exact ⟨Bd_bI (h.lims a ha).1, Bd_bI (h.lims a ha).2⟩
  · obtain ⟨a, ha, rfl⟩ := List.mem_map.1 hc
    exact Bd_bI (h.chg a ha).1
def lastL : Int → List Dt70 → Int
  | p, [] => p
  | _, c :: r => lastL c.2.2.1 r
theorem chkC_snoc (n : Nat) (lev : Int) (c : Dt70) : ∀ (a : List Dt70) (p : Int), chkC n lev p (a ++ [c]) = (chkC n lev p a && okCh n lev (lastL p a) c)
  | [], p => by simp [chkC, lastL]
  | d :: a, p => by simp only [List.cons_append, chkC, lastL, chkC_snoc n lev c a, Bool.and_assoc]
theorem lastL_snoc (c : Dt70) : ∀ (a : List Dt70) (p : Int), lastL p (a ++ [c]) = c.2.2.1
  | [], p => rfl
  | d :: a, p => lastL_snoc c a _
theorem chk_dec (n : Nat) (lev : Int) : ∀ {r : List AC} {k : Int}, Dec r k → k ≤ lev → (∀ c ∈ r, (0 ≤ c.1 ∧ c.1 < n) ∧ 0 ≤ c.2.2.1) → chkC n lev 0 ((r.reverse).map cI) = true
  | [], _, _, _, _ => rfl
  | c :: r, k, h, hk, hc => by
    rw [List.reverse_cons, List.map_append, List.map_cons, List.map_nil, chkC_snoc, chk_dec n lev h.2 (Int.le_trans h.1 hk) fun d hd => hc d (by simp [hd]), Bool.true_and]
    have hcc := hc c (by simp)
    refine okCh_split.2 ⟨hcc.1, ?_, Int.le_trans h.1 hk, Zb_bI c.2.2.2⟩
    cases r with
    | nil => exact hcc.2
    | cons d r =>
      rw [List.reverse_cons, List.map_append, List.map_cons, List.map_nil, lastL_snoc]
      exact h.2.1
theorem okState {m : M} {K : Nat} (h : m.ok K) (hK : K ≤ 1048576) (s : Sn m) : OkState (mR m) = true := by
  have hl := h.lev
  unfold OkState
  rw [mv_mR, lenL, s.hist.gb, Bool.and_true]
  rw [decide_eq_true (p := m.limits.length ≤ 65536 ∧ 0 ≤ (mR m).2.1 ∧ (mR m).2.1 ≤ 2147483647) ⟨h.nl, hl.1, by show m.level ≤ _; omega⟩, Bool.true_and, Bool.and_eq_true]
  refine ⟨List.all_eq_true.2 fun l hl => ?_, ?_⟩
  · obtain ⟨a, ha, rfl⟩ := List.mem_map.1 hl
    unfold goodL
    rw [lv_lI, s.hist.sane a ha]
    show (Zb (bI a.1) && (Zb (bI a.2) && !false)) = true
    rw [Zb_bI, Zb_bI]; rfl
  · have := chk_dec m.limits.length m.level s.lv (Int.le_refl _) fun c hc => ⟨(h.chg c (by simpa using hc)).2, s.lvs c (by simpa using hc)⟩
    rw [List.reverse_reverse] at this
    exact this
noncomputable def LT (k : Nat) (l : Dt22) (m : M) (i : Int) : Option (Bool × Unit) :=
  w_BoundsTwins.L10 k l m.level (m.changes.map cI) true (m.limits.map lI) (m.limits.map lI) m.level (m.changes.map cI) m.level (m.changes.map cI) true (m.limits.map lI) i
theorem LT_round (k : Nat) (l : Dt22) (hl : l.length ≤ 1048576) (m : M) {K : Nat} (hK : K < 900000000000) (i : Nat) (hi : i < l.length) (ho : OkO l[i]) (h : m.ok K) : LT (k + 1) l m i = LT k l (moveM m l[i]) ((i + 1 : Nat) : Int) := by
  have e : ((i + 1 : Nat) : Int) = IntKind.i64.wrap ((i : Int) + 1) := ((wrap_ok (by omega) (by omega)).trans (by omega)).symm
  have hin : (decide (0 ≤ (i : Int)) && decide ((i : Int) < (l.length : Int))) = true := by simp <;> omega
  have hmv := move_F h hK ho
  rw [e]
  unfold LT
  rw [w_BoundsTwins.L10_succ]
  unfold w_BoundsTwins.b10
  rw [getD_at l zt47 hi]
  generalize l[i] = o at hmv
  exact yes (decide_eq_true (by omega)) (yes hin (st hmv (yes hin (st hmv (no rfl (no rfl rfl))))))
theorem LT_all (l : Dt22) (hl : l.length ≤ 1048576) (ho : ∀ o ∈ l, OkO o) {m0 : M} (h0 : m0.ok 1048576) : ∃ j, ∀ k, LT (k + j) l m0 0 = some (true, ()) :=
  Num.up (fun k (p : Nat × M) => LT k l p.2 (p.1 : Int)) (true, ()) (fun i m => m.ok (1048576 + i)) l.length
    (fun i m hi hm => ⟨moveM m l[i], move_ok hm (ho _ (List.getElem_mem hi)), 1, fun k => LT_round k l hl m (by omega) i hi (ho _ (List.getElem_mem hi)) hm⟩)
    (fun m hm => ⟨1, fun k => by
      have hs := State_F hm (by omega)
      have he := sameState_F hm (by omega)
      show LT (k + 1) l m _ = _
      unfold LT
      rw [w_BoundsTwins.L10_succ]
      unfold w_BoundsTwins.b10
      exact no (decide_eq_false (by omega)) (st hs (st hs (st he (yes rfl (st hs (st he rfl))))))⟩) 0 m0 (Nat.zero_le _) h0
theorem twins_core (x : Dt24) (l : Dt22) (hx : ∀ o ∈ x.2, OkO o) (hl : ∀ o ∈ l, OkO o) (n1 : x.2.length ≤ 1048576) (n2 : l.length ≤ 1048576) : w_BoundsTwins.F (x, l, ()) = some (true, ()) := by
  have key : ∀ v : Int, 0 ≤ v ∧ v ≤ 65536 → ∃ m : M, m.ok 1048576 ∧ w_played.F () ((v, x.2), ()) = some (some (mS m), (mR m, ()), ()) ∧ bounds_Store_State.F (mS m) () = some ((), (mR m, ()), mS m) ∧ bounds_Load.F () (mR m, ()) = some (some (mS m), ((0 : Int), ()), ()) := fun v hv => by
    have hok := play_ok (newM_ok (n := v.toNat) (by omega)) hx
    have hsn := play_sn (newM_ok (n := v.toNat) (by omega)) (new_sn _) hx
    have hok2 := hok.mono (L := 1048576) (by omega)
    refine ⟨playM (newM v.toNat) x.2, hok2, played_F (x := (v, x.2)) hv hx (by show x.2.length < _; omega), State_F hok2 (by omega), ?_⟩
    rw [Load_F _ (hyp_mR hok2 (Nat.le_refl _)), okState hok2 (Nat.le_refl _) hsn]
    show some (some (mS (mv (mR _))), ((0 : Int), ()), ()) = _
    rw [mv_mR]
  by_cases c1 : x.1 < 0
  · obtain ⟨m, hm, hp, hs, hL⟩ := key 2 (by omega)
    obtain ⟨j, hj⟩ := LT_all l n2 hl hm
    refine w_BoundsTwins.of (0 + j) x l ?_
    exact yes (decide_eq_true c1) (st hp (st hs (st hL (no rfl (hj 0)))))
  by_cases c2 : x.1 > 65536
  · obtain ⟨m, hm, hp, hs, hL⟩ := key 2 (by omega)
    obtain ⟨j, hj⟩ := LT_all l n2 hl hm
    refine w_BoundsTwins.of (0 + j) x l ?_
    exact no (decide_eq_false c1) (yes (decide_eq_true c2) (st hp (st hs (st hL (no rfl (hj 0))))))
  · obtain ⟨m, hm, hp, hs, hL⟩ := key x.1 (by omega)
    obtain ⟨j, hj⟩ := LT_all l n2 hl hm
    refine w_BoundsTwins.of (0 + j) x l ?_
    exact no (decide_eq_false c1) (no (decide_eq_false c2) (st hp (st hs (st hL (no rfl (hj 0))))))
theorem boundsTwins_true (x : Dt24) (l : Dt22) (wx : K.wf Kt24 x) (wl : K.wf Kt22 l) (bx : K.bulk Kt24 x ≤ 1048576) (bl : K.bulk Kt22 l ≤ 1048576) : w_BoundsTwins.F (x, l, ()) = some (true, ()) := by
  have hb : 1 + K.bulk Kt22 x.2 ≤ 1048576 := bx
  have h1 := ops_ofB wx.2 (by omega)
  have h2 := ops_ofB wl bl
  exact twins_core x l h1.1 h2.1 h1.2 h2.2
end Go.Fx.Tryz
