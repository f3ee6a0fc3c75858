/- A state that is handed in: what it means; whether it may be (plain). -/
import Derived.Test.YthmdbafinpmojaaGreatVA
import Derived.Test.YthmdbafinpmojaaGreatW08c
namespace Go.Fx.Tryz
open Go Go.Fx Go.Fx.Num
set_option linter.unusedVariables false
set_option linter.unusedSimpArgs false
def nz (r : Dt42) : Bool := !r.1.1 && ((List.length r.1.2 : Int) + (List.length r.2 : Int) == 0)
def Zb (b : Dt66) : Bool := b.1 || ((b.2.2 == 0) && (nz b.2.1.1 && nz b.2.1.2))
noncomputable def bv (b : Dt66) : AB := bif b.1 then some (dv b.2.1, b.2.2) else none
noncomputable def lv (l : Dt68) : AL := (bv l.1, bv l.2)
noncomputable def cv (c : Dt70) : AC := (c.1, c.2.1, c.2.2.1, bv c.2.2.2)
noncomputable def mv (b : Dt32) : M := ⟨b.2.1, b.2.2.map cv, b.1.map lv⟩
def Bd (b : Dt66) : Prop := Dn b.2.1 (dv b.2.1) SZ
theorem Bd.bk {b : Dt66} (h : Bd b) : Bk (bv b) := by
  intro x w e
  unfold bv at e
  cases hb : b.1 with
  | false => rw [hb] at e; cases e
  | true => rw [hb] at e; cases e; exact h.norm
theorem nz_F {r : Dt42} {q : Rat} (h : Rt r q SZ) : bounds_zero_1.F (r, ()) = some (nz r, ()) := by
  refine bounds_zero_1.of 0 r ?_
  have h1 := h.num.len
  have h2 := h.den.len
  unfold SZ at h1 h2
  have e : IntKind.i64.wrap ((List.length r.1.2 : Int) + (List.length r.2 : Int)) = (List.length r.1.2 : Int) + (List.length r.2 : Int) := wrap_ok (by omega) (by omega)
  unfold bounds_zero_1.e nz
  cases r.1.1 with
  | true => exact no rfl rfl
  | false => exact yes rfl (by dsimp only; rw [e]; rfl)
theorem zero_F {b : Dt66} (h : Bd b) : bounds_zero.F (b, ()) = some (Zb b, ()) := by
  refine bounds_zero.of 0 b ?_
  unfold bounds_zero.e Zb
  cases hb : b.1 with
  | true => exact yes rfl rfl
  | false =>
    refine no rfl ?_
    cases hw : (b.2.2 == 0) with
    | false => exact no rfl rfl
    | true =>
      refine yes rfl (st (nz_F h.a) ?_)
      cases nz b.2.1.1 with
      | false => exact no rfl rfl
      | true => exact yes rfl (st (nz_F h.b) rfl)
theorem empty_F {b : Dt66} (h : Bd b) : r08_empty.F (b, ()) = some (Zb b, ()) := by
  refine r08_empty.of 0 b ?_
  have h1 := h.a.num.len
  have h2 := h.a.den.len
  have h3 := h.b.num.len
  have h4 := h.b.den.len
  unfold SZ at h1 h2 h3 h4
  unfold r08_empty.e Zb nz
  cases hb : b.1 with
  | true => exact yes rfl rfl
  | false =>
    refine no rfl ?_
    dsimp only
    rw [show IntKind.i64.wrap ((List.length b.2.1.1.1.2 : Int) + (List.length b.2.1.1.2 : Int)) = (List.length b.2.1.1.1.2 : Int) + (List.length b.2.1.1.2 : Int) from wrap_ok (by omega) (by omega)]
    rw [show IntKind.i64.wrap ((List.length b.2.1.1.1.2 : Int) + (List.length b.2.1.1.2 : Int) + (List.length b.2.1.2.1.2 : Int)) = (List.length b.2.1.1.1.2 : Int) + (List.length b.2.1.1.2 : Int) + (List.length b.2.1.2.1.2 : Int) from wrap_ok (by omega) (by omega)]
    rw [show IntKind.i64.wrap ((List.length b.2.1.1.1.2 : Int) + (List.length b.2.1.1.2 : Int) + (List.length b.2.1.2.1.2 : Int) + (List.length b.2.1.2.2 : Int)) = (List.length b.2.1.1.1.2 : Int) + (List.length b.2.1.1.2 : Int) + (List.length b.2.1.2.1.2 : Int) + (List.length b.2.1.2.2 : Int) from wrap_ok (by omega) (by omega)]
    have e : ((List.length b.2.1.1.1.2 : Int) + (List.length b.2.1.1.2 : Int) + (List.length b.2.1.2.1.2 : Int) + (List.length b.2.1.2.2 : Int) == 0) = (((List.length b.2.1.1.1.2 : Int) + (List.length b.2.1.1.2 : Int) == 0) && ((List.length b.2.1.2.1.2 : Int) + (List.length b.2.1.2.2 : Int) == 0)) := by
      rw [Bool.eq_iff_iff, Bool.and_eq_true, beq_iff_eq, beq_iff_eq, beq_iff_eq]
      omega
    rw [e]
    cases ((List.length b.2.1.1.1.2 : Int) + (List.length b.2.1.1.2 : Int) == 0) <;> cases ((List.length b.2.1.2.1.2 : Int) + (List.length b.2.1.2.2 : Int) == 0) <;> cases (b.2.2 == 0) <;> cases b.2.1.1.1.1 <;> cases b.2.1.2.1.1 <;> rfl
theorem belowR_F {b : Dt66} (hb : Bd b) {a : Dt44} {x : Q2} (ha : Dn a x SZ) : bounds_below.F (b, a, ()) = some (belowB (bv b) x, ()) := by
  refine bounds_below.of 0 b a ?_
  unfold bounds_below.e bv
  cases h1 : b.1 with
  | false => exact no rfl rfl
  | true =>
    refine yes rfl (st (Dn.Cmp_F hb ha (by decide)) ?_)
    show some (decide (dcmp (dv b.2.1) x < 0), ()) = some (decide (0 < dcmp x (dv b.2.1)), ())
    rw [decide_eq_decide.2 (dcmp_swap (dv b.2.1) x).1]
theorem copiedR_F {b : Dt66} (h : Bd b) : bounds_copied.F (b, ()) = some (bI (bv b), ()) := by
  refine bounds_copied.of 0 _ ?_
  unfold bounds_copied.e bv
  cases h1 : b.1 with
  | false => exact yes rfl rfl
  | true => exact no rfl (st (Dn.Norm_F h (by decide)) rfl)
theorem copiedLimitR_F {l : Dt68} (h1 : Bd l.1) (h2 : Bd l.2) : bounds_copiedLimit.F (l, ()) = some (lI (lv l), ()) :=
  bounds_copiedLimit.of 0 _ (st (copiedR_F h1) (st (copiedR_F h2) rfl))
theorem copiedChangeR_F {c : Dt70} (h : Bd c.2.2.2) : bounds_copiedChange.F (c, ()) = some (cI (cv c), ()) := bounds_copiedChange.of 0 _ (st (copiedR_F h) rfl)
def cross (l : AL) : Bool := match l.1 with
  | none => false
  | some (x, _) => belowB l.2 x
theorem crossed_F {l : Dt68} (h1 : Bd l.1) (h2 : Bd l.2) : r08_crossed.F (l, ()) = some (cross (lv l), ()) := by
  refine r08_crossed.of 0 l ?_
  unfold r08_crossed.e cross lv bv
  cases e1 : l.1.1 with
  | false => exact no rfl rfl
  | true =>
    refine yes rfl ?_
    cases e2 : l.2.1 with
    | false => exact no rfl rfl
    | true => exact yes rfl (st (Dn.rCmp_F h1 h2 (by decide)) rfl)
noncomputable def goodL (l : Dt68) : Bool := Zb l.1 && (Zb l.2 && !cross (lv l))
def okCh (n : Nat) (lev p : Int) (c : Dt70) : Bool := decide (0 ≤ c.1 ∧ c.1 < n) && (decide (p ≤ c.2.2.1) && (decide (c.2.2.1 ≤ lev) && Zb c.2.2.2))
def chkC (n : Nat) (lev : Int) : Int → List Dt70 → Bool
  | _, [] => true
  | p, c :: r => okCh n lev p c && chkC n lev c.2.2.1 r
def loose (up : Bool) (was : AB) (x : Q2) : Bool := match was with
  | none => true
  | some (y, _) => tb up x y
def gbB : List AL → List AC → Bool
  | _, [] => true
  | l, c :: r => match own c.2.1 (l.getD c.1.toNat (none, none)) with
    | none => false
    | some (x, _) => loose c.2.1 c.2.2.2 x && gbB (l.set c.1.toNat (put c.2.1 (l.getD c.1.toNat (none, none)) c.2.2.2)) r
noncomputable def OkState (b : Dt32) : Bool := decide (b.1.length ≤ 65536 ∧ 0 ≤ b.2.1 ∧ b.2.1 ≤ 2147483647) && (b.1.all goodL && (chkC b.1.length b.2.1 0 b.2.2 && gbB (mv b).limits (mv b).changes.reverse))
def stp (ls : List AL) (c : AC) : Sum (List AL) Bool := match own c.2.1 (ls.getD c.1.toNat (none, none)) with
  | none => .inr false
  | some (x, _) => bif loose c.2.1 c.2.2.2 x then .inl (ls.set c.1.toNat (put c.2.1 (ls.getD c.1.toNat (none, none)) c.2.2.2)) else .inr false
noncomputable def stI : Sum (List AL) Bool → Sum Dt29 Bool
  | .inl ls => .inl (ls.map lI)
  | .inr b => .inr b
theorem rnd_F {ls : List AL} (hl : ∀ l ∈ ls, Bk l.1 ∧ Bk l.2) {c : AC} (hb : Bk c.2.2.2) (hc : 0 ≤ c.1 ∧ c.1 < ls.length) : gb_rnd (ls.map lI) (cI c) = some (stI (stp ls c)) := by
  obtain ⟨v, up, lev, was⟩ := c
  have hin : (decide (0 ≤ v) && decide (v < ((ls.map lI).length : Int))) = true := by rw [List.length_map]; exact in_range hc
  have hg : List.getD (ls.map lI) v.toNat Kt68.d = lI (ls.getD v.toNat (none, none)) := getD_map
  have hm := hl _ (getD_mem (z := (none, none)) hc)
  unfold gb_rnd stp
  dsimp only [cI]
  rw [hg]
  generalize ls.getD v.toNat (none, none) = l at hm
  obtain ⟨lo, hi⟩ := l
  refine yes hin ?_
  cases up with
  | true =>
    refine yes rfl (yes hin ?_)
    cases hi with
    | none => exact yes rfl rfl
    | some p =>
      obtain ⟨x, w⟩ := p
      refine no rfl ?_
      have ha := above_F hb (hm.2 x w rfl)
      cases was with
      | none => exact no rfl (congrArg some (congrArg Sum.inl (set_map ls v.toNat (lo, none))))
      | some q =>
        obtain ⟨y, u⟩ := q
        refine yes rfl (st ha ?_)
        show (bif not (tb true x y) then _ else _) = some (stI (bif tb true x y then _ else _))
        cases tb true x y with
        | false => rfl
        | true => exact no rfl (congrArg some (congrArg Sum.inl (set_map ls v.toNat (lo, some (y, u)))))
  | false =>
    refine no rfl ?_
    cases lo with
    | none => exact yes rfl rfl
    | some p =>
      obtain ⟨x, w⟩ := p
      refine no rfl ?_
      have ha := below_F hb (hm.1 x w rfl)
      cases was with
      | none => exact no rfl (congrArg some (congrArg Sum.inl (set_map ls v.toNat (none, hi))))
      | some q =>
        obtain ⟨y, u⟩ := q
        refine yes rfl (st ha ?_)
        show (bif not (tb false x y) then _ else _) = some (stI (bif tb false x y then _ else _))
        cases tb false x y with
        | false => rfl
        | true => exact no rfl (congrArg some (congrArg Sum.inl (set_map ls v.toNat (some (y, u), hi))))
theorem stp_len {ls ls' : List AL} {c : AC} (h : stp ls c = .inl ls') : ls'.length = ls.length ∧ ls' = ls.set c.1.toNat (put c.2.1 (ls.getD c.1.toNat (none, none)) c.2.2.2) := by
  unfold stp at h
  split at h
  · cases h
  · cases hl : loose c.2.1 c.2.2.2 _ with
    | false => rw [hl] at h; cases h
    | true => rw [hl] at h; cases h; exact ⟨List.length_set .., rfl⟩
theorem gbB_cons (ls : List AL) (c : AC) (r : List AC) : gbB ls (c :: r) = match stp ls c with
    | .inl ls' => gbB ls' r
    | .inr b => b := by
  unfold stp
  rw [gbB]
  cases own c.2.1 (ls.getD c.1.toNat (none, none)) with
  | none => rfl
  | some p =>
    obtain ⟨x, w⟩ := p
    dsimp only
    cases loose c.2.1 c.2.2.2 x <;> rfl
theorem gbk_F : ∀ {r : List AC} {ls : List AL}, (∀ l ∈ ls, Bk l.1 ∧ Bk l.2) → (∀ c ∈ r, Bk c.2.2.2 ∧ 0 ≤ c.1 ∧ c.1 < ls.length) → gbk (ls.map lI) (r.map cI) = some (gbB ls r)
  | [], ls, hl, hc => rfl
  | c :: r, ls, hl, hc => by
    have h := hc c (by simp)
    rw [List.map_cons, gbk, rnd_F hl h.1 h.2, gbB_cons]
    cases e : stp ls c with
    | inr b => rfl
    | inl ls' =>
      obtain ⟨e1, e2⟩ := stp_len e
      exact gbk_F (e2 ▸ set_ok hl _ (put_ok (getD_ok hl _) h.1)) (fun c' hc' => by rw [e1]; exact hc c' (by simp [hc']))
theorem goesBack_F {ls : List AL} {cs : List AC} (hl : ∀ l ∈ ls, Bk l.1 ∧ Bk l.2) (hc : ∀ c ∈ cs, Bk c.2.2.2 ∧ 0 ≤ c.1 ∧ c.1 < ls.length) (hn : cs.length < 4611686018427387904) :
    bounds_goesBack.fn (ls.map lI) (cs.map cI, ()) = some (gbB ls cs.reverse, ()) := by
  rw [bounds_goesBack.fn_eq]
  unfold gb_fn
  rw [if_pos, ← List.map_reverse, gbk_F hl (fun c h => hc c (by simpa using h))]
  · rfl
  · refine ⟨by rw [List.length_map]; exact hn, fun zs => ∃ l2 : List AL, zs = l2.map lI ∧ (∀ l ∈ l2, Bk l.1 ∧ Bk l.2) ∧ l2.length = ls.length, ⟨ls, rfl, hl, rfl⟩, ?_⟩
    rintro zs x ⟨l2, rfl, h2, hlen⟩ hx
    obtain ⟨c, hcm, rfl⟩ := List.mem_map.1 hx
    have h := hc c hcm
    refine ⟨_, rnd_F h2 h.1 (by rw [hlen]; exact h.2), fun zs2 e => ?_⟩
    cases e2 : stp l2 c with
    | inr b => rw [e2] at e; cases e
    | inl ls' =>
      rw [e2] at e
      cases e
      obtain ⟨e3, e4⟩ := stp_len e2
      exact ⟨ls', rfl, e4 ▸ set_ok h2 _ (put_ok (getD_ok h2 _) h.1), e3.trans hlen⟩
noncomputable def Res (b : Dt32) (ok : Bool) : (Option Dt81) × (Int × Unit) × Unit := bif ok then (some (mS (mv b)), ((0 : Int), ()), ()) else (none, ((81 : Int), ()), ())
structure Hyp (b : Dt32) : Prop where
  lims : ∀ l ∈ b.1, Bd l.1 ∧ Bd l.2
  chg : ∀ c ∈ b.2.2, Bd c.2.2.2
  nc : b.2.2.length ≤ 1048576
theorem Hyp.bks {b : Dt32} (h : Hyp b) : ∀ l ∈ (mv b).limits, Bk l.1 ∧ Bk l.2 := fun l hl => by
  obtain ⟨a, ha, rfl⟩ := List.mem_map.1 hl
  exact ⟨(h.lims a ha).1.bk, (h.lims a ha).2.bk⟩
def prevL (tr : List Dt70) : Nat → Int
  | 0 => 0
  | i + 1 => (tr.getD i zt70).2.2.1
theorem okCh_split {n : Nat} {lev p : Int} {c : Dt70} : okCh n lev p c = true ↔ (0 ≤ c.1 ∧ c.1 < n) ∧ p ≤ c.2.2.1 ∧ c.2.2.1 ≤ lev ∧ Zb c.2.2.2 = true := by
  unfold okCh
  simp only [Bool.and_eq_true, decide_eq_true_eq]
theorem L13_all (b : Dt32) (h : Hyp b) (hl : b.1.length ≤ 65536) : ∀ (d i : Nat), i + d = b.2.2.length → 0 ≤ prevL b.2.2 i → (∀ c ∈ b.2.2.take i, 0 ≤ c.1 ∧ c.1 < b.1.length) →
    ∃ j, ∀ k, bounds_Load.L13 (k + j) b.1 b.2.1 b.2.2 b.2.1 ((b.2.2.take i).map fun c => cI (cv c)) true (b.1.map fun l => lI (lv l)) b.2.2 b.2.2.length i = some (Res b (chkC b.1.length b.2.1 (prevL b.2.2 i) (b.2.2.drop i) && gbB (mv b).limits (mv b).changes.reverse), 0, []) := by
  obtain ⟨ls, lev, tr⟩ := b
  have hn : tr.length ≤ 1048576 := h.nc
  have hl : ls.length ≤ 65536 := hl
  intro d
  induction d with
  | zero =>
    intro i hi hp hr
    obtain rfl : i = tr.length := by simpa using hi
    refine ⟨1, fun k => ?_⟩
    rw [bounds_Load.L13_succ]
    unfold bounds_Load.b13
    refine no (decide_eq_false (by omega)) (yes (decide_eq_true (by rw [List.length_map]; show ls.length < _; omega)) ?_)
    have hgb := goesBack_F (ls := ls.map lv) (cs := tr.map cv) h.bks (fun c hc => by
      obtain ⟨a, ha, rfl⟩ := List.mem_map.1 hc
      refine ⟨(h.chg a ha).bk, ?_⟩
      have := hr a (by rw [List.take_length]; exact ha)
      rw [List.length_map]; exact this) (by rw [List.length_map]; omega)
    rw [List.map_map, List.map_map] at hgb
    rw [List.take_length, List.drop_length]
    refine st hgb ?_
    show (bif not (gbB (ls.map lv) (tr.map cv).reverse) then _ else _) = some (Res (ls, lev, tr) (true && gbB (ls.map lv) (tr.map cv).reverse), 0, [])
    cases gbB (ls.map lv) (tr.map cv).reverse with
    | false => rfl
    | true =>
      refine no rfl ?_
      show some ((some ((lev, tr.map fun c => cI (cv c)), (true, ls.map fun l => lI (lv l))), ((0 : Int), ()), ()), 0, []) = some ((some ((lev, (tr.map cv).map cI), (true, (ls.map lv).map lI)), ((0 : Int), ()), ()), 0, [])
      rw [List.map_map, List.map_map]; rfl
  | succ d ih =>
    intro i hi hp hr
    dsimp only at hi hp hr ⊢
    have hil : i < tr.length := by omega
    have hin : (decide (0 ≤ (i : Int)) && decide ((i : Int) < (tr.length : Int))) = true := by simp <;> omega
    have e1 : IntKind.i64.wrap ((i : Int) + 1) = ((i + 1 : Nat) : Int) := ((wrap_ok (by omega) (by omega)).trans (by omega))
    have hdrop : tr.drop i = tr[i] :: tr.drop (i + 1) := List.drop_eq_getElem_cons hil
    have hbd := h.chg _ (List.getElem_mem hil)
    have hz := zero_F hbd
    have hcp := copiedChangeR_F hbd
    have hnx : prevL tr (i + 1) = (tr[i]).2.2.1 := by show (tr.getD i zt70).2.2.1 = _; rw [List.getD_eq_getElem?_getD, List.getElem?_eq_getElem hil]; rfl
    have htake : tr.take (i + 1) = tr.take i ++ [tr[i]] := List.take_succ_eq_append_getElem hil
    rw [hdrop]
    show ∃ j, ∀ k, _ = some (Res (ls, lev, tr) ((okCh ls.length lev (prevL tr i) tr[i] && chkC ls.length lev (tr[i]).2.2.1 (tr.drop (i + 1))) && _), 0, [])
    cases hok : okCh ls.length lev (prevL tr i) tr[i] with
    | true =>
      obtain ⟨g1, g2, g3, g4⟩ := okCh_split.1 hok
      obtain ⟨j, hj⟩ := ih (i + 1) (by show i + 1 + d = tr.length; omega) (by show 0 ≤ prevL tr (i + 1); rw [hnx]; omega) (fun c hc => by
        have hc : c ∈ tr.take (i + 1) := hc
        rw [htake] at hc
        rcases List.mem_append.1 hc with hc | hc
        · exact hr c hc
        · obtain rfl : c = tr[i] := by simpa using hc
          exact g1)
      refine ⟨j + 1, fun k => ?_⟩
      have hj' := hj k
      dsimp only at hj'
      rw [hnx, htake, List.map_append, List.map_cons, List.map_nil] at hj'
      rw [← Nat.add_assoc, bounds_Load.L13_succ]
      unfold bounds_Load.b13
      rw [getD_at tr zt70 hil]
      generalize hc : tr[i] = c at *
      rw [g4] at hz
      refine yes (decide_eq_true (by omega)) (yes hin (no (decide_eq_false (by omega)) (no (decide_eq_false (by rw [List.length_map]; omega)) (no (decide_eq_false (by omega)) (no (decide_eq_false (by omega)) ?_)))))
      have hlen : List.length ((tr.take i).map fun c => cI (cv c)) + 1 < 925904528653 := by rw [List.length_map, List.length_take]; omega
      cases i with
      | zero =>
        refine no (decide_eq_false (by omega)) (st hz (no rfl (st hcp (yes (decide_eq_true hlen) ?_))))
        dsimp only
        rw [e1]
        exact hj'
      | succ i0 =>
        have e2 : IntKind.i64.wrap (((i0 + 1 : Nat) : Int) - 1) = (i0 : Int) := (wrap_ok (by omega) (by omega)).trans (by omega)
        refine yes (decide_eq_true (by omega)) ?_
        dsimp only
        rw [e2, getD_at tr zt70 (show i0 < tr.length by omega)]
        have hpv : prevL tr (i0 + 1) = (tr[i0]'(by omega)).2.2.1 := by show (tr.getD i0 zt70).2.2.1 = _; rw [List.getD_eq_getElem?_getD, List.getElem?_eq_getElem (by omega)]; rfl
        rw [hpv] at g2
        refine yes (by simp <;> omega) (no (decide_eq_false (by omega)) (st hz (no rfl (st hcp (yes (decide_eq_true hlen) ?_)))))
        rw [e1]
        exact hj'
    | false =>
      refine ⟨1, fun k => ?_⟩
      rw [bounds_Load.L13_succ]
      unfold bounds_Load.b13
      rw [getD_at tr zt70 hil]
      generalize hc : tr[i] = c at *
      show _ = some (Res (ls, lev, tr) false, 0, [])
      refine yes (decide_eq_true (by omega)) (yes hin ?_)
      by_cases c1 : c.1 < 0
      · exact yes (decide_eq_true c1) rfl
      refine no (decide_eq_false c1) ?_
      by_cases c2 : c.1 ≥ (ls.length : Int)
      · exact yes (decide_eq_true (by rw [List.length_map]; exact c2)) rfl
      refine no (decide_eq_false (by rw [List.length_map]; exact c2)) ?_
      by_cases c3 : c.2.2.1 < 0
      · exact yes (decide_eq_true c3) rfl
      refine no (decide_eq_false c3) ?_
      by_cases c4 : c.2.2.1 > lev
      · exact yes (decide_eq_true c4) rfl
      refine no (decide_eq_false c4) ?_
      have hz4 : prevL tr i ≤ c.2.2.1 → Zb c.2.2.2 = false := fun hp => by
        cases hz9 : Zb c.2.2.2 with
        | false => rfl
        | true => rw [okCh_split.2 ⟨⟨by omega, by omega⟩, hp, by omega, hz9⟩] at hok; cases hok
      cases i with
      | zero =>
        rw [hz4 (by show (0 : Int) ≤ _; omega)] at hz
        exact no (decide_eq_false (by omega)) (st hz (yes rfl rfl))
      | succ i0 =>
        have e2 : IntKind.i64.wrap (((i0 + 1 : Nat) : Int) - 1) = (i0 : Int) := (wrap_ok (by omega) (by omega)).trans (by omega)
        refine yes (decide_eq_true (by omega)) ?_
        dsimp only
        rw [e2, getD_at tr zt70 (show i0 < tr.length by omega)]
        have hpv : prevL tr (i0 + 1) = (tr[i0]'(by omega)).2.2.1 := by show (tr.getD i0 zt70).2.2.1 = _; rw [List.getD_eq_getElem?_getD, List.getElem?_eq_getElem (by omega)]; rfl
        refine yes (by simp <;> omega) ?_
        by_cases c5 : c.2.2.1 < (tr[i0]'(by omega)).2.2.1
        · exact yes (decide_eq_true c5) rfl
        refine no (decide_eq_false c5) ?_
        rw [hz4 (by rw [hpv]; omega)] at hz
        exact st hz (yes rfl rfl)
theorem L6_all (b : Dt32) (h : Hyp b) (hl : b.1.length ≤ 65536) : ∀ (d i : Nat), i + d = b.1.length →
    ∃ j, ∀ k, bounds_Load.L6 (k + j) b.1 b.2.1 b.2.2 b.2.1 true ((b.1.take i).map fun l => lI (lv l)) b.1 b.1.length i = some (Res b ((b.1.drop i).all goodL && (chkC b.1.length b.2.1 0 b.2.2 && gbB (mv b).limits (mv b).changes.reverse)), 0, []) := by
  intro d
  induction d with
  | zero =>
    intro i hi
    obtain rfl : i = b.1.length := by simpa using hi
    obtain ⟨j, hj⟩ := L13_all b h hl b.2.2.length 0 (by simp) (Int.le_refl _) (fun c hc => by simp at hc)
    refine ⟨j + 1, fun k => ?_⟩
    rw [← Nat.add_assoc, bounds_Load.L6_succ]
    unfold bounds_Load.b6
    refine no (decide_eq_false (by omega)) ?_
    rw [List.take_length, List.drop_length]
    exact hj k
  | succ d ih =>
    intro i hi
    have hil : i < b.1.length := by omega
    have hin : (decide (0 ≤ (i : Int)) && decide ((i : Int) < (b.1.length : Int))) = true := by simp <;> omega
    have e1 : IntKind.i64.wrap ((i : Int) + 1) = ((i + 1 : Nat) : Int) := ((wrap_ok (by omega) (by omega)).trans (by omega))
    have hdrop : b.1.drop i = b.1[i] :: b.1.drop (i + 1) := List.drop_eq_getElem_cons hil
    have htake : b.1.take (i + 1) = b.1.take i ++ [b.1[i]] := List.take_succ_eq_append_getElem hil
    obtain ⟨hb1, hb2⟩ := h.lims _ (List.getElem_mem hil)
    have z1 := zero_F hb1
    have z2 := zero_F hb2
    have hcp := copiedLimitR_F hb1 hb2
    have hbl := belowR_F hb2 hb1
    obtain ⟨j, hj⟩ := ih (i + 1) (by omega)
    refine ⟨j + 1, fun k => ?_⟩
    have hj' := hj k
    rw [htake, List.map_append, List.map_cons, List.map_nil] at hj'
    have hlen : List.length ((b.1.take i).map fun l => lI (lv l)) + 1 < 549755813888 := by rw [List.length_map, List.length_take]; omega
    rw [← Nat.add_assoc, bounds_Load.L6_succ, hdrop, List.all_cons]
    unfold bounds_Load.b6
    rw [getD_at b.1 zt68 hil]
    have hgl : ∀ l : Dt68, goodL l = (Zb l.1 && (Zb l.2 && !cross (lv l))) := fun l => rfl
    have hcr : ∀ l : Dt68, cross (lv l) = bif l.1.1 then belowB (bv l.2) (dv l.1.2.1) else false := fun l => by
      unfold cross lv bv
      cases l.1.1 <;> rfl
    rw [hgl]
    have hcr := hcr b.1[i]
    generalize b.1[i] = l at *
    refine yes (decide_eq_true (by omega)) (yes hin (st z1 ?_))
    cases g1 : Zb l.1 with
    | false => rw [Bool.false_and]; exact yes rfl rfl
    | true =>
      refine no rfl (st z2 ?_)
      cases g2 : Zb l.2 with
      | false => rw [Bool.true_and, Bool.false_and]; exact yes rfl rfl
      | true =>
        refine no rfl ?_
        rw [Bool.true_and, Bool.true_and]
        rcases Bool.eq_false_or_eq_true l.1.1 with g3 | g3
        · rw [show cross (lv l) = belowB (bv l.2) (dv l.1.2.1) from by rw [hcr, g3]; rfl]
          refine yes g3 (st hbl ?_)
          cases belowB (bv l.2) (dv l.1.2.1) with
          | true => exact yes rfl rfl
          | false =>
            refine no rfl (st hcp (yes (decide_eq_true hlen) ?_))
            dsimp only
            rw [e1]
            exact hj'
        · rw [show cross (lv l) = false from by rw [hcr, g3]; rfl]
          refine no g3 (st hcp (yes (decide_eq_true hlen) ?_))
          dsimp only
          rw [e1]
          exact hj'
theorem Load_F (b : Dt32) (h : Hyp b) : bounds_Load.F () (b, ()) = some (Res b (OkState b)) := by
  refine bounds_Load.of () b _ fun G => ?_
  unfold bounds_Load.e OkState
  by_cases c1 : b.1.length ≤ 65536
  · obtain ⟨j, hj⟩ := L6_all b h c1 b.1.length 0 (by simp)
    refine ⟨0 + j, ?_⟩
    refine no (decide_eq_false (by omega)) ?_
    by_cases c2 : b.2.1 < 0
    · rw [decide_eq_false (p := b.1.length ≤ 65536 ∧ 0 ≤ b.2.1 ∧ b.2.1 ≤ 2147483647) (by omega)]
      exact yes (decide_eq_true c2) rfl
    refine no (decide_eq_false c2) ?_
    by_cases c3 : b.2.1 > 2147483647
    · rw [decide_eq_false (p := b.1.length ≤ 65536 ∧ 0 ≤ b.2.1 ∧ b.2.1 ≤ 2147483647) (by omega)]
      exact yes (decide_eq_true c3) rfl
    refine no (decide_eq_false c3) ?_
    rw [decide_eq_true (p := b.1.length ≤ 65536 ∧ 0 ≤ b.2.1 ∧ b.2.1 ≤ 2147483647) ⟨c1, by omega, by omega⟩]
    exact hj 0
  · rw [decide_eq_false (p := b.1.length ≤ 65536 ∧ 0 ≤ b.2.1 ∧ b.2.1 ≤ 2147483647) (by omega)]
    exact ⟨0, yes (decide_eq_true (by omega)) rfl⟩
theorem tighterB_F (up : Bool) {a : Dt44} {x y : Q2} (ha : Dn a x SZ) (hy : Dn (dcan y) y SZ) {d : Dt44} (e : d = dcan y) : r08_tighter.F (up, a, d, ()) = some (tb up x y, ()) := e ▸ tighter_F up ha hy
theorem C20_all (lev : Int) : ∀ (r : List AC) (ls : List AL), r.length < 900000000000 → (∀ l ∈ ls, Bk l.1 ∧ Bk l.2) → (∀ c ∈ r, Bk c.2.2.2 ∧ 0 ≤ c.1 ∧ c.1 < ls.length) →
    ∃ j, ∀ k, r08_Check.L20 (k + j) (ls.map lI) lev ((r.reverse).map cI) = some (gbB ls r, ())
  | [], ls, _, _, _ => ⟨1, fun k => by
    rw [r08_Check.L20_succ]
    unfold r08_Check.b20
    exact no rfl rfl⟩
  | c :: r, ls, hr, hl, hc => by
    have hr : r.length + 1 < 900000000000 := hr
    have h := hc c (by simp)
    have hlen : ((((c :: r).reverse).map cI).length : Int) = (c :: r).length := by simp
    have e : IntKind.i64.wrap (((c :: r).length : Int) - 1) = (r.length : Int) := by
      rw [show ((c :: r).length : Int) - 1 = (r.length : Int) by simp]
      exact wrap_ok (by omega) (by omega)
    have hin : (decide (0 ≤ (r.length : Int)) && decide ((r.length : Int) < ((c :: r).length : Int))) = true := by simp <;> omega
    have hi : (decide (0 ≤ c.1) && decide (c.1 < ((ls.map lI).length : Int))) = true := by rw [List.length_map]; exact in_range h.2
    have hg : List.getD (ls.map lI) c.1.toNat zt68 = lI (ls.getD c.1.toNat (none, none)) := getD_map
    have hm := hl _ (getD_mem (z := (none, none)) h.2)
    have hun := undo_F lev ls c r (by omega) h.2
    have step : ∀ k, r08_Check.L20 (k + 1) (ls.map lI) lev (((c :: r).reverse).map cI) = match stp ls c with
        | .inl ls' => r08_Check.L20 k (ls'.map lI) lev ((r.reverse).map cI)
        | .inr b => some (b, ()) := by
      intro k
      rw [r08_Check.L20_succ]
      unfold r08_Check.b20 stp
      simp only [hlen, e, Int.toNat_natCast, getD_last]
      refine yes (decide_eq_true (by simp <;> omega)) (yes hin ?_)
      generalize ls.set c.1.toNat (put c.2.1 (ls.getD c.1.toNat (none, none)) c.2.2.2) = ls2 at hun ⊢
      have hg' : List.getD (ls.map lI) (cI c).1.toNat zt68 = lI (ls.getD c.1.toNat (none, none)) := hg
      rw [hg']
      generalize ls.getD c.1.toNat (none, none) = l at hm
      obtain ⟨lo, hi'⟩ := l
      refine yes hi ?_
      obtain ⟨v, up, lv0, was⟩ := c
      cases up with
      | true =>
        refine yes rfl (yes hi ?_)
        cases hi' with
        | none => exact yes rfl rfl
        | some p =>
          obtain ⟨x, w⟩ := p
          refine no rfl ?_
          have hb := h.1
          cases was with
          | none => exact no rfl (st hun rfl)
          | some q =>
            obtain ⟨y, u⟩ := q
            refine yes rfl (st (tighterB_F true (hm.2 x w rfl) (hb y u rfl) rfl) ?_)
            show (bif not (tb true x y) then _ else _) = match (bif tb true x y then Sum.inl ls2 else Sum.inr false : Sum (List AL) Bool) with | .inl ls' => _ | .inr b => _
            cases tb true x y with
            | false => rfl
            | true => exact no rfl (st hun rfl)
      | false =>
        refine no rfl ?_
        cases lo with
        | none => exact yes rfl rfl
        | some p =>
          obtain ⟨x, w⟩ := p
          refine no rfl ?_
          have hb := h.1
          cases was with
          | none => exact no rfl (st hun rfl)
          | some q =>
            obtain ⟨y, u⟩ := q
            refine yes rfl (st (tighterB_F false (hm.1 x w rfl) (hb y u rfl) rfl) ?_)
            show (bif not (tb false x y) then _ else _) = match (bif tb false x y then Sum.inl ls2 else Sum.inr false : Sum (List AL) Bool) with | .inl ls' => _ | .inr b => _
            cases tb false x y with
            | false => rfl
            | true => exact no rfl (st hun rfl)
    rw [gbB_cons]
    cases es : stp ls c with
    | inr b => exact ⟨1, fun k => by rw [step, es]⟩
    | inl ls' =>
      obtain ⟨e1, e2⟩ := stp_len es
      obtain ⟨j, hj⟩ := C20_all lev r ls' (by omega) (e2 ▸ set_ok hl _ (put_ok (getD_ok hl _) h.1)) (fun c' hc' => by rw [e1]; exact hc c' (by simp [hc']))
      exact ⟨j + 1, fun k => by rw [← Nat.add_assoc, step, es]; exact hj k⟩
noncomputable def nfd (d : Dt44) : Dt44 := dcan (dv d)
theorem bdn_v (b : Dt66) : bdn nfd b = bI (bv b) := by
  unfold bdn bv
  cases b.1 with
  | false => rfl
  | true => rfl
theorem stn_v (b : Dt32) : stn nfd b = mR (mv b) := by
  unfold stn mR mv
  rw [List.map_map, List.map_map]
  have e1 : lin nfd = lI ∘ lv := funext fun l => by unfold lin; rw [bdn_v, bdn_v]; rfl
  have e2 : chn nfd = cI ∘ cv := funext fun c => by unfold chn; rw [bdn_v]; rfl
  rw [e1, e2]
theorem RCopyV_F {b : Dt32} (h : Hyp b) (hl : b.1.length ≤ 65536) : r08_Copy.F (b, ()) = some (mR (mv b), ()) := by
  rw [Copy_F (nf := nfd) (fun l hl => ⟨fun _ => Dn.rNorm_F (h.lims l hl).1 (by decide), fun _ => Dn.rNorm_F (h.lims l hl).2 (by decide)⟩) (fun c hc _ => Dn.rNorm_F (h.chg c hc) (by decide)) hl (by have := h.nc; omega), stn_v]
theorem C11_all (b : Dt32) (h : Hyp b) (hl : b.1.length ≤ 65536) : ∀ (d i : Nat), i + d = b.2.2.length → (∀ c ∈ b.2.2.take i, 0 ≤ c.1 ∧ c.1 < b.1.length) →
    ∃ j, ∀ k, r08_Check.L11 (k + j) b.1 b.2.1 b.2.2 (prevL b.2.2 i) i = some (chkC b.1.length b.2.1 (prevL b.2.2 i) (b.2.2.drop i) && gbB (mv b).limits (mv b).changes.reverse, ()) := by
  obtain ⟨ls, lev, tr⟩ := b
  have hn : tr.length ≤ 1048576 := h.nc
  have hl : ls.length ≤ 65536 := hl
  intro d
  induction d with
  | zero =>
    intro i hi hr
    obtain rfl : i = tr.length := by simpa using hi
    have hc : ∀ c ∈ (tr.map cv).reverse, Bk c.2.2.2 ∧ 0 ≤ c.1 ∧ c.1 < (ls.map lv).length := fun c hc => by
      rw [List.mem_reverse] at hc
      obtain ⟨a, ha, rfl⟩ := List.mem_map.1 hc
      refine ⟨(h.chg a ha).bk, ?_⟩
      have := hr a (by rw [List.take_length]; exact ha)
      rw [List.length_map]; exact this
    obtain ⟨j, hj⟩ := C20_all lev (tr.map cv).reverse (ls.map lv) (by rw [List.length_reverse, List.length_map]; omega) h.bks hc
    rw [List.reverse_reverse] at hj
    refine ⟨j + 1, fun k => ?_⟩
    rw [← Nat.add_assoc, r08_Check.L11_succ]
    unfold r08_Check.b11
    refine no (decide_eq_false (by omega)) ?_
    rw [List.drop_length]
    exact st (RCopyV_F h hl) (hj k)
  | succ d ih =>
    intro i hi hr
    dsimp only at hi hr ⊢
    have hil : i < tr.length := by omega
    have hin : (decide (0 ≤ (i : Int)) && decide ((i : Int) < (tr.length : Int))) = true := by simp <;> omega
    have e1 : IntKind.i64.wrap ((i : Int) + 1) = ((i + 1 : Nat) : Int) := ((wrap_ok (by omega) (by omega)).trans (by omega))
    have hdrop : tr.drop i = tr[i] :: tr.drop (i + 1) := List.drop_eq_getElem_cons hil
    have hbd := h.chg _ (List.getElem_mem hil)
    have hz := empty_F hbd
    have hnx : prevL tr (i + 1) = (tr[i]).2.2.1 := by show (tr.getD i zt70).2.2.1 = _; rw [List.getD_eq_getElem?_getD, List.getElem?_eq_getElem hil]; rfl
    have htake : tr.take (i + 1) = tr.take i ++ [tr[i]] := List.take_succ_eq_append_getElem hil
    have his := Is_F (ls, lev, tr) (tr[i]).1
    rw [hdrop]
    show ∃ j, ∀ k, _ = some ((okCh ls.length lev (prevL tr i) tr[i] && chkC ls.length lev (tr[i]).2.2.1 (tr.drop (i + 1))) && _, ())
    cases hok : okCh ls.length lev (prevL tr i) tr[i] with
    | true =>
      obtain ⟨g1, g2, g3, g4⟩ := okCh_split.1 hok
      obtain ⟨j, hj⟩ := ih (i + 1) (by show i + 1 + d = tr.length; omega) (fun c hc => by
        have hc : c ∈ tr.take (i + 1) := hc
        rw [htake] at hc
        rcases List.mem_append.1 hc with hc | hc
        · exact hr c hc
        · obtain rfl : c = tr[i] := by simpa using hc
          exact g1)
      refine ⟨j + 1, fun k => ?_⟩
      have hj' := hj k
      dsimp only at hj'
      rw [hnx] at hj'
      rw [← Nat.add_assoc, r08_Check.L11_succ]
      unfold r08_Check.b11
      rw [getD_at tr zt70 hil]
      generalize hc : tr[i] = c at *
      rw [g4] at hz
      rw [decide_eq_true g1] at his
      refine yes (decide_eq_true (by omega)) (yes hin (st his (st hz (no rfl (no rfl (no (decide_eq_false (by omega)) (no (decide_eq_false (by omega)) ?_)))))))
      dsimp only
      rw [e1]
      exact hj'
    | false =>
      refine ⟨1, fun k => ?_⟩
      rw [r08_Check.L11_succ]
      unfold r08_Check.b11
      rw [getD_at tr zt70 hil]
      generalize hc : tr[i] = c at *
      show _ = some (false, ())
      refine yes (decide_eq_true (by omega)) (yes hin (st his (st hz ?_)))
      by_cases c1 : 0 ≤ c.1 ∧ c.1 < (ls.length : Int)
      · refine no (by rw [decide_eq_true c1]; rfl) ?_
        cases hz9 : Zb c.2.2.2 with
        | false => exact yes rfl rfl
        | true =>
          refine no rfl ?_
          by_cases c3 : c.2.2.1 < prevL tr i
          · exact yes (decide_eq_true c3) rfl
          refine no (decide_eq_false c3) ?_
          by_cases c4 : c.2.2.1 > lev
          · exact yes (decide_eq_true c4) rfl
          rw [okCh_split.2 ⟨c1, by omega, by omega, hz9⟩] at hok
          cases hok
      · exact yes (by rw [decide_eq_false c1]; rfl) rfl
theorem C4_all (b : Dt32) (h : Hyp b) (hl : b.1.length ≤ 65536) : ∀ (d i : Nat), i + d = b.1.length →
    ∃ j, ∀ k, r08_Check.L4 (k + j) b.1 b.2.1 b.2.2 i = some ((b.1.drop i).all goodL && (chkC b.1.length b.2.1 0 b.2.2 && gbB (mv b).limits (mv b).changes.reverse), ()) := by
  intro d
  induction d with
  | zero =>
    intro i hi
    obtain rfl : i = b.1.length := by simpa using hi
    obtain ⟨j, hj⟩ := C11_all b h hl b.2.2.length 0 (by simp) (fun c hc => by simp at hc)
    refine ⟨j + 1, fun k => ?_⟩
    rw [← Nat.add_assoc, r08_Check.L4_succ]
    unfold r08_Check.b4
    refine no (decide_eq_false (by omega)) ?_
    rw [List.drop_length]
    exact hj k
  | succ d ih =>
    intro i hi
    have hil : i < b.1.length := by omega
    have hin : (decide (0 ≤ (i : Int)) && decide ((i : Int) < (b.1.length : Int))) = true := by simp <;> omega
    have e1 : IntKind.i64.wrap ((i : Int) + 1) = ((i + 1 : Nat) : Int) := ((wrap_ok (by omega) (by omega)).trans (by omega))
    have hdrop : b.1.drop i = b.1[i] :: b.1.drop (i + 1) := List.drop_eq_getElem_cons hil
    obtain ⟨hb1, hb2⟩ := h.lims _ (List.getElem_mem hil)
    have z1 := empty_F hb1
    have z2 := empty_F hb2
    have hcr := crossed_F hb1 hb2
    obtain ⟨j, hj⟩ := ih (i + 1) (by omega)
    refine ⟨j + 1, fun k => ?_⟩
    have hj' := hj k
    rw [← Nat.add_assoc, r08_Check.L4_succ, hdrop, List.all_cons]
    unfold r08_Check.b4
    rw [getD_at b.1 zt68 hil]
    have hgl : ∀ l : Dt68, goodL l = (Zb l.1 && (Zb l.2 && !cross (lv l))) := fun l => rfl
    rw [hgl]
    generalize b.1[i] = l at *
    refine yes (decide_eq_true (by omega)) (yes hin (st z1 ?_))
    cases g1 : Zb l.1 with
    | false => rw [Bool.false_and]; exact yes rfl rfl
    | true =>
      refine no rfl (st z2 ?_)
      cases g2 : Zb l.2 with
      | false => rw [Bool.true_and, Bool.false_and]; exact yes rfl rfl
      | true =>
        refine no rfl (st hcr ?_)
        rw [Bool.true_and, Bool.true_and]
        cases cross (lv l) with
        | true => exact yes rfl rfl
        | false =>
          refine no rfl ?_
          dsimp only
          rw [e1]
          exact hj'
theorem Check_F (b : Dt32) (h : Hyp b) : r08_Check.F (b, ()) = some (OkState b, ()) := by
  by_cases c1 : b.1.length ≤ 65536
  · obtain ⟨j, hj⟩ := C4_all b h c1 b.1.length 0 (by simp)
    refine r08_Check.of (0 + j) b ?_
    unfold r08_Check.e OkState
    refine no (decide_eq_false (by omega)) ?_
    by_cases c2 : b.2.1 < 0
    · rw [decide_eq_false (p := b.1.length ≤ 65536 ∧ 0 ≤ b.2.1 ∧ b.2.1 ≤ 2147483647) (by omega)]
      exact yes (decide_eq_true c2) rfl
    refine no (decide_eq_false c2) ?_
    by_cases c3 : b.2.1 > 2147483647
    · rw [decide_eq_false (p := b.1.length ≤ 65536 ∧ 0 ≤ b.2.1 ∧ b.2.1 ≤ 2147483647) (by omega)]
      exact yes (decide_eq_true c3) rfl
    refine no (decide_eq_false c3) ?_
    rw [decide_eq_true (p := b.1.length ≤ 65536 ∧ 0 ≤ b.2.1 ∧ b.2.1 ≤ 2147483647) ⟨c1, by omega, by omega⟩]
    exact hj 0
  · refine r08_Check.of 0 b ?_
    unfold r08_Check.e OkState
    rw [decide_eq_false (p := b.1.length ≤ 65536 ∧ 0 ≤ b.2.1 ∧ b.2.1 ≤ 2147483647) (by omega)]
    exact yes (decide_eq_true (by omega)) rfl
theorem RLoad_F (b : Dt32) (h : Hyp b) : r08_Load.F (b, ()) = some (bif OkState b then (mR (mv b), (0 : Int), ()) else (zt32, (81 : Int), ())) := by
  refine r08_Load.of 0 b (st (Check_F b h) ?_)
  cases hok : OkState b with
  | false => rfl
  | true =>
    have hl : b.1.length ≤ 65536 := by
      unfold OkState at hok
      simp only [Bool.and_eq_true, decide_eq_true_eq] at hok
      exact hok.1.1
    exact no rfl (st (RCopyV_F h hl) rfl)
theorem mv_ok {b : Dt32} (h : Hyp b) (hok : OkState b = true) : (mv b).ok 2147483648 := by
  unfold OkState at hok
  simp only [Bool.and_eq_true, decide_eq_true_eq] at hok
  obtain ⟨⟨h1, h2, h3⟩, _, h5, _⟩ := hok
  have hr : ∀ (p : Int) (tr : List Dt70), chkC b.1.length b.2.1 p tr = true → ∀ c ∈ tr, 0 ≤ c.1 ∧ c.1 < b.1.length := by
    intro p tr
    induction tr generalizing p with
    | nil => intro _ c hc; cases hc
    | cons a tr ih =>
      intro ht c hc
      simp only [chkC, Bool.and_eq_true] at ht
      rcases List.mem_cons.1 hc with rfl | hc
      · exact (okCh_split.1 ht.1).1
      · exact ih _ ht.2 c hc
  refine ⟨h.bks, fun c hc => ?_, by show (b.1.map lv).length ≤ _; rw [List.length_map]; exact h1, by show (b.2.2.map cv).length ≤ _; rw [List.length_map]; have := h.nc; omega, ⟨h2, by show b.2.1 ≤ _; omega⟩⟩
  obtain ⟨a, ha, rfl⟩ := List.mem_map.1 hc
  refine ⟨(h.chg a ha).bk, ?_⟩
  show 0 ≤ a.1 ∧ a.1 < ((b.1.map lv).length : Int)
  rw [List.length_map]; exact hr 0 _ h5 a ha
theorem bd_ofB {b : Dt66} (w : K.wf Kt66 b) (h : K.bulk Kt66 b ≤ 1048576) : Bd b := by
  have hb : 1 + (K.bulk Kt44 b.2.1 + 1) ≤ 1048576 := h
  exact dn_ofB w.2.1 (by omega)
theorem hyp_ofB {b : Dt32} (w : K.wf Kt32 b) (h : K.bulk Kt32 b ≤ 1048576) : Hyp b := by
  have hb : (((b.1 : List Dt68).map (K.bulk Kt68)).sum + 1) + (1 + (((b.2.2 : List Dt70).map (K.bulk Kt70)).sum + 1)) ≤ 1048576 := h
  refine ⟨fun l hl => ?_, fun c hc => ?_, ?_⟩
  · have h1 := sum_mem (f := K.bulk Kt68) hl
    have h2 : K.bulk Kt68 l = K.bulk Kt66 l.1 + K.bulk Kt66 l.2 := rfl
    have w1 := w.1 l hl
    exact ⟨bd_ofB w1.1 (by omega), bd_ofB w1.2 (by omega)⟩
  · have h1 := sum_mem (f := K.bulk Kt70) hc
    have h2 : K.bulk Kt70 c = 1 + (1 + (1 + K.bulk Kt66 c.2.2.2)) := rfl
    exact bd_ofB (w.2.2 c hc).2.2.2 (by omega)
  · have h2 : List.length (α := Dt70) b.2.2 ≤ ((b.2.2 : List Dt70).map (K.bulk Kt70)).sum := sum_len (f := K.bulk Kt70) (fun x => by show 1 ≤ 1 + _; omega) b.2.2
    omega
theorem okP_ofB {o : Dt47} (w : K.wf Kt47 o) (h : K.bulk Kt47 o ≤ 1048576) : OkP o := by
  refine ⟨op_ofB w h, fun d hd => ?_⟩
  have hb : 1 + (1 + (K.bulk Kt44 o.2.2.1 + (1 + (((o.2.2.2.2 : List Dt44).map (K.bulk Kt44)).sum + 1)))) ≤ 1048576 := h
  have h1 := sum_mem (f := K.bulk Kt44) hd
  exact dn_ofB (w.2.2.2.2 d hd) (by omega)
theorem loads_core {b : Dt32} (h : Hyp b) {o : Dt47} (ho : OkP o) : w_BoundsLoads.F (b, o, ()) = some (true, ()) := by
  refine w_BoundsLoads.of 0 b o ?_
  have hL := Load_F b h
  have hR := RLoad_F b h
  unfold w_BoundsLoads.e
  cases hok : OkState b with
  | false =>
    have hL' : bounds_Load.F () (b, ()) = some (none, ((81 : Int), ()), ()) := hL.trans (by rw [hok]; rfl)
    have hR' : r08_Load.F (b, ()) = some (zt32, (81 : Int), ()) := hR.trans (by rw [hok]; rfl)
    exact st hL' (st hR' (no rfl (no rfl (yes rfl rfl))))
  | true =>
    have hL' : bounds_Load.F () (b, ()) = some (some (mS (mv b)), ((0 : Int), ()), ()) := hL.trans (by rw [hok]; rfl)
    have hR' : r08_Load.F (b, ()) = some (mR (mv b), (0 : Int), ()) := hR.trans (by rw [hok]; rfl)
    have hm := mv_ok h hok
    have hm2 := move_ok hm ho.ok
    have hs := State_F hm (by omega)
    have he := sameState_F hm (by omega)
    have hv := move_F hm (by omega) ho.ok
    have hk := look_F hm2 (by omega) ho
    have hs2 := State_F hm2 (by omega)
    have he2 := sameState_F hm2 (by omega)
    exact st hL' (st hR' (no rfl (no rfl (no rfl (st hs (st he (no rfl (st hv (yes rfl (st hk (yes rfl (st hs2 (st he2 rfl)))))))))))))
theorem boundsLoads_true (b : Dt32) (o : Dt47) (wb : K.wf Kt32 b) (wo : K.wf Kt47 o) (bb : K.bulk Kt32 b ≤ 1048576) (bo : K.bulk Kt47 o ≤ 1048576) : w_BoundsLoads.F (b, o, ()) = some (true, ()) :=
  loads_core (hyp_ofB wb bb) (okP_ofB wo bo)
end Go.Fx.Tryz
