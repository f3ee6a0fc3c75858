/- The laws of implications, and of one inequality and its multiples. -/
import Derived.Test.YtjojmgadmdgdgaaGreatWB
namespace Go.Fx.Tryz
open Go Go.Fx Go.Fx.Num
set_option linter.unusedVariables false
set_option linter.unusedSimpArgs false
theorem neg64 {i : Int} (h : -9223372036854775808 < i) (h2 : i < 9223372036854775808) : negI .i64 i = -i := by
 unfold negI; rw [IntWalk.i64_in _ (by omega)]; omega
theorem neg64_min : negI .i64 (-9223372036854775808) = -9223372036854775808 := by decide
theorem lsub1 {i : Int} (h : -9223372036854775808 < i) (h2 : i < 9223372036854775808) : IntKind.i64.wrap (i - 1) = i - 1 := IntWalk.i64_in _ (by omega)
theorem lit_F (l : Dt22) (i : Int) (hl : l.length ≤ 1048576) (hi : -9223372036854775808 ≤ i ∧ i ≤ 9223372036854775807) :
  (∃ (n : Nat) (h : n < l.length), (i = (n : Int) + 1 ∨ i = -((n : Int) + 1)) ∧ atoms_literal.F (l, i, ()) = some (l[n], true, ()) ∧ r17_At.F (l, i, ()) = some (l[n], decide (i > 0), true, ())) ∨
   (atoms_literal.F (l, i, ()) = some (zt69, false, ()) ∧ r17_At.F (l, i, ()) = some (zt69, false, false, ())) := by
 by_cases h0 : i < 0
 ·by_cases hm : i = -9223372036854775808
  ·have em : negI .i64 i = -9223372036854775808 := by rw [hm]; exact neg64_min
   refine .inr ⟨atoms_literal.of 0 l _ (yes (decide_eq_true h0) (yes (decide_eq_true ?_) rfl)), r17_At.of 0 l _ (no (decide_eq_false (by omega)) (yes (decide_eq_true h0) (no (decide_eq_false ?_) rfl)))⟩
   ·rw [em]; omega
   ·rw [neg64 (by omega) (by omega)]; omega
  have en := neg64 (i := i) (by omega) (by omega)
  have el := neg64 (i := (l.length : Int)) (by omega) (by omega)
  by_cases h1 : -i ≤ l.length
  ·obtain ⟨n, hn⟩ : ∃ n : Nat, i = -((n : Int) + 1) := ⟨(-i - 1).toNat, by omega⟩
   have hnl : n < l.length := by omega
   have ew : IntKind.i64.wrap (negI .i64 i - 1) = (n : Int) := by rw [en, lsub1 (by omega) (by omega)]; omega
   have e1 := getD_at l zt69 hnl
   have c1 : decide (i < 0) = true := decide_eq_true h0
   have c3 : (decide (0 ≤ IntKind.i64.wrap (negI .i64 i - 1)) && decide (IntKind.i64.wrap (negI .i64 i - 1) < (l.length : Int))) = true := by rw [ew, decide_eq_true (by omega), decide_eq_true (by omega)]; rfl
   refine .inl ⟨n, hnl, .inr hn, atoms_literal.of 0 l _ (yes c1 (no (decide_eq_false ?_) (no (decide_eq_false ?_) (yes c3 ?_)))), r17_At.of 0 l _ (no (decide_eq_false (by omega)) (yes c1 (yes (decide_eq_true ?_) (yes c3 ?_))))⟩
   ·rw [en]; omega
   ·rw [en]; omega
   ·show some (List.getD l (Int.toNat (IntKind.i64.wrap (negI .i64 i - 1))) zt69, true, ()) = _
    rw [ew, e1]
   ·rw [el]; omega
   ·show some (List.getD l (Int.toNat (IntKind.i64.wrap (negI .i64 i - 1))) zt69, false, true, ()) = _
    rw [ew, e1, decide_eq_false (by omega)]
  ·refine .inr ⟨atoms_literal.of 0 l _ (yes (decide_eq_true h0) (no (decide_eq_false ?_) (yes (decide_eq_true ?_) rfl))), r17_At.of 0 l _ (no (decide_eq_false (by omega)) (yes (decide_eq_true h0) (no (decide_eq_false ?_) rfl)))⟩
   ·rw [en]; omega
   ·rw [en]; omega
   ·rw [el]; omega
 ·by_cases h1 : i < 1
  ·exact .inr ⟨atoms_literal.of 0 l _ (no (decide_eq_false h0) (yes (decide_eq_true h1) rfl)), r17_At.of 0 l _ (no (decide_eq_false (by omega)) (no (decide_eq_false h0) rfl))⟩
  ·by_cases h2 : i ≤ l.length
   ·obtain ⟨n, hn⟩ : ∃ n : Nat, i = (n : Int) + 1 := ⟨(i - 1).toNat, by omega⟩
    have hnl : n < l.length := by omega
    have ew : IntKind.i64.wrap (i - 1) = (n : Int) := by rw [lsub1 (by omega) (by omega)]; omega
    have e1 := getD_at l zt69 hnl
    have c3 : (decide (0 ≤ IntKind.i64.wrap (i - 1)) && decide (IntKind.i64.wrap (i - 1) < (l.length : Int))) = true := by rw [ew, decide_eq_true (by omega), decide_eq_true (by omega)]; rfl
    refine .inl ⟨n, hnl, .inl hn, atoms_literal.of 0 l _ (no (decide_eq_false h0) (no (decide_eq_false h1) (no (decide_eq_false (by omega)) (yes c3 ?_)))), r17_At.of 0 l _ (yes (decide_eq_true (by omega)) (yes (decide_eq_true h2) (yes c3 ?_)))⟩
    ·show some (List.getD l (Int.toNat (IntKind.i64.wrap (i - 1))) zt69, true, ()) = _
     rw [ew, e1]
    ·show some (List.getD l (Int.toNat (IntKind.i64.wrap (i - 1))) zt69, true, true, ()) = _
     rw [ew, e1, decide_eq_true (by omega)]
   ·exact .inr ⟨atoms_literal.of 0 l _ (no (decide_eq_false h0) (no (decide_eq_false h1) (yes (decide_eq_true (by omega)) rfl))), r17_At.of 0 l _ (yes (decide_eq_true (by omega)) (no (decide_eq_false h2) (no (decide_eq_false h0) rfl)))⟩
theorem Good.at {l : Dt22} (h : Good l) {n : Nat} (hn : n < l.length) : (n = 0 ∧ l[n] = tru) ∨ (n ≠ 0 ∧ Ok l[n]) := by
 match l, h, n, hn with
 | a :: q, h, 0, _ => exact .inl ⟨rfl, h.2.1⟩
 | a :: q, h, n + 1, hn => exact .inr ⟨by omega, h.2.2.1 _ (List.getElem_mem (by simpa using hn))⟩
def ord (p q : Rat) (s t : Bool) : Bool := decide (p < q) || (decide (p = q) && (s || !t))
theorem cmp_lt (p q : Rat) : decide (rcmp p q < 0) = decide (p < q) := decide_eq_decide.2 rcmp_lt
theorem cmp_gt (p q : Rat) : decide (rcmp p q > 0) = decide (q < p) := decide_eq_decide.2 rcmp_gt
theorem cmp_eq (p q : Rat) : (rcmp p q == 0) = decide (p = q) := by
 by_cases h : p = q
 ·rw [decide_eq_true h]; exact beq_iff_eq.2 (rcmp_eq.2 h)
 ·rw [decide_eq_false h]; exact beq_f fun e => h (rcmp_eq.1 e)
theorem Implies_F (l : Dt22) (i j : Int) (hl : ∀ a ∈ l, AtR a) (hn : l.length ≤ 1048576) (hi : -9223372036854775808 ≤ i ∧ i ≤ 9223372036854775807) (hj : -9223372036854775808 ≤ j ∧ j ≤ 9223372036854775807) :
  ∃ (v : Bool) (c : Int), atoms_Implies.F (l, i, j, ()) = some (v, c, ()) ∧ r17_Implies.F (l, i, j, ()) = some (v, c, ()) := by
 obtain ⟨t, v, h1, h2, _⟩ := load_F hl
 obtain ⟨c, h3, h4, h5⟩ := rCheck_F hl
 obtain ⟨a1, o1, q1, x1, y1⟩ : ∃ (a : Dt69) (o q : Bool), atoms_literal.F (l, i, ()) = some (a, o, ()) ∧ r17_At.F (l, i, ()) = some (a, q, o, ()) := by
  rcases lit_F l i hn hi with ⟨n, h, _, e1, e2⟩ | ⟨e1, e2⟩
  ·exact ⟨_, _, _, e1, e2⟩
  ·exact ⟨_, _, _, e1, e2⟩
 obtain ⟨a2, o2, q2, x2, y2⟩ : ∃ (a : Dt69) (o q : Bool), atoms_literal.F (l, j, ()) = some (a, o, ()) ∧ r17_At.F (l, j, ()) = some (a, q, o, ()) := by
  rcases lit_F l j hn hj with ⟨n, h, _, e1, e2⟩ | ⟨e1, e2⟩
  ·exact ⟨_, _, _, e1, e2⟩
  ·exact ⟨_, _, _, e1, e2⟩
 by_cases hg : Good l
 case neg =>
  have hv : v = false := by cases v; rfl; exact absurd (h2.1 rfl) hg
  have hc : c = 170 := h5.resolve_left fun e => hg (h4.1 e)
  subst hv; subst hc
  exact ⟨false, 170, atoms_Implies.of 0 l i j (st h1 (st x1 (st x2 (yes rfl rfl)))), r17_Implies.of 0 l i j (st y1 (st y2 (st h3 (yes rfl rfl))))⟩
 obtain rfl : v = true := h2.2 hg
 obtain rfl : c = 0 := h4.2 hg
 clear h2 h4 h5
 rcases lit_F l i hn hi with ⟨n, hnl, en, e1, e2⟩ | ⟨e1, e2⟩
 case inr => exact ⟨false, 170, atoms_Implies.of 0 l i j (st h1 (st e1 (st x2 (no rfl (yes rfl rfl))))), r17_Implies.of 0 l i j (st e2 (st y2 (st h3 (no rfl (yes rfl rfl)))))⟩
 rcases lit_F l j hn hj with ⟨m, hml, em, e3, e4⟩ | ⟨e3, e4⟩
 case inr => exact ⟨false, 170, atoms_Implies.of 0 l i j (st h1 (st e1 (st e3 (no rfl (no rfl (yes rfl rfl)))))), r17_Implies.of 0 l i j (st e2 (st e4 (st h3 (no rfl (no rfl (yes rfl rfl))))))⟩
 clear x1 y1 x2 y2
 have code := fun r (h : _ = some r) => atoms_Implies.of 0 l i j (y := r) (st h1 (st e1 (st e3 (no rfl (no rfl (no rfl h))))))
 have ref := fun r (h : _ = some r) => r17_Implies.of 0 l i j (y := r) (st e2 (st e4 (st h3 (no rfl (no rfl (no rfl h))))))
 by_cases c1 : i = j
 ·exact ⟨true, 0, code _ (yes (beq_iff_eq.2 c1) rfl), ref _ (yes (beq_iff_eq.2 c1) rfl)⟩
 have b1 := beq_f c1
 by_cases c2 : j = 1
 ·exact ⟨true, 0, code _ (no b1 (yes (beq_iff_eq.2 c2) rfl)), ref _ (no b1 (yes (beq_iff_eq.2 c2) rfl))⟩
 have b2 := beq_f c2
 by_cases c3 : i = -1
 ·exact ⟨true, 0, code _ (no b1 (no b2 (yes (beq_iff_eq.2 c3) rfl))), ref _ (no b1 (no b2 (yes (beq_iff_eq.2 c3) rfl)))⟩
 have b3 := beq_f c3
 have code := fun r (h : _ = some r) => code r (no b1 (no b2 (no b3 h)))
 have ref := fun r (h : _ = some r) => ref r (no b1 (no b2 (no b3 h)))
 have ha := hl _ (List.getElem_mem hnl)
 have hb := hl _ (List.getElem_mem hml)
 have t1 := sameForm_F (g := l[m].2.1) ha.lb.1
 have t2 := rSameForm_F (g := l[m].2.1) ha.lb.1
 have emp : ∀ {a : Dt69}, a.2.1 = [] → (((a.2.1.length : Nat) : Int) == 0) = true := fun e => len_nil.2 e
 have nam_t : ∀ {s : ByteArray}, s ≠ ByteArray.empty → (!(s.toList == (⟨#[]⟩ : ByteArray).toList)) = true := fun h => by rw [show (_ == (⟨#[]⟩ : ByteArray).toList) = false from str_no h]; rfl
 have nam_f : ∀ {s : ByteArray}, s = ByteArray.empty → (!(s.toList == (⟨#[]⟩ : ByteArray).toList)) = false := fun h => by rw [show (_ == (⟨#[]⟩ : ByteArray).toList) = true from str_yes h]; rfl
 by_cases c4 : i = 1
 ·have hz : l[n].2.1 = [] := by
   rcases hg.at hnl with ⟨_, e⟩ | ⟨e, _⟩
   ·rw [e]; rfl
   ·omega
  exact ⟨false, 0, code _ (yes (emp hz) rfl), ref _ (yes (beq_iff_eq.2 c4) rfl)⟩
 have b4 := beq_f c4
 have hn0 : n ≠ 0 := by omega
 have on := ((hg.at hnl).resolve_left fun e => hn0 e.1).2
 have ref := fun r (h : _ = some r) => ref r (no b4 h)
 have codeF : (l[n].2.1 = [] ∨ l[n].2.1 ≠ l[m].2.1) → atoms_Implies.F (l, i, j, ()) = some (false, 0, ()) := fun h => by
  by_cases hz : l[n].2.1 = []
  ·exact code _ (yes (emp hz) rfl)
  ·exact code _ (no (Bool.eq_false_iff.2 fun e => hz (len_nil.1 e)) (st (t1.no (h.resolve_left hz)) (yes rfl rfl)))
 by_cases c5 : j = -1
 ·have hz : l[m].2.1 = [] := by
   rcases hg.at hml with ⟨_, e⟩ | ⟨e, _⟩
   ·rw [e]; rfl
   ·omega
  exact ⟨false, 0, codeF (by rw [hz]; exact Classical.em _), ref _ (yes (beq_iff_eq.2 c5) rfl)⟩
 have b5 := beq_f c5
 have hm0 : m ≠ 0 := by omega
 have om := ((hg.at hml).resolve_left fun e => hm0 e.1).2
 have ref := fun r (h : _ = some r) => ref r (no b5 h)
 by_cases c6 : l[n].1 = ByteArray.empty
 case neg => exact ⟨false, 0, codeF (.inl (on.resolve_right fun e => c6 e.1).2.1), ref _ (yes (nam_t c6) rfl)⟩
 have ref := fun r (h : _ = some r) => ref r (no (nam_f c6) h)
 have i1 : OkI l[n] := on.resolve_left fun e => e.1 c6
 by_cases c7 : l[m].1 = ByteArray.empty
 case neg => exact ⟨false, 0, codeF (by rw [(om.resolve_right fun e => c7 e.1).2.1]; exact Classical.em _), ref _ (yes (nam_t c7) rfl)⟩
 have ref := fun r (h : _ = some r) => ref r (no (nam_f c7) h)
 have code := fun r (h : _ = some r) => code r (no (Bool.eq_false_iff.2 fun e => i1.2.1 (len_nil.1 e)) h)
 by_cases c9 : decide (i > 0) = decide (j > 0)
 case neg =>
  have s1 : (!(decide (i > 0) == decide (j > 0))) = true := by rw [beq_no c9]; rfl
  refine ⟨false, 0, ?_, ref _ (yes s1 rfl)⟩
  by_cases c8 : l[n].2.1 = l[m].2.1
  ·exact code _ (st (t1.yes c8) (no rfl (yes s1 rfl)))
  ·exact codeF (.inr c8)
 have s1 : (!(decide (i > 0) == decide (j > 0))) = false := by rw [beq_yes c9]; rfl
 by_cases c8 : l[n].2.1 = l[m].2.1
 case neg => exact ⟨false, 0, codeF (.inr c8), ref _ (no s1 (st (t2.no c8) (yes rfl rfl)))⟩
 have code := fun r (h : _ = some r) => code r (st (t1.yes c8) (no rfl (no s1 h)))
 have ref := fun r (h : _ = some r) => ref r (no s1 (st (t2.yes c8) (no rfl h)))
 obtain ⟨k1, r1, g1⟩ := ha.bound
 obtain ⟨k2, r2, g2⟩ := hb.bound
 have r1 := r1.mono (show k1 ≤ k1 + k2 by omega)
 have r2 := r2.mono (show k2 ≤ k1 + k2 by omega)
 have f12 : ratio_Cmp.F (l[n].2.2.1, l[m].2.2.1, ()) = some (rcmp (rv l[n].2.2.1) (rv l[m].2.2.1), ()) := r1.Cmp_F r2 (by omega)
 have f21 : ratio_Cmp.F (l[m].2.2.1, l[n].2.2.1, ()) = some (rcmp (rv l[m].2.2.1) (rv l[n].2.2.1), ()) := r2.Cmp_F r1 (by omega)
 have g12 : r03_Cmp.F (l[n].2.2.1, l[m].2.2.1, ()) = some (rcmp (rv l[n].2.2.1) (rv l[m].2.2.1), ()) := r1.rCmp_F r2 (by omega)
 generalize rv l[n].2.2.1 = p at f12 f21 g12
 generalize rv l[m].2.2.1 = q at f12 f21 g12
 have ref := fun r (h : _ = some r) => ref r (st g12 h)
 by_cases ci : i > 0
 ·refine ⟨ord p q l[n].2.2.2 l[m].2.2.2, 0, code _ (no (decide_eq_false (by omega)) (st f12 ?_)), ref _ (yes (decide_eq_true ci) ?_)⟩
  all_goals
   unfold ord
   by_cases d1 : p < q
   ·rw [decide_eq_true d1]
    exact yes ((cmp_lt p q).trans (decide_eq_true d1)) rfl
   rw [decide_eq_false d1]
   refine no ((cmp_lt p q).trans (decide_eq_false d1)) ?_
   by_cases d2 : p = q
   ·rw [decide_eq_true d2]
    refine yes ((cmp_eq p q).trans (decide_eq_true d2)) ?_
    by_cases hs : l[n].2.2.2 = true
    ·exact yes hs (by rw [hs]; rfl)
    ·have hs := Bool.eq_false_iff.2 hs
     exact no hs (by rw [hs]; rfl)
   ·rw [decide_eq_false d2]
    exact no ((cmp_eq p q).trans (decide_eq_false d2)) rfl
 ·have ci' : i < 0 := by omega
  refine ⟨ord q p l[m].2.2.2 l[n].2.2.2, 0, code _ (yes (decide_eq_true ci') (st f21 ?_)), ref _ (no (decide_eq_false ci) ?_)⟩
  ·unfold ord
   by_cases d1 : q < p
   ·rw [decide_eq_true d1]
    exact yes ((cmp_lt q p).trans (decide_eq_true d1)) rfl
   rw [decide_eq_false d1]
   refine no ((cmp_lt q p).trans (decide_eq_false d1)) ?_
   by_cases d2 : q = p
   ·rw [decide_eq_true d2]
    refine yes ((cmp_eq q p).trans (decide_eq_true d2)) ?_
    by_cases hs : l[m].2.2.2 = true
    ·exact yes hs (by rw [hs]; rfl)
    ·have hs := Bool.eq_false_iff.2 hs
     exact no hs (by rw [hs]; rfl)
   ·rw [decide_eq_false d2]
    exact no ((cmp_eq q p).trans (decide_eq_false d2)) rfl
  ·unfold ord
   by_cases d1 : q < p
   ·rw [decide_eq_true d1]
    exact yes ((cmp_gt p q).trans (decide_eq_true d1)) rfl
   rw [decide_eq_false d1]
   refine no ((cmp_gt p q).trans (decide_eq_false d1)) ?_
   by_cases d2 : q = p
   ·rw [decide_eq_true d2]
    refine yes ((cmp_eq p q).trans (decide_eq_true d2.symm)) ?_
    by_cases hs : l[n].2.2.2 = true
    ·refine no (by rw [hs]; rfl) ?_
     rw [hs]
     show some (l[m].2.2.2, _) = some (l[m].2.2.2 || false, _)
     rw [Bool.or_false]
    ·have hs := Bool.eq_false_iff.2 hs
     refine yes (by rw [hs]; rfl) ?_
     rw [hs]
     show some (true, _) = some (l[m].2.2.2 || true, _)
     rw [Bool.or_true]
   ·rw [decide_eq_false d2]
    exact no ((cmp_eq p q).trans (decide_eq_false fun e => d2 e.symm)) rfl
theorem i64_wf {i : Int} (w : K.wf (.int .i64) i) : -9223372036854775808 ≤ i ∧ i ≤ 9223372036854775807 := by
 have this : (Lit.int .i64 i).wf = true := w
 simp [Lit.wf, IntKind.min, IntKind.max, IntKind.bits, IntKind.signed] at this
 exact this
theorem atomsImplies_true (l : Dt22) (i j : Int) (wl : K.wf Kt22 l) (wi : K.wf (.int .i64) i) (wj : K.wf (.int .i64) j) (bl : K.bulk Kt22 l ≤ 1048576) (bi : K.bulk (.int .i64) i ≤ 1048576) (bj : K.bulk (.int .i64) j ≤ 1048576) : w_AtomsImplies.F (l, i, j, ()) = some (true, ()) := by
 obtain ⟨h1, h2⟩ := atoms_at wl bl
 obtain ⟨v, c, h3, h4⟩ := Implies_F l i j h1 h2 (i64_wf wi) (i64_wf wj)
 refine w_AtomsImplies.of 0 l i j (st (twin_F h1 h2) (st h3 (st h4 (st lives_F (yes rfl (yes ?_ ?_))))))
 ·show (v == v) = true; cases v <;> rfl
 ·show some ((c == c), ()) = _; rw [beq_self]
theorem div_scl {c q p : Rat} (hc : c ≠ 0) (hp : p ≠ 0) : c * q / -(c * p) = q / -p := by
 rw [Rat.div_def, Rat.div_def]
 have h1 := Rat.mul_inv_cancel (-(c * p)) (neg_ne (fun e => by rcases Rat.mul_eq_zero.1 e with e | e; exact hc e; exact hp e))
 have h2 := Rat.mul_inv_cancel (-p) (neg_ne hp)
 generalize (-(c * p))⁻¹ = i at *
 generalize (-p)⁻¹ = k at *
 grind
theorem ine_scl {c : Rat} (hc : c ≠ 0) {x : NF} (hx : nrm x ≠ []) (q : Rat) (s : Bool) : ine (scl c (nrm x)) (c * q) s = ine x q s := by
 have hn := (nrm_nf x).1
 have e : nrm (scl c (nrm x)) = scl c (nrm x) := nrm_self (hn.scl hc)
 unfold ine
 rw [e, pr_scl hc hn hx, pc_scl hc hn hx, div_scl hc (pc_ne hn)]
theorem cst_pos {c q : Rat} (hc : 0 < c) (s : Bool) : cst (c * q) s = cst q s := by
 unfold cst
 by_cases h1 : q < 0
 ·have : c * q < 0 := by have := Rat.mul_pos hc (show 0 < -q by grind); grind
  rw [if_pos h1, if_pos this]
 ·have h2 : ¬ c * q < 0 := by
   by_cases h0 : q = 0
   ·rw [h0, Rat.mul_zero]; decide
   ·have := Rat.mul_pos hc (show 0 < q by grind); grind
  have hc0 : c ≠ 0 := by grind
  have h3 : c * q = 0 ↔ q = 0 := by rw [Rat.mul_eq_zero]; exact ⟨fun e => e.resolve_left hc0, .inr⟩
  rw [if_neg h1, if_neg h2]
  by_cases h0 : q = 0
  ·rw [if_pos h0, if_pos (h3.2 h0)]
  ·rw [if_neg h0, if_neg fun e => h0 (h3.1 e)]
theorem cst_neg {c q : Rat} (hc : c < 0) (s : Bool) : cst (c * q) (!s) = negI .i64 (cst q s) := by
 unfold cst
 have hn : 0 < -c := by grind
 have hc0 : c ≠ 0 := by grind
 have h3 : c * q = 0 ↔ q = 0 := by rw [Rat.mul_eq_zero]; exact ⟨fun e => e.resolve_left hc0, .inr⟩
 by_cases h1 : q < 0
 ·have : ¬ c * q < 0 := by have := Rat.mul_pos hn (show 0 < -q by grind); grind
  rw [if_pos h1, if_neg this, if_neg (fun e => by have := h3.1 e; grind)]; decide
 by_cases h0 : q = 0
 ·have : ¬ c * q < 0 := by rw [h0, Rat.mul_zero]; decide
  rw [if_neg h1, if_neg this, if_pos h0, if_pos (h3.2 h0)]
  cases s <;> decide
 ·have : c * q < 0 := by have := Rat.mul_pos hn (show 0 < q by grind); grind
  rw [if_neg h1, if_pos this, if_neg h0]; decide
theorem put_new {a : Dt69} {r} (hne : a ≠ tru) (h : Put [tru] a r) : r = ([tru, a], 2, 0) := by
 cases h with
 | there i hi e =>
  obtain rfl : i = 0 := by simp at hi; omega
  exact absurd e.symm hne
 | full h e => simp at e
 | new h e => rfl
theorem put_again {a : Dt69} {r} (hg : Good [tru, a]) (h : Put [tru, a] a r) : r = ([tru, a], 2, 0) :=
 h.one hg.nodup (.there 1 (by simp) rfl)
theorem ine_ok {x : NF} (q : Rat) (s : Bool) (hx : nrm x ≠ []) : Ok (ine x q s) := by
 have hn := (nrm_nf x).1
 refine .inr ⟨rfl, fun e => hx (pr_nil_iff.1 (fc_nil_iff.1 e)), ?_, ?_⟩
 ·show fc (pr (nrm x)) = fc (pr (nrm (fv (fc (pr (nrm x))))))
  rw [fv_fc, nrm_self (pr_nf hn), pr_pr hn]
 ·show rcan _ = rcan (rv (rcan _))
  rw [rv_rcan]
theorem good_two {x : NF} (q : Rat) (s : Bool) (hx : nrm x ≠ []) : Good [tru, ine x q s] :=
 ⟨by show 1 + 1 ≤ 262144; decide, rfl, fun a ha => by simp only [List.mem_singleton] at ha; rw [ha]; exact ine_ok q s hx, by simp⟩
theorem negneg2 : negI .i64 (negI .i64 2) = 2 := by decide
theorem again {x : NF} {q c : Rat} (hc : c ≠ 0) {s : Bool} {y z} (h : Bel [tru] x q s y) (g : Bel y.1 (scl c (nrm x)) (c * q) (if c < 0 then !s else s) z) :
  y.2.2 = 0 ∧ z.2.2 = 0 ∧ z.2.1 = (if c < 0 then negI .i64 y.2.1 else y.2.1) ∧ z.1 = y.1 := by
 have hn := (nrm_nf x).1
 have e : nrm (scl c (nrm x)) = scl c (nrm x) := nrm_self (hn.scl hc)
 have ex : nrm (scl c (nrm x)) = [] ↔ nrm x = [] := by
  rw [e]; exact ⟨fun h => Classical.byContradiction fun hx => scl_ne hx h, fun h => by rw [h]; rfl⟩
 cases h with
 | bad h => exact absurd Good.new h
 | const h hx =>
  cases g with
  | bad g => exact absurd h g
  | const g gx =>
   refine ⟨rfl, rfl, ?_, rfl⟩
   by_cases hc0 : c < 0
   ·simp only [if_pos hc0]; exact cst_neg hc0 s
   ·simp only [if_neg hc0]; exact cst_pos (by grind) s
  | up g gx | dn g gx => exact absurd (ex.2 hx) gx
 | up h hx hp hr =>
  have := put_new (ine_ne q s hx) hr
  subst this
  have hg := good_two q s hx
  have e3 := pc_scl hc hn hx
  rw [e] at ex
  cases g with
  | bad g => exact absurd hg g
  | const g gx => rw [e] at gx; exact absurd (ex.1 gx) hx
  | up g gx gp gr =>
   rw [ine_scl hc hx] at gr
   rw [e, e3] at gp
   have hc0 : ¬ c < 0 := fun h0 => by have := Rat.mul_pos (show 0 < -c by grind) hp; grind
   rw [if_neg hc0] at gr
   have := put_again hg gr
   subst this
   simp only [if_neg hc0]; exact ⟨trivial, trivial, trivial, trivial⟩
  | dn g gx gp gr =>
   rw [ine_scl hc hx] at gr
   rw [e, e3] at gp
   have hc0 : c < 0 := Classical.byContradiction fun h0 => gp (Rat.mul_pos (show 0 < c by grind) hp)
   rw [if_pos hc0, Bool.not_not] at gr
   have := put_again hg gr
   subst this
   simp only [if_pos hc0]; exact ⟨trivial, trivial, trivial, trivial⟩
 | dn h hx hp hr =>
  have := put_new (ine_ne q (!s) hx) hr
  subst this
  have hg := good_two q (!s) hx
  have e3 := pc_scl hc hn hx
  have hpn : pc (nrm x) < 0 := by have := pc_ne hn; grind
  rw [e] at ex
  cases g with
  | bad g => exact absurd hg g
  | const g gx => rw [e] at gx; exact absurd (ex.1 gx) hx
  | up g gx gp gr =>
   rw [ine_scl hc hx] at gr
   rw [e, e3] at gp
   have hc0 : c < 0 := Classical.byContradiction fun h0 => by have := Rat.mul_pos (show 0 < c by grind) (show 0 < -(pc (nrm x)) by grind); grind
   rw [if_pos hc0] at gr
   have := put_again hg gr
   subst this
   simp only [if_pos hc0]; exact ⟨trivial, trivial, negneg2.symm, trivial⟩
  | dn g gx gp gr =>
   rw [ine_scl hc hx] at gr
   rw [e, e3] at gp
   have hc0 : ¬ c < 0 := fun h0 => gp (by have := Rat.mul_pos (show 0 < -c by grind) (show 0 < -(pc (nrm x)) by grind); grind)
   rw [if_neg hc0] at gr
   have := put_again hg gr
   subst this
   simp only [if_neg hc0]; exact ⟨trivial, trivial, trivial, trivial⟩
theorem atomsOne_true (a : Dt49) (s : Bool) (r : Dt47) (wa : K.wf Kt49 a) (ws : K.wf .bool s) (wr : K.wf Kt47 r) (ba : K.bulk Kt49 a ≤ 1048576) (bs : K.bulk .bool s ≤ 1048576) (br : K.bulk Kt47 r ≤ 1048576) : w_AtomsOne.F (a, s, r, ()) = some (true, ()) := by
 obtain ⟨f, p⟩ := a
 obtain ⟨g1, g2, g3⟩ := bel_of wa ba
 have hb : K.bulk Kt40 f + K.bulk Kt47 p ≤ 1048576 := ba
 have wf1 : K.wf Kt40 f := wa.1
 have wp : K.wf Kt47 p := wa.2
 have ht : ∀ b ∈ ([tru] : Dt22), AtR b := fun b hb => by simp only [List.mem_singleton] at hb; rw [hb]; exact tru_at
 obtain ⟨y, h1, h2⟩ := Below_F (s := s) ht g1
 have hy := h2.at ht g1
 have hr := (rat_b wr).1
 have hp := (rat_b wp).1
 have hs : r03_Sign.F (r, ()) = some (sgn (rv r).num, ()) := hr.rSign_F (by omega)
 have hy0 : y.2.2 = 0 := by
  cases h2 with
  | bad h => exact absurd Good.new h
  | const h hx => rfl
  | up h hx hp hr => rw [put_new (ine_ne _ s hx) hr]
  | dn h hx hp hr => show _ = _; rw [put_new (ine_ne _ (!s) hx) hr]
 have e0 : (y.2.2 != 0) = false := bne_eq_false_iff_eq.2 hy0
 by_cases hc : rv r = 0
 ·exact w_AtomsOne.of 0 (f, p) s r (st New_F (st (mAffine_F g2 g3) (st h1 (no e0 (st lives_F (no rfl (st hs (yes (sgn_beq.2 hc) rfl))))))))
 have e1 : (sgn (rv r).num == 0) = false := Bool.eq_false_iff.2 fun e => hc (sgn_beq.1 e)
 obtain ⟨N, k1, k2, k3, k4, k5⟩ := form_ok wf1 (by omega)
 have hn := (nrm_nf (fv f)).1
 have hxl : 4 * (fv f).length ≤ 1048576 := by
  have h4 := (form_b (f := f) fun m hm => wf1 m hm).2
  have h5 : ((f : List Dt73).map (K.bulk Kt73)).sum + 1 = K.bulk Kt40 f := rfl
  have := k1.len
  omega
 have m1 := mul_small (a := (fv f).length) (b := K.bulk Kt47 r) hxl (by omega)
 have m2 := mul_small (a := (nrm (fv f)).length) (b := K.bulk Kt47 r) (by omega) (by omega)
 have q1 : r06_Scale.F (r, f, ()) = some (fc (nrm (scl (rv r) (fv f))), ()) := k1.rScale_F hr (by omega)
 rw [nrm_scl hc] at q1
 have q2 : r03_Mul.F (r, p, ()) = some (rcan (rv r * rv p), ()) := (hr.mono (show _ ≤ K.bulk Kt47 r + K.bulk Kt47 p by omega)).rMul_F (hp.mono (show _ ≤ K.bulk Kt47 r + K.bulk Kt47 p by omega)) (by omega)
 have ef : fv (fc (scl (rv r) (nrm (fv f)))) = scl (rv r) (nrm (fv f)) := fv_fc _
 have en : nrm (scl (rv r) (nrm (fv f))) = scl (rv r) (nrm (fv f)) := nrm_self (hn.scl hc)
 have hw := k1.wt.nrm.scl hr.ft
 have hB : BelA (fc (scl (rv r) (nrm (fv f)))) (rcan (rv r * rv p)) := by
  refine ⟨⟨N + (nrm (fv f)).length * K.bulk Kt47 r, N + (nrm (fv f)).length * K.bulk Kt47 r + 1, K.bulk Kt47 r + K.bulk Kt47 p, ?_, ?_, ?_, ?_, ?_⟩, ?_⟩
  ·rw [ef]; exact hw.rf
  ·rw [ef, en]; exact pcw hw (hn.scl hc)
  ·rw [rv_rcan]; exact (hr.ft.mul hp.ft).rt
  ·omega
  ·omega
  ·rw [ef, en]
   by_cases hx : nrm (fv f) = []
   ·rw [hx]; exact Fm.nil
   ·rw [pr_scl hc hn hx]; exact (form_fm wf1 (by omega)).2
 have key := fun s' => Below_F (s := s') hy hB
 rw [ef, rv_rcan] at key
 by_cases hc0 : rv r < 0
 ·obtain ⟨z, z1, z2⟩ := key (!s)
  have ha := again hc (z := z) h2 (by rw [if_pos hc0]; exact z2)
  simp only [if_pos hc0] at ha
  refine w_AtomsOne.of 0 (f, p) s r (st New_F (st (mAffine_F g2 g3) (st h1 (no e0 (st lives_F (no rfl (st hs (no e1 (st q1 (st q2 (yes ((lt_beq _).trans (decide_eq_true hc0)) (st z1 (yes (beq_iff_eq.2 ha.2.1) ?_)))))))))))))
  show some ((z.2.1 == negI .i64 y.2.1), ()) = _
  rw [ha.2.2.1, beq_self]
 ·obtain ⟨z, z1, z2⟩ := key s
  have ha := again hc (z := z) h2 (by rw [if_neg hc0]; exact z2)
  simp only [if_neg hc0] at ha
  have hsame : w_same.F (z.1, y.1, ()) = some (true, ()) := by rw [ha.2.2.2]; exact same_self (by have := h2.len' ; simp only [List.length_singleton] at this; omega) hy
  exact w_AtomsOne.of 0 (f, p) s r (st New_F (st (mAffine_F g2 g3) (st h1 (no e0 (st lives_F (no rfl (st hs (no e1 (st q1 (st q2 (no ((lt_beq _).trans (decide_eq_false hc0)) (st z1 (yes (beq_iff_eq.2 ha.2.1) (yes (beq_iff_eq.2 ha.2.2.1) (st hsame rfl)))))))))))))))
end Go.Fx.Tryz
