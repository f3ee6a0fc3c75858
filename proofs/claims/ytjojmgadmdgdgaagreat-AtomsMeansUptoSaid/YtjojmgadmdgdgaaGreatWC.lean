/- The laws of implications, and of one inequality and its multiples. -/
import Derived.Test.YtjojmgadmdgdgaaGreatWB
import Derived.Test.YtjojmgadmdgdgaaGreatW17m
namespace Go.Fx.Tryz
open Go Go.Fx Go.Fx.Num
set_option linter.unusedVariables false
set_option linter.unusedSimpArgs false
theorem neg64 {i : Int} (h : -9223372036854775808 < i) (h2 : i < 9223372036854775808) : negI .i64 i = -i := by
 unfold negI; rw [IntWalk.i64_in _ (by omega)]; omega
theorem neg64_min : negI .i64 (-9223372036854775808) = -9223372036854775808 := by decide
theorem lsub1 {i : Int} (h : -9223372036854775808 < i) (h2 : i < 9223372036854775808) : IntKind.i64.wrap (i - 1) = i - 1 := IntWalk.i64_in _ (by omega)
theorem lit_F (l : Dt22) (i : Int) (hl : l.length ≤ 1048576) (hi : -9223372036854775808 ≤ i ∧ i ≤ 9223372036854775807) :
  (∃ (n : Nat) (h : n < l.length), (i = (n : Int) + 1 ∨ i = -((n : Int) + 1)) ∧ atoms_literal.F (l, i, ()) = some (l[n], true, ()) ∧ r17_At.F (l, i, ()) = some (l[n], decide (i > 0), true, ())) ∨
   (atoms_literal.F (l, i, ()) = some (zt69, false, ()) ∧ r17_At.F (l, i, ()) = some (zt69, false, false, ())) := by
 by_cases h0 : i < 0
 ·by_cases hm : i = -9223372036854775808
  ·have em : negI .i64 i = -9223372036854775808 := by rw [hm]; exact neg64_min
   refine .inr ⟨atoms_literal.of 0 l _ (yes (decide_eq_true h0) (yes (decide_eq_true ?_) rfl)), r17_At.of 0 l _ (no (decide_eq_false (by omega)) (yes (decide_eq_true h0) (no (decide_eq_false ?_) rfl)))⟩
   ·rw [em]; omega
   ·rw [neg64 (by omega) (by omega)]; omega
  have en := neg64 (i := i) (by omega) (by omega)
  have el := neg64 (i := (l.length : Int)) (by omega) (by omega)
  by_cases h1 : -i ≤ l.length
  ·obtain ⟨n, hn⟩ : ∃ n : Nat, i = -((n : Int) + 1) := ⟨(-i - 1).toNat, by omega⟩
   have hnl : n < l.length := by omega
   have ew : IntKind.i64.wrap (negI .i64 i - 1) = (n : Int) := by rw [en, lsub1 (by omega) (by omega)]; omega
   have e1 := getD_at l zt69 hnl
   have c1 : decide (i < 0) = true := decide_eq_true h0
   have c3 : (decide (0 ≤ IntKind.i64.wrap (negI .i64 i - 1)) && decide (IntKind.i64.wrap (negI .i64 i - 1) < (l.length : Int))) = true := by rw [ew, decide_eq_true (by omega), decide_eq_true (by omega)]; rfl
   refine .inl ⟨n, hnl, .inr hn, atoms_literal.of 0 l _ (yes c1 (no (decide_eq_false ?_) (no (decide_eq_false ?_) (yes c3 ?_)))), r17_At.of 0 l _ (no (decide_eq_false (by omega)) (yes c1 (yes (decide_eq_true ?_) (yes c3 ?_))))⟩
   ·rw [en]; omega
   ·rw [en]; omega
   ·show some (List.getD l (Int.toNat (IntKind.i64.wrap (negI .i64 i - 1))) zt69, true, ()) = _
    rw [ew, e1]
   ·rw [el]; omega
   ·show some (List.getD l (Int.toNat (IntKind.i64.wrap (negI .i64 i - 1))) zt69, false, true, ()) = _
    rw [ew, e1, decide_eq_false (by omega)]
  ·refine .inr ⟨atoms_literal.of 0 l _ (yes (decide_eq_true h0) (no (decide_eq_false ?_) (yes (decide_eq_true ?_) rfl))), r17_At.of 0 l _ (no (decide_eq_false (by omega)) (yes (decide_eq_true h0) (no (decide_eq_false ?_) rfl)))⟩
   ·rw [en]; omega
   ·rw [en]; omega
   ·rw [el]; omega
 ·by_cases h1 : i < 1
  ·exact .inr ⟨atoms_literal.of 0 l _ (no (decide_eq_false h0) (yes (decide_eq_true h1) rfl)), r17_At.of 0 l _ (no (decide_eq_false (by omega)) (no (decide_eq_false h0) rfl))⟩
  ·by_cases h2 : i ≤ l.length
   ·obtain ⟨n, hn⟩ : ∃ n : Nat, i = (n : Int) + 1 := ⟨(i - 1).toNat, by omega⟩
    have hnl : n < l.length := by omega
    have ew : IntKind.i64.wrap (i - 1) = (n : Int) := by rw [lsub1 (by omega) (by omega)]; omega
    have e1 := getD_at l zt69 hnl
    have c3 : (decide (0 ≤ IntKind.i64.wrap (i - 1)) && decide (IntKind.i64.wrap (i - 1) < (l.length : Int))) = true := by rw [ew, decide_eq_true (by omega), decide_eq_true (by omega)]; rfl
    refine .inl ⟨n, hnl, .inl hn, atoms_literal.of 0 l _ (no (decide_eq_false h0) (no (decide_eq_false h1) (no (decide_eq_false (by omega)) (yes c3 ?_)))), r17_At.of 0 l _ (yes (decide_eq_true (by omega)) (yes (decide_eq_true h2) (yes c3 ?_)))⟩
    ·show some (List.getD l (Int.toNat (IntKind.i64.wrap (i - 1))) zt69, true, ()) = _
     rw [ew, e1]
    ·show some (List.getD l (Int.toNat (IntKind.i64.wrap (i - 1))) zt69, true, true, ()) = _
     rw [ew, e1, decide_eq_true (by omega)]
   ·exact .inr ⟨atoms_literal.of 0 l _ (no (decide_eq_false h0) (no (decide_eq_false h1) (yes (decide_eq_true (by omega)) rfl))), r17_At.of 0 l _ (yes (decide_eq_true (by omega)) (no (decide_eq_false h2) (no (decide_eq_false h0) rfl)))⟩
theorem cmp_lt (p q : Rat) : decide (rcmp p q < 0) = decide (p < q) := decide_eq_decide.2 rcmp_lt
theorem cmp_eq (p q : Rat) : (rcmp p q == 0) = decide (p = q) := by
 by_cases h : p = q
 ·rw [decide_eq_true h]; exact beq_iff_eq.2 (rcmp_eq.2 h)
 ·rw [decide_eq_false h]; exact beq_f fun e => h (rcmp_eq.1 e)
theorem ine_ok {x : NF} (q : Rat) (s : Bool) (hx : nrm x ≠ []) : Ok (ine x q s) := by
 have hn := (nrm_nf x).1
 refine .inr ⟨rfl, fun e => hx (pr_nil_iff.1 (fc_nil_iff.1 e)), ?_, ?_⟩
 ·show fc (pr (nrm x)) = fc (pr (nrm (fv (fc (pr (nrm x))))))
  rw [fv_fc, nrm_self (pr_nf hn), pr_pr hn]
 ·show rcan _ = rcan (rv (rcan _))
  rw [rv_rcan]
def vl (w : List Rat) (v : Int) : Rat := if 0 ≤ v ∧ v < w.length then w.getD v.toNat 0 else 0
def ev (w : List Rat) : NF → Rat
 | [] => 0
 | m :: x => m.2 * vl w m.1 + ev w x
theorem ev_append (w : List Rat) (a b : NF) : ev w (a ++ b) = ev w a + ev w b := by
 induction a with
 | nil => show ev w b = 0 + ev w b; rw [Rat.zero_add]
 | cons m a ih => show _ + ev w (a ++ b) = _ + ev w a + ev w b; rw [ih, Rat.add_assoc]
theorem ev_take_succ (w : List Rat) (x : NF) {i : Nat} (h : i < x.length) : ev w (x.take (i + 1)) = ev w (x.take i) + x[i].2 * vl w x[i].1 := by
 rw [take_succ' x h, ev_append]
 show _ + (_ + 0) = _
 rw [Rat.add_zero]
theorem ev_scl (w : List Rat) (c : Rat) (x : NF) : ev w (scl c x) = c * ev w x := by
 induction x with
 | nil => show (0 : Rat) = c * 0; rw [Rat.mul_zero]
 | cons m x ih => show c * m.2 * _ + ev w (scl c x) = c * (_ + ev w x); rw [ih, Rat.mul_add, Rat.mul_assoc]
theorem ev_mg (w : List Rat) : ∀ a b : NF, ev w (mg a b) = ev w a + ev w b := by
 intro a b
 induction a, b using mg.induct with
 | case1 b => rw [mg_nil_left]; show _ = 0 + _; rw [Rat.zero_add]
 | case2 a ha => rw [mg_nil_right]; show _ = _ + 0; rw [Rat.add_zero]
 | case3 m a l b h1 ih => rw [mg, if_pos h1]; show _ + ev w (mg a (l :: b)) = _ + ev w a + _; rw [ih, Rat.add_assoc]
 | case4 m a l b h1 h2 ih => rw [mg, if_neg h1, if_pos h2]; show _ + ev w (mg (m :: a) b) = _ + (_ + ev w b); rw [ih]; grind
 | case5 m a l b h1 h2 h3 ih =>
  rw [mg, if_neg h1, if_neg h2, if_pos h3]
  show _ = (_ + ev w a) + (_ + ev w b)
  rw [ih, show m.1 = l.1 by omega]; grind
 | case6 m a l b h1 h2 h3 ih =>
  rw [mg, if_neg h1, if_neg h2, if_neg h3]
  show (m.2 + l.2) * vl w m.1 + ev w (mg a b) = (_ + ev w a) + (_ + ev w b)
  rw [ih, show m.1 = l.1 by omega]; grind
theorem ev_nrm (w : List Rat) (l : NF) : ev w (nrm l) = ev w l := by
 have key : ∀ n, ∀ l : NF, l.length = n → ev w (nrm l) = ev w l := by
  intro n
  induction n using Nat.strongRecOn with
  | ind n ih =>
   intro l hl
   match l, hl with
   | [], _ => rw [nrm_nil]
   | [m], _ =>
    rw [nrm_one]
    by_cases h : m.2 = 0
    ·rw [if_pos h]
     show (0 : Rat) = m.2 * _ + 0
     rw [h, Rat.zero_mul, Rat.add_zero]
    ·rw [if_neg h]
   | x :: y :: z, hl =>
    have h2 : 2 ≤ (x :: y :: z).length := by simp
    rw [nrm_more h2, ev_mg, ih _ (by rw [List.length_take]; omega) ((x :: y :: z).take ((x :: y :: z).length / 2)) rfl, ih _ (by rw [List.length_drop]; omega) ((x :: y :: z).drop ((x :: y :: z).length / 2)) rfl, ← ev_append, List.take_append_drop]
 exact key _ l rfl
def Vs (u : Dt23) (V : Nat) : Prop := ∀ r ∈ u, Rt r (rv r) V
theorem vl_ft {u : Dt23} {V : Nat} (h : Vs u V) (hV : 1 ≤ V) (v : Int) : Ft (vl (u.map rv) v) V := by
 unfold vl
 split
 ·rename_i hv
  rw [List.length_map] at hv
  have hj : v.toNat < u.length := by omega
  rw [List.getD_eq_getElem?_getD, List.getElem?_map, List.getElem?_eq_getElem hj]
  exact (h _ (List.getElem_mem hj)).ft
 ·exact Ft.zero.mono hV
theorem ev_ft {u : Dt23} {V : Nat} (hu : Vs u V) (hV : 1 ≤ V) : ∀ {x : NF} {N : Nat}, Wt x N → Ft (ev (u.map rv) x) (N + x.length * (V + 1) + 1) := by
 intro x N h
 induction h with
 | nil => exact Ft.zero.mono (by omega)
 | cons h t hn ih =>
  refine ((h.mul (vl_ft hu hV _)).add ih).mono ?_
  simp only [List.length_cons]
  rw [Nat.succ_mul]; omega
theorem mul_le' {a b c : Nat} (h : a ≤ b) : a * c ≤ b * c := Nat.mul_le_mul_right c h
section
variable {f : Dt40} {x : NF} {N V : Nat} {u : Dt23}
theorem Value_F (h : Rf f x N) (hu : Vs u V) (hV : 1 ≤ V) (hN : N + V ≤ 1099511627776) (hB : N + x.length * (V + 1) + 1 ≤ 1099511627776) : linear_Value.F (f, u, ()) = some (rcan (ev (u.map rv) x), ()) := by
 have hlen := h.len
 have hw := h.wt.len
 have hft : ∀ i, Ft (ev (u.map rv) (x.take i)) (N + x.length * (V + 1) + 1) := fun i => (ev_ft hu hV (h.wt.take i)).mono (by
  have := mul_le' (c := V + 1) (show (x.take i).length ≤ x.length by rw [List.length_take]; omega)
  omega)
 have key : ∀ (d i : Nat) (r : Dt47), i + d = f.length → Rt r (ev (u.map rv) (x.take i)) (N + x.length * (V + 1) + 1) → ∃ j, ∀ k, linear_Value.L3 (k + j) u false r.1.1 r.1.2 r.2 f (f.length : Int) (i : Int) = some (rcan (ev (u.map rv) x), ()) := by
  intro d
  induction d with
  | zero =>
   intro i r hi hr
   obtain rfl : i = f.length := by omega
   rw [hlen, List.take_length] at hr
   exact ⟨1, fun k => (linear_Value.L3_succ _ _ _ _ _ _ _ _ _).trans (geb (Nat.lt_irrefl _) (st (hr.Norm_F (by omega)) rfl))⟩
  | succ d ih =>
   intro i r hid hr
   have hi : i < f.length := by omega
   have hx : i < x.length := by omega
   have e1 := getD_at f zt73 hi
   obtain ⟨a1, a2⟩ := h.at i hi hx
   have e2 := ev_take_succ (u.map rv) x hx
   have e3 : (List.getD f (Int.toNat (i : Int)) zt73).1 = x[i].1 := by rw [e1]; exact a1
   by_cases hv : 0 ≤ x[i].1 ∧ x[i].1 < u.length
   ·obtain ⟨j0, hj0⟩ : ∃ j0 : Nat, x[i].1 = (j0 : Int) := ⟨x[i].1.toNat, by omega⟩
    have hj : j0 < u.length := by omega
    have eu := getD_at u zt47 hj
    have hval : vl (u.map rv) x[i].1 = rv u[j0] := by
     unfold vl
     rw [if_pos (by rw [List.length_map]; exact hv), hj0, Int.toNat_natCast, List.getD_eq_getElem?_getD, List.getElem?_map, List.getElem?_eq_getElem hj]; rfl
    have g1 : ratio_Mul.F ((List.getD f (Int.toNat (i : Int)) zt73).2, List.getD u (Int.toNat (List.getD f (Int.toNat (i : Int)) zt73).1) zt47, ()) = some (rcan (x[i].2 * rv u[j0]), ()) := by
     rw [e3, hj0, eu, e1]
     exact (a2.mono (show N ≤ N + V by omega)).Mul_F ((hu _ (List.getElem_mem hj)).mono (show V ≤ N + V by omega)) (by omega)
    have hp := a2.ft.mul (hu _ (List.getElem_mem hj)).ft
    have g2 : ratio_Add.F (r, rcan (x[i].2 * rv u[j0]), ()) = some (rcan (ev (u.map rv) (x.take (i + 1))), ()) := by
     rw [e2, hval]
     exact (hr.mono (show _ ≤ N + V + (N + x.length * (V + 1) + 1) by omega)).Add_F (hp.rt.mono (by omega)) (by omega)
    obtain ⟨j, hj'⟩ := ih (i + 1) (rcan (ev (u.map rv) (x.take (i + 1)))) (by omega) (hft (i + 1)).rt
    refine ⟨j + 1, fun k => (linear_Value.L3_succ _ _ _ _ _ _ _ _ _).trans (ltb hi (inb hi (yes (decide_eq_true ?_) (yes (decide_eq_true ?_) (yes ?_ (st g1 (st g2 ?_)))))))⟩
    ·rw [e3]; exact hv.1
    ·rw [e3]; exact hv.2
    ·rw [e3, decide_eq_true hv.1, decide_eq_true hv.2]; rfl
    ·show linear_Value.L3 (k + j) u false (rcan (ev (u.map rv) (x.take (i + 1)))).1.1 (rcan (ev (u.map rv) (x.take (i + 1)))).1.2 (rcan (ev (u.map rv) (x.take (i + 1)))).2 f (f.length : Int) (IntKind.i64.wrap ((i : Int) + 1)) = _
     rw [up1 (by omega)]; exact hj' k
   ·have hval : vl (u.map rv) x[i].1 = 0 := by unfold vl; rw [if_neg (by rw [List.length_map]; exact hv)]
    rw [hval, Rat.mul_zero, Rat.add_zero] at e2
    obtain ⟨j, hj'⟩ := ih (i + 1) r (by omega) (by rw [e2]; exact hr)
    have stp : ∀ k, linear_Value.L3 (k + j) u false r.1.1 r.1.2 r.2 f (f.length : Int) (IntKind.i64.wrap ((i : Int) + 1)) = some (rcan (ev (u.map rv) x), ()) := fun k => by rw [up1 (by omega)]; exact hj' k
    refine ⟨j + 1, fun k => (linear_Value.L3_succ _ _ _ _ _ _ _ _ _).trans (ltb hi (inb hi ?_))⟩
    by_cases hv0 : 0 ≤ x[i].1
    ·exact yes (decide_eq_true (by rw [e3]; exact hv0)) (no (decide_eq_false (by rw [e3]; exact fun e => hv ⟨hv0, e⟩)) (stp k))
    ·exact no (decide_eq_false (by rw [e3]; exact hv0)) (stp k)
 have r0 : Rt zt47 (ev (u.map rv) (x.take 0)) (N + x.length * (V + 1) + 1) := by
  rw [List.take_zero]
  refine ⟨⟨fun c hc => by simp at hc, rfl, Nat.zero_le _⟩, ⟨fun c hc => by simp at hc, rfl, Nat.zero_le _⟩, ?_, by omega⟩
  show Rat.divInt _ (Num.val []) = 0
  rw [show Num.val [] = 0 from rfl, Rat.divInt_zero]
 obtain ⟨j, hj⟩ := key f.length 0 zt47 (by omega) r0
 exact linear_Value.of (0 + j) f u (hj 0)
theorem rValue_F (h : Rf f x N) (hu : Vs u V) (hV : 1 ≤ V) (hN : N + V ≤ 1099511627776) (hB : N + x.length * (V + 1) + 1 ≤ 1099511627776) : r06_Value.F (f, u, ()) = some (rcan (ev (u.map rv) x), ()) := by
 have hlen := h.len
 have hw := h.wt.len
 have hft : ∀ i, Ft (ev (u.map rv) (x.take i)) (N + x.length * (V + 1) + 1) := fun i => (ev_ft hu hV (h.wt.take i)).mono (by
  have := mul_le' (c := V + 1) (show (x.take i).length ≤ x.length by rw [List.length_take]; omega)
  omega)
 obtain ⟨j, hj⟩ := allR (L := fun k i => r06_Value.L3 k f u false (rcan (ev (u.map rv) (x.take i))).1.1 (rcan (ev (u.map rv) (x.take i))).1.2 (rcan (ev (u.map rv) (x.take i))).2 (i : Int)) (r := (rcan (ev (u.map rv) x), ())) (n := f.length)
  (fun k => (r06_Value.L3_succ _ _ _ _ _ _ _ _).trans (geb (Nat.lt_irrefl _) (by rw [hlen, List.take_length])))
  (fun i hi k => by
   have hx : i < x.length := by omega
   have e1 := getD_at f zt73 hi
   obtain ⟨a1, a2⟩ := h.at i hi hx
   have e2 := ev_take_succ (u.map rv) x hx
   have e3 : (List.getD f (Int.toNat (i : Int)) zt73).1 = x[i].1 := by rw [e1]; exact a1
   by_cases hv : 0 ≤ x[i].1 ∧ x[i].1 < u.length
   ·obtain ⟨j0, hj0⟩ : ∃ j0 : Nat, x[i].1 = (j0 : Int) := ⟨x[i].1.toNat, by omega⟩
    have hj : j0 < u.length := by omega
    have eu := getD_at u zt47 hj
    have hval : vl (u.map rv) x[i].1 = rv u[j0] := by
     unfold vl
     rw [if_pos (by rw [List.length_map]; exact hv), hj0, Int.toNat_natCast, List.getD_eq_getElem?_getD, List.getElem?_map, List.getElem?_eq_getElem hj]; rfl
    have g1 : r03_Mul.F ((List.getD f (Int.toNat (i : Int)) zt73).2, List.getD u (Int.toNat (List.getD f (Int.toNat (i : Int)) zt73).1) zt47, ()) = some (rcan (x[i].2 * rv u[j0]), ()) := by
     rw [e3, hj0, eu, e1]
     exact (a2.mono (show N ≤ N + V by omega)).rMul_F ((hu _ (List.getElem_mem hj)).mono (show V ≤ N + V by omega)) (by omega)
    have hp := a2.ft.mul (hu _ (List.getElem_mem hj)).ft
    have g2 : r03_Add.F (rcan (ev (u.map rv) (x.take i)), rcan (x[i].2 * rv u[j0]), ()) = some (rcan (ev (u.map rv) (x.take (i + 1))), ()) := by
     rw [e2, hval]
     exact ((hft i).rt.mono (show _ ≤ N + V + (N + x.length * (V + 1) + 1) by omega)).rAdd_F (hp.rt.mono (by omega)) (by omega)
    refine (r06_Value.L3_succ _ _ _ _ _ _ _ _).trans (ltb hi (inb hi (yes (decide_eq_true ?_) (inb hi (yes (decide_eq_true ?_) (inb hi (inb hi (yes ?_ (st g1 (st g2 ?_))))))))))
    ·rw [e3]; exact hv.1
    ·rw [e3]; exact hv.2
    ·rw [e3, decide_eq_true hv.1, decide_eq_true hv.2]; rfl
    ·show r06_Value.L3 k f u false (rcan (ev (u.map rv) (x.take (i + 1)))).1.1 (rcan (ev (u.map rv) (x.take (i + 1)))).1.2 (rcan (ev (u.map rv) (x.take (i + 1)))).2 (IntKind.i64.wrap ((i : Int) + 1)) = _
     rw [up1 (by omega)]
   ·have hval : vl (u.map rv) x[i].1 = 0 := by unfold vl; rw [if_neg (by rw [List.length_map]; exact hv)]
    rw [hval, Rat.mul_zero, Rat.add_zero] at e2
    have stp : r06_Value.L3 k f u false (rcan (ev (u.map rv) (x.take i))).1.1 (rcan (ev (u.map rv) (x.take i))).1.2 (rcan (ev (u.map rv) (x.take i))).2 (IntKind.i64.wrap ((i : Int) + 1)) = r06_Value.L3 k f u false (rcan (ev (u.map rv) (x.take (i + 1)))).1.1 (rcan (ev (u.map rv) (x.take (i + 1)))).1.2 (rcan (ev (u.map rv) (x.take (i + 1)))).2 ((i + 1 : Nat) : Int) := by rw [up1 (by omega), e2]
    refine (r06_Value.L3_succ _ _ _ _ _ _ _ _).trans (ltb hi (inb hi ?_))
    by_cases hv0 : 0 ≤ x[i].1
    ·exact yes (decide_eq_true (by rw [e3]; exact hv0)) (inb hi (no (decide_eq_false (by rw [e3]; exact fun e => hv ⟨hv0, e⟩)) stp))
    ·exact no (decide_eq_false (by rw [e3]; exact hv0)) stp)
 exact r06_Value.of (0 + j) f u (st zero_F (hj 0))
end
theorem mRats_F {u : Dt23} {V : Nat} (hu : Vs u V) (hV : V ≤ 1099511627776) (hn : u.length ≤ 1099511627776) : m_Rats.F (u, ()) = some (u, ()) := by
 obtain ⟨j, hj⟩ := allR (L := fun k i => m_Rats.L3 k u (u.take i) (i : Int)) (r := (u, ())) (n := u.length)
  (fun k => (m_Rats.L3_succ _ _ _ _).trans (geb (Nat.lt_irrefl _) (by rw [List.take_length])))
  (fun i hi k => by
   have e1 := getD_at u zt47 hi
   have hr := hu _ (List.getElem_mem hi)
   have g1 : m_Rat.F (List.getD u (Int.toNat (i : Int)) zt47, ()) = some (u[i], ()) := by rw [e1]; exact mRat_F (by have := hr.num.len; omega) (by have := hr.den.len; omega)
   refine (m_Rats.L3_succ _ _ _ _).trans (ltb hi (inb hi (st g1 (yes (decide_eq_true ?_) ?_))))
   ·show (u.take i).length + 1 < _; rw [List.length_take]; omega
   ·show m_Rats.L3 k u (u.take i ++ [u[i]]) (IntKind.i64.wrap ((i : Int) + 1)) = _
    rw [up1 (by omega), take_succ' u hi])
 exact m_Rats.of (0 + j) u (hj 0)
def isT (w : List Rat) (a : Dt69) : Bool := decide (ev w (fv a.2.1) < rv a.2.2.1) || (decide (ev w (fv a.2.1) = rv a.2.2.1) && !a.2.2.2)
def blw (w : List Rat) (x : NF) (q : Rat) (s : Bool) : Bool := decide (ev w x + q < 0) || (decide (ev w x + q = 0) && !s)
structure AtM (a : Dt69) : Prop where
 form : ∃ N, Rf a.2.1 (fv a.2.1) N ∧ 4 * (fv a.2.1).length ≤ 1048576 ∧ N ≤ 549755551744
 bound : ∃ m, Rt a.2.2.1 (rv a.2.2.1) m ∧ m ≤ 4194304
theorem lim {x N V : Nat} (h : 4 * x ≤ 1048576) (hN : N ≤ 549755813888) (hV : V ≤ 1048576) : N + x * (V + 1) + 1 ≤ 824634056705 := by
 have := mul_small (a := x) (b := V + 1) h (by omega)
 omega
theorem tri_rat (a b : Rat) : a < b ∨ a = b ∨ b < a := by
 by_cases h : a < b
 ·exact .inl h
 ·by_cases h2 : a = b
  ·exact .inr (.inl h2)
  ·exact .inr (.inr (by grind))
theorem bl_pos (e b : Rat) (s : Bool) : (decide (e + -b < 0) || (decide (e + -b = 0) && !s)) = (decide (e < b) || (decide (e = b) && !s)) := by
 rw [show decide (e + -b < 0) = decide (e < b) from decide_eq_decide.2 ⟨fun h => by grind, fun h => by grind⟩, show decide (e + -b = 0) = decide (e = b) from decide_eq_decide.2 ⟨fun h => by grind, fun h => by grind⟩]
theorem bl_neg (e b : Rat) (s : Bool) : (decide (-1 * e + b < 0) || (decide (-1 * e + b = 0) && !!s)) = !(decide (e < b) || (decide (e = b) && !s)) := by
 rcases tri_rat e b with h | h | h
 ·rw [decide_eq_true h, decide_eq_false (show ¬ -1 * e + b < 0 by grind), decide_eq_false (show ¬ -1 * e + b = 0 by grind)]; rfl
 ·rw [decide_eq_true h, decide_eq_false (show ¬ -1 * e + b < 0 by grind), decide_eq_true (show -1 * e + b = 0 by grind), decide_eq_false (show ¬ e < b by grind)]; cases s <;> rfl
 ·rw [decide_eq_false (show ¬ e = b by grind), decide_eq_true (show -1 * e + b < 0 by grind), decide_eq_false (show ¬ e < b by grind)]; rfl
theorem lit_at {l : Dt22} {k : Nat} {i : Int} (hk : k < l.length) (hl : l.length ≤ 1048576) (hi : i = (k : Int) + 1 ∨ i = -((k : Int) + 1)) : atoms_literal.F (l, i, ()) = some (l[k], true, ()) := by
 rcases lit_F l i hl (by omega) with ⟨n, hn, e, h1, _⟩ | ⟨_, h2⟩
 ·have : n = k := by omega
  subst this; exact h1
 ·exfalso
  rcases lit_F l i hl (by omega) with ⟨n, hn, e, h1, h3⟩ | ⟨h1, _⟩
  ·rw [h2] at h3; simp at h3
  ·-- the literal is there
   have e1 := getD_at l zt69 hk
   by_cases h0 : i < 0
   ·have en := neg64 (i := i) (by omega) (by omega)
    have ew : IntKind.i64.wrap (negI .i64 i - 1) = (k : Int) := by rw [en, lsub1 (by omega) (by omega)]; omega
    have c3 : (decide (0 ≤ IntKind.i64.wrap (negI .i64 i - 1)) && decide (IntKind.i64.wrap (negI .i64 i - 1) < (l.length : Int))) = true := by rw [ew, decide_eq_true (by omega), decide_eq_true (by omega)]; rfl
    have := atoms_literal.of 0 l i (y := (List.getD l (Int.toNat (IntKind.i64.wrap (negI .i64 i - 1))) zt69, true, ())) (yes (decide_eq_true h0) (no (decide_eq_false (by rw [en]; omega)) (no (decide_eq_false (by rw [en]; omega)) (yes c3 rfl))))
    rw [this] at h1; simp at h1
   ·have ew : IntKind.i64.wrap (i - 1) = (k : Int) := by rw [lsub1 (by omega) (by omega)]; omega
    have c3 : (decide (0 ≤ IntKind.i64.wrap (i - 1)) && decide (IntKind.i64.wrap (i - 1) < (l.length : Int))) = true := by rw [ew, decide_eq_true (by omega), decide_eq_true (by omega)]; rfl
    have := atoms_literal.of 0 l i (y := (List.getD l (Int.toNat (IntKind.i64.wrap (i - 1))) zt69, true, ())) (no (decide_eq_false h0) (no (decide_eq_false (by omega)) (no (decide_eq_false (by omega)) (yes c3 rfl))))
    rw [this] at h1; simp at h1
theorem Holds_F {l : Dt22} {u : Dt23} {V : Nat} (hl : ∀ b ∈ l, AtR b) (hg : Good l) (hu : Vs u V) (hV : 1 ≤ V) (hV2 : V ≤ 1048576) {k : Nat} {i : Int} (hk : k < l.length) (hi : i = (k : Int) + 1 ∨ i = -((k : Int) + 1)) (hnm : l[k].1 = ByteArray.empty) (hM : AtM l[k]) :
  atoms_Holds.F (l, i, u, [], ()) = some ((isT (u.map rv) l[k] == decide (i > 0)), 0, ()) := by
 obtain ⟨t, v, h1, h2, _⟩ := load_F hl
 obtain rfl : v = true := h2.2 hg
 have hlen := hg.len
 have h3 := lit_at hk (by omega) hi
 obtain ⟨⟨N, f1, f2, f3⟩, ⟨m, b1, b2⟩⟩ := hM
 have hB := lim f2 (show N ≤ 549755813888 by omega) hV2
 have g1 := Value_F f1 hu hV (by omega) (by omega)
 have fe := ev_ft hu hV f1.wt
 have g2 : ratio_Cmp.F (rcan (ev (u.map rv) (fv l[k].2.1)), l[k].2.2.1, ()) = some (rcmp (ev (u.map rv) (fv l[k].2.1)) (rv l[k].2.2.1), ()) := (fe.rt.mono (show _ ≤ 824634056705 by omega)).Cmp_F (b1.mono (show m ≤ 824634056705 by omega)) (by decide)
 refine atoms_Holds.of 0 l i u [] (st h1 (st h3 (no rfl (no rfl (yes (str_yes hnm) (st g1 (st g2 ?_)))))))
 unfold isT
 by_cases d1 : ev (u.map rv) (fv l[k].2.1) < rv l[k].2.2.1
 ·rw [decide_eq_true d1]
  exact yes ((cmp_lt _ _).trans (decide_eq_true d1)) rfl
 rw [decide_eq_false d1]
 refine no ((cmp_lt _ _).trans (decide_eq_false d1)) ?_
 by_cases d2 : ev (u.map rv) (fv l[k].2.1) = rv l[k].2.2.1
 ·rw [decide_eq_true d2]
  exact yes ((cmp_eq _ _).trans (decide_eq_true d2)) rfl
 ·rw [decide_eq_false d2]
  exact no ((cmp_eq _ _).trans (decide_eq_false d2)) rfl
theorem below_F {u : Dt23} {V : Nat} (hu : Vs u V) (hV : 1 ≤ V) (hV2 : V ≤ 1048576) {f : Dt40} {r : Dt47} {s : Bool} {N m : Nat} (hf : Rf f (fv f) N) (h2 : 4 * (fv f).length ≤ 1048576) (h3 : N ≤ 549755813888) (hr : Rt r (rv r) m) (hm : m ≤ 4194304) : w_below.F ((f, r), s, u, ()) = some (blw (u.map rv) (fv f) (rv r) s, ()) := by
 have hB := lim h2 h3 hV2
 have g1 := rValue_F hf hu hV (by omega) (by omega)
 have fe := ev_ft hu hV hf.wt
 have g2 : r03_Add.F (rcan (ev (u.map rv) (fv f)), r, ()) = some (rcan (ev (u.map rv) (fv f) + rv r), ()) := (fe.rt.mono (show _ ≤ 824634056705 by omega)).rAdd_F (hr.mono (show m ≤ 824634056705 by omega)) (by decide)
 have g3 : r03_Sign.F (rcan (ev (u.map rv) (fv f) + rv r), ()) = some (sgn (ev (u.map rv) (fv f) + rv r).num, ()) := (fe.add hr.ft).rt.rSign_F (by omega)
 refine w_below.of 0 (f, r) s u (st g1 (st g2 (st g3 ?_)))
 unfold blw
 by_cases d1 : ev (u.map rv) (fv f) + rv r < 0
 ·rw [decide_eq_true d1]
  exact yes ((lt_beq _).trans (decide_eq_true d1)) rfl
 rw [decide_eq_false d1]
 refine no ((lt_beq _).trans (decide_eq_false d1)) ?_
 by_cases d2 : ev (u.map rv) (fv f) + rv r = 0
 ·rw [decide_eq_true d2]
  exact yes ((eq_beq _).trans (decide_eq_true d2)) rfl
 ·rw [decide_eq_false d2]
  exact no ((eq_beq _).trans (decide_eq_false d2)) rfl
theorem Says_F {l : Dt22} {u : Dt23} {V : Nat} (hl : ∀ b ∈ l, AtR b) (hg : Good l) (hu : Vs u V) (hV : 1 ≤ V) (hV2 : V ≤ 1048576) {k : Nat} {i : Int} (hk : k < l.length) (hi : i = (k : Int) + 1 ∨ i = -((k : Int) + 1)) (hnm : l[k].1 = ByteArray.empty) (hM : AtM l[k]) :
  ∃ (f : Dt40) (r : Dt47) (s : Bool), atoms_Says.F (l, i, ()) = some ((f, r), s, 0, ()) ∧ w_below.F ((f, r), s, u, ()) = some ((isT (u.map rv) l[k] == decide (i > 0)), ()) := by
 obtain ⟨t, v, h1, h2, _⟩ := load_F hl
 obtain rfl : v = true := h2.2 hg
 have hlen := hg.len
 have h3 := lit_at hk (by omega) hi
 obtain ⟨⟨N, f1, f2, f3⟩, ⟨m, b1, b2⟩⟩ := hM
 have how := (ow_iff _).1 (hg.ow _ (List.getElem_mem hk))
 have en : nrm (fv l[k].2.1) = fv l[k].2.1 := by have := congrArg fv how.2; rwa [fv_fc] at this
 have g1 : linear_Norm.F (l[k].2.1, ()) = some (l[k].2.1, ()) := by have := f1.Norm_F (by omega); rwa [how.2] at this
 have g2 : ratio_Neg.F (l[k].2.2.1, ()) = some (rcan (-(rv l[k].2.2.1)), ()) := b1.Neg_F (by omega)
 have n1 : (!(l[k].1.toList == (⟨#[]⟩ : ByteArray).toList)) = false := by rw [show (l[k].1.toList == (⟨#[]⟩ : ByteArray).toList) = true from str_yes hnm]; rfl
 by_cases c : i > 0
 ·refine ⟨_, _, _, atoms_Says.of 0 l i (st h1 (st h3 (no rfl (no rfl (no n1 (st g1 (st g2 (yes (decide_eq_true c) rfl)))))))), ?_⟩
  have := below_F (r := rcan (-(rv l[k].2.2.1))) (s := l[k].2.2.2) hu hV hV2 f1 f2 (by omega) (by rw [rv_rcan]; exact b1.ft.neg.rt) b2
  refine this.trans ?_
  rw [rv_rcan, decide_eq_true c]
  show some ((decide _ || (decide _ && !l[k].2.2.2)), ()) = _
  rw [bl_pos]
  show some (isT (u.map rv) l[k], ()) = _
  cases isT (u.map rv) l[k] <;> rfl
 ·have g3 : linear_Scale.F (rcan ((-1 : Int) : Rat), l[k].2.1, ()) = some (fc (scl ((-1 : Int) : Rat) (nrm (fv l[k].2.1))), ()) := f1.Scale_F (n := 2) (Ft.int (z := -1) (by decide)).rt (by decide) (by omega)
  rw [en] at g3
  have g4 : ratio_Neg.F (rcan (-(rv l[k].2.2.1)), ()) = some (rcan (rv l[k].2.2.1), ()) := by have := b1.ft.neg.rt.Neg_F (by omega); rwa [Rat.neg_neg] at this
  refine ⟨_, _, _, atoms_Says.of 0 l i (st h1 (st h3 (no rfl (no rfl (no n1 (st g1 (st g2 (no (decide_eq_false c) (st (Whole_F (z := -1) (by decide)) (st g3 (st g4 rfl))))))))))), ?_⟩
  have hw := f1.wt.scl (c := ((-1 : Int) : Rat)) (n := 1) ⟨by decide, by decide, by decide, by decide⟩
  have hlenw := f1.wt.len
  have := below_F (f := fc (scl ((-1 : Int) : Rat) (fv l[k].2.1))) (r := rcan (rv l[k].2.2.1)) (s := !l[k].2.2.2) hu hV hV2 (by rw [fv_fc]; exact hw.rf) (by rw [fv_fc, scl_len]; exact f2) (by omega) (by rw [rv_rcan]; exact b1.ft.rt) b2
  refine this.trans ?_
  rw [rv_rcan, fv_fc, decide_eq_false c]
  unfold blw
  rw [ev_scl, show ((-1 : Int) : Rat) = -1 from rfl, bl_neg]
  show some (!isT (u.map rv) l[k], ()) = _
  cases isT (u.map rv) l[k] <;> rfl
theorem ev_pr {w : List Rat} (x : NF) : ev w (pr (nrm x)) = (pc (nrm x))⁻¹ * ev w x := by unfold pr; rw [ev_scl, ev_nrm]
theorem lt_mul {a b c : Rat} (hc : 0 < c) (h : a < b) : c * a < c * b := by
 have := Rat.mul_pos hc (show 0 < b - a by grind)
 grind
theorem is_ine_up {w : List Rat} {x : NF} (q : Rat) (s : Bool) (hp : 0 < pc (nrm x)) : isT w (ine x q s) = blw w x q s := by
 have e1 : ev w (fv (ine x q s).2.1) = (pc (nrm x))⁻¹ * ev w x := by show ev w (fv (fc _)) = _; rw [fv_fc, ev_pr]
 have e2 : rv (ine x q s).2.2.1 = q / -(pc (nrm x)) := by show rv (rcan _) = _; rw [rv_rcan]
 have hi := Rat.mul_inv_cancel (pc (nrm x)) (by grind)
 have hi2 := Rat.mul_inv_cancel (-(pc (nrm x))) (by grind)
 have hip : 0 < (pc (nrm x))⁻¹ := Rat.inv_pos.2 hp
 have e3 : q / -(pc (nrm x)) = (pc (nrm x))⁻¹ * (-q) := by
  rw [Rat.div_def]
  generalize (-(pc (nrm x)))⁻¹ = j at *
  generalize (pc (nrm x))⁻¹ = k at *
  grind
 unfold isT blw
 rw [e1, e2, e3]
 show (_ || (_ && !s)) = _
 generalize (pc (nrm x))⁻¹ = k at *
 generalize ev w x = e at *
 rcases tri_rat e (-q) with h | h | h
 ·rw [decide_eq_true (lt_mul hip h), decide_eq_true (show e + q < 0 by grind)]; rfl
 ·rw [h, decide_eq_false (show ¬ k * -q < k * -q by grind), decide_eq_false (show ¬ -q + q < 0 by grind), decide_eq_true rfl, decide_eq_true (show -q + q = 0 by grind)]
 ·have h2 := lt_mul hip h
  rw [decide_eq_false (show ¬ k * e < k * -q by grind), decide_eq_false (show ¬ e + q < 0 by grind), decide_eq_false (show ¬ k * e = k * -q by grind), decide_eq_false (show ¬ e + q = 0 by grind)]
theorem is_ine_dn {w : List Rat} {x : NF} (q : Rat) (s : Bool) (hp : pc (nrm x) < 0) : isT w (ine x q (!s)) = !blw w x q s := by
 have e1 : ev w (fv (ine x q (!s)).2.1) = (pc (nrm x))⁻¹ * ev w x := by show ev w (fv (fc _)) = _; rw [fv_fc, ev_pr]
 have e2 : rv (ine x q (!s)).2.2.1 = q / -(pc (nrm x)) := by show rv (rcan _) = _; rw [rv_rcan]
 have hi := Rat.mul_inv_cancel (pc (nrm x)) (by grind)
 have hi2 := Rat.mul_inv_cancel (-(pc (nrm x))) (by grind)
 have hip : 0 < (-(pc (nrm x)))⁻¹ := Rat.inv_pos.2 (by grind)
 have e3 : q / -(pc (nrm x)) = (-(pc (nrm x)))⁻¹ * q := by rw [Rat.div_def, Rat.mul_comm]
 have e4 : (pc (nrm x))⁻¹ * ev w x = (-(pc (nrm x)))⁻¹ * -(ev w x) := by
  generalize (-(pc (nrm x)))⁻¹ = j at *
  generalize (pc (nrm x))⁻¹ = k at *
  grind
 unfold isT blw
 rw [e1, e2, e3, e4]
 show (_ || (_ && !!s)) = _
 generalize (-(pc (nrm x)))⁻¹ = k at *
 generalize ev w x = e at *
 rcases tri_rat e (-q) with h | h | h
 ·have h2 := lt_mul hip (show q < -e by grind)
  rw [decide_eq_false (show ¬ k * -e < k * q by grind), decide_eq_true (show e + q < 0 by grind), decide_eq_false (show ¬ k * -e = k * q by grind)]; rfl
 ·rw [h, decide_eq_false (show ¬ k * - -q < k * q by grind), decide_eq_false (show ¬ -q + q < 0 by grind), decide_eq_true (show k * - -q = k * q by grind), decide_eq_true (show -q + q = 0 by grind)]; cases s <;> rfl
 ·have h2 := lt_mul hip (show -e < q by grind)
  rw [decide_eq_true h2, decide_eq_false (show ¬ e + q < 0 by grind), decide_eq_false (show ¬ e + q = 0 by grind)]; rfl
theorem Put.where' {l a r} (h : Put l a r) (he : r.2.2 = 0) : ∃ (k : Nat) (hk : k < r.1.length), r.1[k] = a ∧ r.2.1 = (k : Int) + 1 := by
 cases h with
 | there i h e => exact ⟨i, h, e, rfl⟩
 | full h e => cases he
 | new h e => exact ⟨l.length, by simp, by simp, rfl⟩
theorem Put.good {l a r} (h : Put l a r) (hg : Good l) (ha : Ok a) (he : r.2.2 = 0) : Good r.1 ∧ l = r.1.take l.length := by
 cases h with
 | there i h e => exact ⟨hg, (List.take_length).symm⟩
 | full h e => cases he
 | new h e =>
  refine ⟨?_, by simp⟩
  match l, hg, h, e with
  | b :: q, hg, h, e =>
   have h1 := hg.1
   simp only [List.length_cons] at e
   refine ⟨by show (q ++ [a]).length + 1 ≤ 262144; rw [List.length_append, List.length_singleton]; omega, hg.2.1, fun c hc => ?_, ?_⟩
   ·rcases List.mem_append.1 hc with hc | hc
    ·exact hg.2.2.1 c hc
    ·simp only [List.mem_singleton] at hc; rw [hc]; exact ha
   ·refine List.nodup_append.2 ⟨hg.2.2.2, by simp, fun c hc d hd => ?_⟩
    simp only [List.mem_singleton] at hd
    rw [hd]; rintro rfl; exact h (List.mem_cons_of_mem _ hc)
def Lit' (l : Dt22) (i : Int) (x : NF) (q : Rat) (s : Bool) : Prop := ∃ (k : Nat) (h : k < l.length), l[k].1 = ByteArray.empty ∧ ((i = (k : Int) + 1 ∧ ∀ w, isT w l[k] = blw w x q s) ∨ (i = -((k : Int) + 1) ∧ ∀ w, isT w l[k] = !blw w x q s))
theorem is_tru (w : List Rat) : isT w tru = true := by
 unfold isT
 show (decide (ev w (fv []) < rv (rcan 0)) || (decide (ev w (fv []) = rv (rcan 0)) && !false)) = true
 rw [rv_rcan]
 show (decide ((0 : Rat) < 0) || (decide ((0 : Rat) = 0) && !false)) = true
 rw [decide_eq_true (show (0 : Rat) = 0 from rfl)]; exact Bool.or_true _
theorem Bel.means {l x q s y} (hl : l.length ≤ 262144) (h : Bel l x q s y) (he : y.2.2 = 0) : Good y.1 ∧ l = y.1.take l.length ∧ l.length ≤ y.1.length ∧ Lit' y.1 y.2.1 x q s := by
 have len : ∀ {r : Dt22}, l = r.take l.length → l.length ≤ r.length := fun h => by have := congrArg List.length h; rw [List.length_take] at this; omega
 cases h with
 | bad h => cases he
 | const h hx =>
  refine ⟨h, List.take_length.symm, Nat.le_refl _, ?_⟩
  match l, h with
  | a :: r, h =>
   have ha : a = tru := h.2.1
   refine ⟨0, by simp, by simp only [List.getElem_cons_zero]; rw [ha]; rfl, ?_⟩
   simp only [List.getElem_cons_zero, ha]
   have hev : ∀ w, ev w x = 0 := fun w => by rw [← ev_nrm, hx]; rfl
   have hb : ∀ w, blw w x q s = decide (cst q s = 1) := fun w => by
    unfold blw cst
    rw [hev, Rat.zero_add]
    by_cases h1 : q < 0
    ·rw [if_pos h1, decide_eq_true h1]; rfl
    ·rw [if_neg h1, decide_eq_false h1]
     by_cases h2 : q = 0
     ·rw [if_pos h2, decide_eq_true h2]; cases s <;> rfl
     ·rw [if_neg h2, decide_eq_false h2]; rfl
   have hc : cst q s = 1 ∨ cst q s = -1 := by unfold cst; split; exact .inl rfl; split; split; exact .inr rfl; exact .inl rfl; exact .inr rfl
   rcases hc with hc | hc
   ·refine .inl ⟨hc, fun w => ?_⟩
    rw [is_tru, hb, hc]; rfl
   ·refine .inr ⟨hc, fun w => ?_⟩
    rw [is_tru, hb, hc]; rfl
 | up h hx hp hr =>
  obtain ⟨g1, g2⟩ := hr.good h (ine_ok q s hx) he
  obtain ⟨k, hk, e1, e2⟩ := hr.where' he
  exact ⟨g1, g2, len g2, k, hk, by rw [e1]; rfl, .inl ⟨e2, fun w => by rw [e1]; exact is_ine_up q s hp⟩⟩
 | dn h hx hp hr =>
  obtain ⟨g1, g2⟩ := hr.good h (ine_ok q (!s) hx) he
  obtain ⟨k, hk, e1, e2⟩ := hr.where' he
  have hpn : pc (nrm x) < 0 := by have := pc_ne (nrm_nf x).1; grind
  have hk2 := hr.len
  refine ⟨g1, g2, len g2, k, hk, by rw [e1]; rfl, .inr ⟨?_, fun w => by rw [e1]; exact is_ine_dn q s hpn⟩⟩
  show negI .i64 _ = _
  rw [e2, neg64 (by omega) (by omega)]
theorem Lit'.grow {l l' : Dt22} {i x q s} (h : Lit' l i x q s) (hp : l = l'.take l.length) (hle : l.length ≤ l'.length) : Lit' l' i x q s := by
 obtain ⟨k, hk, h1, h2⟩ := h
 have e : l'[k]'(by omega) = l[k] := by
  have : (l'.take l.length)[k]? = l[k]? := by rw [← hp]
  rw [List.getElem?_take_of_lt hk, List.getElem?_eq_getElem (by omega), List.getElem?_eq_getElem hk] at this
  exact Option.some.inj this
 exact ⟨k, by omega, by rw [e]; exact h1, by rw [e]; exact h2⟩
theorem tru_m : AtM tru := ⟨⟨0, .nil, by decide, by decide⟩, ⟨1, by show Rt (rcan 0) (rv (rcan 0)) 1; rw [rv_rcan]; exact Ft.zero.rt, by decide⟩⟩
structure OpM (o : Dt52) : Prop where
 bel : BelA o.1.1 o.1.2
 form : ∃ N, Rf o.1.1 (fv o.1.1) N ∧ 4 * (fv o.1.1).length ≤ 1048576 ∧ N ≤ 1048576
 num : ∃ m, Rt o.1.2 (rv o.1.2) m ∧ m ≤ 1048576
 copy : m_Affine.F (o.1, ()) = some (o.1, ())
 ine : ∀ s, AtM (ine (fv o.1.1) (rv o.1.2) s)
theorem opM {o : Dt52} (w : K.wf Kt52 o) (b : K.bulk Kt52 o ≤ 1048576) : OpM o := by
 have e : K.bulk Kt52 o = K.bulk Kt49 o.1 + (1 + (o.2.2.size + 1)) := rfl
 have e2 : K.bulk Kt49 o.1 = K.bulk Kt40 o.1.1 + K.bulk Kt47 o.1.2 := rfl
 have w1 : K.wf Kt40 o.1.1 := w.1.1
 have w2 : K.wf Kt47 o.1.2 := w.1.2
 obtain ⟨g1, g2, g3⟩ := bel_of (f := o.1.1) (r := o.1.2) w.1 (show K.bulk Kt49 o.1 ≤ 1048576 by omega)
 obtain ⟨N, k1, k2, k3, k4, k5⟩ := form_ok w1 (by omega)
 have hf := form_b (f := o.1.1) fun m hm => w1 m hm
 have e3 : ((o.1.1 : List Dt73).map (K.bulk Kt73)).sum + 1 = K.bulk Kt40 o.1.1 := rfl
 have hl := k1.len
 have hr := (rat_b w2).1
 have hn := (nrm_nf (fv o.1.1)).1
 have m1 := mul_small (a := (nrm (fv o.1.1)).length) (b := N + 1) (by omega) (by omega)
 refine ⟨g1, ⟨N, k1, by omega, k4⟩, ⟨_, hr, by omega⟩, mAffine_F g2 g3, fun s => ⟨⟨N + (nrm (fv o.1.1)).length * (N + 1), ?_, ?_, by omega⟩, ⟨K.bulk Kt47 o.1.2 + (N + 1), ?_, by omega⟩⟩⟩
 ·show Rf (fc (pr (nrm (fv o.1.1)))) (fv (fc (pr (nrm (fv o.1.1))))) _
  rw [fv_fc]; exact (k1.wt.nrm.scl (inv_ft k2 (pc_ne hn))).rf
 ·show 4 * (fv (fc (pr (nrm (fv o.1.1))))).length ≤ _
  rw [fv_fc, pr_len]; omega
 ·show Rt (rcan _) (rv (rcan _)) _
  rw [rv_rcan]; exact (div_ft hr.ft k2.neg (neg_ne (pc_ne hn))).rt
theorem Put.allM {l a r} (hl : ∀ b ∈ l, AtM b) (ha : AtM a) (h : Put l a r) : ∀ b ∈ r.1, AtM b := by
 cases h with
 | there i h e => exact hl
 | full h e => intro b hb; simp at hb
 | new h e =>
  intro b hb
  rcases List.mem_append.1 hb with hb | hb
  ·exact hl b hb
  ·simp only [List.mem_singleton] at hb; rw [hb]; exact ha
theorem Bel.allM {l x q s y} (hl : ∀ b ∈ l, AtM b) (ha : ∀ s, AtM (ine x q s)) (h : Bel l x q s y) : ∀ b ∈ y.1, AtM b := by
 cases h with
 | bad h => intro b hb; simp at hb
 | const h hx => exact hl
 | up h hx hp hr => exact hr.allM hl (ha _)
 | dn h hx hp hr => have := hr.allM hl (ha _); exact this
theorem Bel.err {l x q s y} (hg : Good l) (h : Bel l x q s y) (he : y.2.2 ≠ 0) : y.2.2 = 2 ∧ l.length = 262144 := by
 have put : ∀ {a r}, Put l a r → r.2.2 ≠ 0 → r.2.2 = 2 ∧ l.length = 262144 := by
  intro a r h he
  cases h with
  | there i h e => exact absurd rfl he
  | full h e => exact ⟨rfl, e⟩
  | new h e => exact absurd rfl he
 cases h with
 | bad h => exact absurd hg h
 | const h hx => exact absurd rfl he
 | up h hx hp hr => exact put hr he
 | dn h hx hp hr => have := put hr he; exact this
theorem means_check {os : Dt35} {u : Dt23} {V : Nat} (ho : ∀ o ∈ os, OpM o) (hn : os.length ≤ 1048576) (hu : Vs u V) (hV : 1 ≤ V) (hV2 : V ≤ 1048576) (hun : u.length ≤ 1048576) {l : Dt22} {lits : List Int} (hl : ∀ b ∈ l, AtR b) (hM : ∀ b ∈ l, AtM b) (hg : Good l) (hll : lits.length = os.length)
  (hlit : ∀ (j : Nat) (h : j < os.length) (h2 : j < lits.length), Lit' l lits[j] (fv os[j].1.1) (rv os[j].1.2) os[j].2.1) : ∃ j, ∀ k, w_AtomsMeans.L12 (k + j) os u l lits 0 = some (true, ()) := by
 have hgl := hg.len
 have htw := twin_F hl (by omega)
 have hcu := mRats_F hu (by omega) (by omega)
 refine allR (L := fun k i => w_AtomsMeans.L12 k os u l lits (i : Int)) (n := os.length)
  (fun k => (w_AtomsMeans.L12_succ _ _ _ _ _ _).trans (geb (Nat.lt_irrefl _) (st lives_F rfl)))
  (fun i hi k => ?_)
 have hi2 : i < lits.length := by omega
 have e1 := getD_at os zt52 hi
 have e2 := getD_at lits (0 : Int) hi2
 have hom := ho _ (List.getElem_mem hi)
 obtain ⟨N, f1, f2, f3⟩ := hom.form
 obtain ⟨m, r1, r2⟩ := hom.num
 have g1 : w_below.F ((List.getD os (Int.toNat (i : Int)) zt52).1, (List.getD os (Int.toNat (i : Int)) zt52).2.1, u, ()) = some (blw (u.map rv) (fv os[i].1.1) (rv os[i].1.2) os[i].2.1, ()) := by
  rw [e1]; exact below_F hu hV hV2 f1 f2 (by omega) r1 (by omega)
 obtain ⟨n, hnl, hnm, hmean⟩ := hlit i hi hi2
 have hMn := hM _ (List.getElem_mem hnl)
 have hran : -9223372036854775808 < lits[i] ∧ lits[i] < 9223372036854775808 := by rcases hmean with h | h <;> omega
 have eneg : negI .i64 (List.getD lits (Int.toNat (i : Int)) 0) = -lits[i] := by rw [e2]; exact neg64 hran.1 hran.2
 have hpos : lits[i] = (n : Int) + 1 ∨ lits[i] = -((n : Int) + 1) := by rcases hmean with h | h; exact .inl h.1; exact .inr h.1
 have w1 : (isT (u.map rv) l[n] == decide (lits[i] > 0)) = blw (u.map rv) (fv os[i].1.1) (rv os[i].1.2) os[i].2.1 := by
  rcases hmean with ⟨h, h'⟩ | ⟨h, h'⟩
  ·rw [h', decide_eq_true (by omega)]; cases blw (u.map rv) (fv os[i].1.1) (rv os[i].1.2) os[i].2.1 <;> rfl
  ·rw [h', decide_eq_false (by omega)]; cases blw (u.map rv) (fv os[i].1.1) (rv os[i].1.2) os[i].2.1 <;> rfl
 have w2 : (isT (u.map rv) l[n] == decide (-lits[i] > 0)) = !blw (u.map rv) (fv os[i].1.1) (rv os[i].1.2) os[i].2.1 := by
  rcases hmean with ⟨h, h'⟩ | ⟨h, h'⟩
  ·rw [h', decide_eq_false (by omega)]; cases blw (u.map rv) (fv os[i].1.1) (rv os[i].1.2) os[i].2.1 <;> rfl
  ·rw [h', decide_eq_true (by omega)]; cases blw (u.map rv) (fv os[i].1.1) (rv os[i].1.2) os[i].2.1 <;> rfl
 have g2 : atoms_Holds.F (l, List.getD lits (Int.toNat (i : Int)) 0, u, zt24, ()) = some (blw (u.map rv) (fv os[i].1.1) (rv os[i].1.2) os[i].2.1, 0, ()) := by
  rw [e2]; have := Holds_F hl hg hu hV hV2 hnl hpos hnm hMn; rw [w1] at this; exact this
 have g3 : atoms_Holds.F (l, negI .i64 (List.getD lits (Int.toNat (i : Int)) 0), u, zt24, ()) = some (!blw (u.map rv) (fv os[i].1.1) (rv os[i].1.2) os[i].2.1, 0, ()) := by
  rw [eneg]; have := Holds_F (i := -lits[i]) hl hg hu hV hV2 hnl (by omega) hnm hMn; rw [w2] at this; exact this
 obtain ⟨f, r, s, s1, s2⟩ := Says_F hl hg hu hV hV2 hnl hpos hnm hMn
 rw [w1] at s2
 have s1' : atoms_Says.F (l, List.getD lits (Int.toNat (i : Int)) 0, ()) = some ((f, r), s, 0, ()) := by rw [e2]; exact s1
 generalize blw (u.map rv) (fv os[i].1.1) (rv os[i].1.2) os[i].2.1 = b at *
 refine (w_AtomsMeans.L12_succ _ _ _ _ _ _).trans (ltb hi (inb hi (inb hi (st g1 (st htw (inb hi2 (st hcu (st g2 (st htw (inb hi2 (st hcu (st g3 (no rfl (no rfl (no ?_ (no ?_ (st htw (inb hi2 (st s1' (no rfl (st s2 (no ?_ ?_))))))))))))))))))))))
 ·cases b <;> rfl
 ·cases b <;> rfl
 ·cases b <;> rfl
 ·show w_AtomsMeans.L12 k os u l lits (IntKind.i64.wrap ((i : Int) + 1)) = _
  rw [up1 (by omega)]
theorem means_build {os : Dt35} {u : Dt23} {V : Nat} (ho : ∀ o ∈ os, OpM o) (hn : os.length ≤ 1048576) (hu : Vs u V) (hV : 1 ≤ V) (hV2 : V ≤ 1048576) (hun : u.length ≤ 1048576) : ∀ (d i : Nat) (l : Dt22) (lits : List Int), i + d = os.length → (∀ b ∈ l, AtR b) → (∀ b ∈ l, AtM b) → Good l → lits.length = i →
  (∀ (j : Nat) (h : j < os.length) (h2 : j < lits.length), Lit' l lits[j] (fv os[j].1.1) (rv os[j].1.2) os[j].2.1) → ∃ j, ∀ k, w_AtomsMeans.L4 (k + j) os u l lits (i : Int) = some (true, ()) := by
 intro d
 induction d with
 | zero =>
  intro i l lits hi hl hM hg hll hlit
  obtain rfl : i = os.length := by omega
  obtain ⟨j, hj⟩ := means_check ho hn hu hV hV2 hun hl hM hg hll hlit
  exact ⟨j + 1, fun k => (w_AtomsMeans.L4_succ _ _ _ _ _ _).trans (geb (Nat.lt_irrefl _) (hj k))⟩
 | succ d ih =>
  intro i l lits hid hl hM hg hll hlit
  have hi : i < os.length := by omega
  have hgl := hg.len
  have e1 := getD_at os zt52 hi
  have hom := ho _ (List.getElem_mem hi)
  obtain ⟨y, h1, h2⟩ := Below_F (s := os[i].2.1) hl hom.bel
  have g1 : m_Affine.F ((List.getD os (Int.toNat (i : Int)) zt52).1, ()) = some (os[i].1, ()) := by rw [e1]; exact hom.copy
  have g2 : atoms_Below.F (l, os[i].1, (List.getD os (Int.toNat (i : Int)) zt52).2.1, ()) = some (y.1, y.2.1, y.2.2, ()) := by rw [e1]; exact h1
  by_cases he : y.2.2 = 0
  case neg =>
   obtain ⟨c1, c2⟩ := h2.err hg he
   exact ⟨1, fun k => (w_AtomsMeans.L4_succ _ _ _ _ _ _).trans (ltb hi (inb hi (st g1 (inb hi (st g2 (yes (bne_iff_ne.2 he) (yes (beq_iff_eq.2 c1) (by
    show some (((l.length : Int) == 262144), ()) = _
    rw [c2]; rfl))))))))⟩
  obtain ⟨m1, m2, m3, m4⟩ := h2.means hgl he
  have hyl := m1.len
  have hne : y.2.1 ≠ 0 := by obtain ⟨n, _, _, h | h⟩ := m4 <;> omega
  obtain ⟨j, hj⟩ := ih (i + 1) y.1 (lits ++ [y.2.1]) (by omega) (h2.at hl hom.bel) (h2.allM hM hom.ine) m1 (by simp [hll]) (fun j h h2' => by
   by_cases hji : j < lits.length
   ·rw [List.getElem_append_left hji]
    exact (hlit j h hji).grow m2 m3
   ·have : j = i := by simp only [List.length_append, List.length_singleton] at h2'; omega
    subst this
    rw [List.getElem_append_right (by omega)]
    simp only [hll, Nat.sub_self, List.getElem_cons_zero]
    exact m4)
  have htk : List.take (Int.toNat (l.length : Int)) y.1 = l := by rw [Int.toNat_natCast]; exact m2.symm
  have hsame : w_same.F (List.take (Int.toNat (l.length : Int)) y.1, l, ()) = some (true, ()) := by rw [htk]; exact same_self (by omega) hl
  refine ⟨j + 1, fun k => (w_AtomsMeans.L4_succ _ _ _ _ _ _).trans (ltb hi (inb hi (st g1 (inb hi (st g2 (no (bne_eq_false_iff_eq.2 he) (no (beq_f hne) (no (decide_eq_false ?_) (yes ?_ (st hsame (no rfl (yes (decide_eq_true ?_) ?_))))))))))))⟩
  ·show ¬ ((y.1.length : Int) < (l.length : Int)); omega
  ·rw [decide_eq_true (by omega), decide_eq_true (by show (l.length : Int) ≤ (y.1.length : Int); omega)]; rfl
  ·show lits.length + 1 < _; omega
  ·show w_AtomsMeans.L4 (k + j) os u y.1 (lits ++ [y.2.1]) (IntKind.i64.wrap ((i : Int) + 1)) = _
   rw [up1 (by omega)]; exact hj k
theorem atomsMeans_true (l : Dt35) (u : Dt23) (wl : K.wf Kt35 l) (wu : K.wf Kt23 u) (bl : K.bulk Kt35 l ≤ 1048576) (bu : K.bulk Kt23 u ≤ 1048576) : w_AtomsMeans.F (l, u, ()) = some (true, ()) := by
 have hb : ((l : List Dt52).map (K.bulk Kt52)).sum + 1 ≤ 1048576 := bl
 have hbu : ((u : List Dt47).map (K.bulk Kt47)).sum + 1 ≤ 1048576 := bu
 have ho : ∀ o ∈ l, OpM o := fun o ho => by
  have h1 := sum_mem (f := K.bulk Kt52) ho
  exact opM (wl o ho) (by omega)
 have hlen : List.length (α := Dt52) l ≤ ((l : List Dt52).map (K.bulk Kt52)).sum := sum_len (f := K.bulk Kt52) (fun o => by
  have e : K.bulk Kt52 o = K.bulk Kt49 o.1 + (1 + (o.2.2.size + 1)) := rfl
  omega) l
 have hulen : List.length (α := Dt47) u ≤ ((u : List Dt47).map (K.bulk Kt47)).sum := sum_len (f := K.bulk Kt47) (fun r => by
  have e : K.bulk Kt47 r = (1 + K.bulk Kt43 r.1.2) + K.bulk Kt43 r.2 := rfl
  omega) u
 have hu : Vs u 1048576 := fun r hr => by
  have h1 := sum_mem (f := K.bulk Kt47) hr
  exact (rat_b (wu r hr)).1.mono (by omega)
 have ht : ∀ b ∈ ([tru] : Dt22), AtR b := fun b hb => by simp only [List.mem_singleton] at hb; rw [hb]; exact tru_at
 have htm : ∀ b ∈ ([tru] : Dt22), AtM b := fun b hb => by simp only [List.mem_singleton] at hb; rw [hb]; exact tru_m
 obtain ⟨j, hj⟩ := means_build ho (by omega) hu (by decide) (by decide) (by omega) l.length 0 [tru] [] (by omega) ht htm Good.new rfl (fun j h h2 => by simp at h2)
 exact w_AtomsMeans.of (0 + j) l u (st New_F (hj 0))
end Go.Fx.Tryz
