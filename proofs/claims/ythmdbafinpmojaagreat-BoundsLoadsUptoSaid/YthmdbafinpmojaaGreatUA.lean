/- Straight-line steps of a printed function. -/
import Derived.Test.YthmdbafinpmojaaGreatNA
import Derived.Test.YthmdbafinpmojaaGreatW08b
import Derived.Test.YthmdbafinpmojaaGreatNB
import Derived.Test.YthmdbafinpmojaaGreatND
namespace Go.Fx.Tryz
open Go Go.Fx Go.Fx.Num
set_option linter.unusedVariables false
set_option linter.unusedSimpArgs false
section
variable {α β : Type}
theorem st {x : Option α} {a : α} {f : α → Option β} {r : Option β} (h : x = some a) (g : f a = r) : x.bind f = r := by rw [h]; exact g
theorem yes {b : Bool} {x y r : Option β} (h : b = true) (g : x = r) : (bif b then x else y) = r := by rw [h]; exact g
theorem no {b : Bool} {x y r : Option β} (h : b = false) (g : y = r) : (bif b then x else y) = r := by rw [h]; exact g
end
theorem wrap_ok {i : Int} (h : -9223372036854775808 ≤ i) (h2 : i < 9223372036854775808) : IntKind.i64.wrap i = i := i64_add ⟨h, by omega⟩
def bdn (nf : Dt44 → Dt44) (b : Dt66) : Dt66 := if b.1 = true then (true, nf b.2.1, b.2.2) else zt66
def lin (nf : Dt44 → Dt44) (l : Dt68) : Dt68 := (bdn nf l.1, bdn nf l.2)
def chn (nf : Dt44 → Dt44) (c : Dt70) : Dt70 := (c.1, c.2.1, c.2.2.1, bdn nf c.2.2.2)
def stn (nf : Dt44 → Dt44) (s : Dt32) : Dt32 := (s.1.map (lin nf), s.2.1, s.2.2.map (chn nf))
def NB (nf : Dt44 → Dt44) (b : Dt66) : Prop := b.1 = true → r05_Norm.F (b.2.1, ()) = some (nf b.2.1, ())
theorem RBound_F {nf : Dt44 → Dt44} {b : Dt66} (h : NB nf b) : r08_Bound.F (b, ()) = some (bdn nf b, ()) := by
  refine r08_Bound.of 0 b ?_
  unfold bdn
  cases hb : b.1 with
  | false => exact yes (by rw [hb]; rfl) rfl
  | true => exact no (by rw [hb]; rfl) (st (h hb) rfl)
theorem is_F (d : Dt81) : bounds_Store_is.F d () = some ((), (d.2.1, ()), d) := bounds_Store_is.of d _ fun G => ⟨0, rfl⟩
def growS (d : Dt81) : Unit × (Int × Int × Unit) × Dt81 :=
  if d.2.2.length = 65536 then ((), (0, 2, ()), d) else ((), ((d.2.2.length : Int), 0, ()), (d.1, (true, d.2.2 ++ [zt68])))
theorem Grow_F {d : Dt81} (h : d.2.1 = true) (hl : d.2.2.length ≤ 65536) : bounds_Store_Grow.F d () = some (growS d) := by
  refine bounds_Store_Grow.of d _ fun G => ⟨0, st (is_F d) (no (by show (!d.2.1) = false; rw [h]; rfl) ?_)⟩
  unfold growS
  by_cases h1 : d.2.2.length = 65536
  · rw [if_pos h1]
    exact yes (by show (((d.2.2.length : Nat) : Int) == 65536) = true; rw [h1]; rfl) rfl
  · rw [if_neg h1]
    refine no (by show (((d.2.2.length : Nat) : Int) == 65536) = false; exact beq_eq_false_iff_ne.2 (by omega)) ?_
    refine yes (decide_eq_true (by show d.2.2.length + 1 < 549755813888; omega)) ?_
    have e : IntKind.i64.wrap ((List.length (List.append d.2.2 [zt68]) : Int) - 1) = d.2.2.length := by
      rw [show List.length (List.append d.2.2 [zt68]) = d.2.2.length + 1 from List.length_append]
      exact (wrap_ok (by omega) (by omega)).trans (by omega)
    show some (((), (IntKind.i64.wrap ((List.length (List.append d.2.2 [zt68]) : Int) - 1), (0 : Int), ()), (d.1, (d.2.1, d.2.2 ++ [zt68]))), G.b, ([] : List Value)) = _
    rw [e, h]
theorem getD_at {α : Type} (l : List α) (z : α) {i : Nat} (h : i < l.length) : List.getD l (Int.toNat (i : Int)) z = l[i] := by
  rw [Int.toNat_natCast, List.getD_eq_getElem?_getD, List.getElem?_eq_getElem h]; rfl
theorem Copy_F {nf : Dt44 → Dt44} {s : Dt32} (h1 : ∀ l ∈ s.1, NB nf l.1 ∧ NB nf l.2) (h2 : ∀ c ∈ s.2.2, NB nf c.2.2.2) (n1 : s.1.length ≤ 65536) (n2 : s.2.2.length < 900000000000) :
    r08_Copy.F (s, ()) = some (stn nf s, ()) := by
  have k7 : ∃ j, ∀ k, r08_Copy.L7 (k + j) s.1 s.2.1 s.2.2 0 (s.1.map (lin nf)) s.2.1 [] 0 = some (stn nf s, ()) := by
    refine up (fun k (p : Nat × Dt30) => r08_Copy.L7 k s.1 s.2.1 s.2.2 0 (s.1.map (lin nf)) s.2.1 p.2 (p.1 : Int)) _
      (fun i (t : Dt30) => t = (s.2.2.take i).map (chn nf)) s.2.2.length (fun i t hi ht => ?_) (fun t ht => ⟨1, fun k => ?_⟩) 0 [] (Nat.zero_le _) rfl
    · subst ht
      refine ⟨_, rfl, 1, fun k => ?_⟩
      show r08_Copy.L7 (k + 1) _ _ _ _ _ _ _ _ = r08_Copy.L7 k _ _ _ _ _ _ _ _
      rw [r08_Copy.L7_succ]
      unfold r08_Copy.b7
      refine yes (decide_eq_true (by omega)) (yes (by simp only [Bool.and_eq_true, decide_eq_true_eq]; omega) ?_)
      rw [getD_at s.2.2 zt70 hi]
      refine st (RBound_F (h2 _ (List.getElem_mem hi))) ?_
      refine yes (decide_eq_true (by simp only [List.length_map, List.length_take, List.length_cons, List.length_nil]; omega)) ?_
      have e : IntKind.i64.wrap ((i : Int) + 1) = ((i + 1 : Nat) : Int) := (wrap_ok (by omega) (by omega)).trans (by omega)
      have e2 : List.append ((s.2.2.take i).map (chn nf)) [chn nf s.2.2[i]] = (s.2.2.take (i + 1)).map (chn nf) := by
        rw [List.take_succ_eq_append_getElem hi, List.map_append]; rfl
      show r08_Copy.L7 k s.1 s.2.1 s.2.2 0 (s.1.map (lin nf)) s.2.1 (List.append ((s.2.2.take i).map (chn nf)) [chn nf s.2.2[i]]) (IntKind.i64.wrap ((i : Int) + 1)) = _
      rw [e, e2]
    · subst ht
      show r08_Copy.L7 (k + 1) _ _ _ _ _ _ _ _ = _
      rw [r08_Copy.L7_succ]
      unfold r08_Copy.b7
      refine no (decide_eq_false (by omega)) ?_
      rw [List.take_length]; rfl
  obtain ⟨_, -, j, hj⟩ := upTo (fun k (p : Nat × Dt29) => r08_Copy.L3 k s.1 s.2.1 s.2.2 0 p.2 s.2.1 (p.1 : Int)) (fun k (_ : Unit) => r08_Copy.L7 k s.1 s.2.1 s.2.2 0 (s.1.map (lin nf)) s.2.1 [] 0)
    (fun i (t : Dt29) => t = (s.1.take i).map (lin nf)) (fun _ => True) s.1.length (fun i t hi ht => by
      subst ht
      refine ⟨_, rfl, 1, fun k => ?_⟩
      show r08_Copy.L3 (k + 1) _ _ _ _ _ _ _ = r08_Copy.L3 k _ _ _ _ _ _ _
      rw [r08_Copy.L3_succ]
      unfold r08_Copy.b3
      refine yes (decide_eq_true (by omega)) (yes (by simp only [Bool.and_eq_true, decide_eq_true_eq]; omega) ?_)
      rw [getD_at s.1 zt68 hi]
      have hm := h1 _ (List.getElem_mem hi)
      refine st (RBound_F hm.1) (yes (by simp only [Bool.and_eq_true, decide_eq_true_eq]; omega) (st (RBound_F hm.2) ?_))
      refine yes (decide_eq_true (by simp only [List.length_map, List.length_take, List.length_cons, List.length_nil]; omega)) ?_
      have e : IntKind.i64.wrap ((i : Int) + 1) = ((i + 1 : Nat) : Int) := (wrap_ok (by omega) (by omega)).trans (by omega)
      have e2 : List.append ((s.1.take i).map (lin nf)) [lin nf s.1[i]] = (s.1.take (i + 1)).map (lin nf) := by
        rw [List.take_succ_eq_append_getElem hi, List.map_append]; rfl
      show r08_Copy.L3 k s.1 s.2.1 s.2.2 0 (List.append ((s.1.take i).map (lin nf)) [lin nf s.1[i]]) s.2.1 (IntKind.i64.wrap ((i : Int) + 1)) = _
      rw [e, e2]) (fun t ht => by
      subst ht
      refine ⟨(), trivial, 1, fun k => ?_⟩
      show r08_Copy.L3 (k + 1) _ _ _ _ _ _ _ = _
      rw [r08_Copy.L3_succ]
      unfold r08_Copy.b3
      refine no (decide_eq_false (by omega)) ?_
      rw [List.take_length]) 0 [] (Nat.zero_le _) rfl
  obtain ⟨i, hi⟩ := k7
  refine r08_Copy.of (i + j) s ?_
  show r08_Copy.L3 (i + j) s.1 s.2.1 s.2.2 0 [] s.2.1 0 = _
  exact (hj i).trans (by have := hi 0; rwa [Nat.zero_add] at this)
def growR (nf : Dt44 → Dt44) (s : Dt32) : Dt32 × Int × Int × Unit :=
  if s.1.length = 65536 then (s, 0, 2, ()) else (((stn nf s).1 ++ [zt68], (stn nf s).2), (s.1.length : Int), 0, ())
theorem RGrow_F {nf : Dt44 → Dt44} {s : Dt32} (h1 : ∀ l ∈ s.1, NB nf l.1 ∧ NB nf l.2) (h2 : ∀ c ∈ s.2.2, NB nf c.2.2.2) (n1 : s.1.length ≤ 65536) (n2 : s.2.2.length < 900000000000) :
    r08_Grow.F (s, ()) = some (growR nf s) := by
  refine r08_Grow.of 0 s ?_
  unfold growR
  by_cases h : s.1.length = 65536
  · rw [if_pos h]; exact yes (decide_eq_true (by omega)) rfl
  · rw [if_neg h]
    refine no (decide_eq_false (by omega)) (st (Copy_F h1 h2 n1 n2) (yes (decide_eq_true ?_) rfl))
    show ((s.1.map (lin nf)).length + 1 < 549755813888)
    rw [List.length_map]; omega
def rv (r : Dt42) : Rat := Rat.divInt (wv r.1) (val r.2)
noncomputable def rcan (q : Rat) : Dt42 := (wc q.num, canon (q.den : Int))
theorem gcd_ab (z d : Int) : gcdI (ab z) d = (Int.gcd d z : Int) := by
  unfold gcdI ab
  rw [Int.gcd_comm]
  split <;> simp
theorem q_num {z d : Int} (hd : 0 < d) : (Rat.divInt z d).num = z / gcdI (ab z) d := by
  rw [Rat.num_divInt, gcd_ab, Int.sign_eq_one_of_pos hd, Int.one_mul]
theorem q_den {z d : Int} (hd : 0 < d) : ((Rat.divInt z d).den : Int) = d / gcdI (ab z) d := by
  rw [Rat.den_divInt, if_neg (by omega), gcd_ab]
  have : (d.natAbs : Int) = d := by omega
  rw [Int.natCast_ediv, this]
theorem rcan_zero : rcan 0 = ((false, []), [1]) := by
  unfold rcan
  rw [show (0 : Rat).num = 0 from rfl, show ((0 : Rat).den : Int) = 1 from rfl, canon_one (by decide), wc_pos (by decide), canon_zero]
structure Rt (r : Dt42) (q : Rat) (n : Nat) : Prop where
  num : Wn r.1 (wv r.1) n
  den : Nm r.2 (val r.2) n
  val : rv r = q
  pos : 1 ≤ n
theorem den_pos (q : Rat) : 0 < (q.den : Int) := by have := q.den_nz; omega
theorem rv_rcan (q : Rat) : rv (rcan q) = q := by
  unfold rv rcan
  rw [wv_wc, val_canon (by omega), Rat.num_divInt_den]
theorem ediv_bound {z g b : Int} (hg : 0 < g) (h : -b < z ∧ z < b) : -b < z / g ∧ z / g < b := by
  have h1 : z / g * g ≤ z := Int.ediv_mul_le z (by omega)
  have h2 : z < (z / g + 1) * g := Int.lt_ediv_add_one_mul_self z hg
  rcases Int.lt_trichotomy z 0 with h0 | h0 | h0
  · have h3 : z / g < 0 := Int.ediv_neg_of_neg_of_pos h0 hg
    have h4 : (z / g + 1) * g ≤ (z / g + 1) * 1 := Int.mul_le_mul_of_nonpos_left (by omega) (by omega)
    omega
  · subst h0; simp; omega
  · have h3 : 0 ≤ z / g := Int.ediv_nonneg (by omega) (by omega)
    have h4 : z / g * 1 ≤ z / g * g := Int.mul_le_mul_of_nonneg_left (by omega) h3
    omega
theorem pw_ge_one {n : Nat} (h : 1 ≤ n) : 1 < pw n := by
  have := pw_mono h
  have e : pw 1 = 4294967296 := by decide
  omega
theorem Rt.bounds {r q n} (h : Rt r q n) : (-pw n < q.num ∧ q.num < pw n) ∧ (q.den : Int) < pw n := by
  have hb := h.num.bound
  have hd := h.den.lt
  have hv := h.val
  have h1 := pw_ge_one h.pos
  unfold rv at hv
  rcases Int.lt_or_eq_of_le h.den.pos with h0 | h0
  · have hg := gcdI_pos (x := ab (wv r.1)) (y := Num.val r.2) (by omega)
    have e1 := q_num (z := wv r.1) h0
    have e2 := q_den (z := wv r.1) h0
    rw [hv] at e1 e2
    refine ⟨by rw [e1]; exact ediv_bound hg hb, ?_⟩
    rw [e2]
    exact (ediv_bound hg ⟨by omega, hd⟩).2
  · rw [← h0, Rat.divInt_zero] at hv
    subst hv
    have := pw_pos n
    refine ⟨⟨?_, ?_⟩, h1⟩
    · show -pw n < 0; omega
    · show 0 < pw n; omega
theorem Rt.of_q {q : Rat} {n : Nat} (hn : 1 ≤ n) (h1 : -pw n < q.num ∧ q.num < pw n) (h2 : (q.den : Int) < pw n) : Rt (rcan q) q n where
  num := by
    show Wn (wc q.num) (wv (wc q.num)) n
    rw [wv_wc]; exact .of h1
  den := by
    show Nm (canon (q.den : Int)) (Num.val (canon (q.den : Int))) n
    rw [val_canon (by omega)]; exact .canon (by omega) h2
  val := rv_rcan q
  pos := hn
theorem Rt.norm {r q n} (h : Rt r q n) : Rt (rcan q) q n := .of_q h.pos h.bounds.1 h.bounds.2
theorem blen_nought {x : Int} (h : 0 ≤ x) : (blen x.toNat : Int) = 0 ↔ x = 0 := by
  have key : ∀ n : Nat, blen n = 0 ↔ n = 0 := by
    intro n
    constructor
    · intro h
      unfold blen at h
      split at h
      · assumption
      · omega
    · intro h; subst h; unfold blen; rfl
  have := key x.toNat
  omega
theorem parts {p : Dt40} {z d : Int} {n : Nat} (hp : Wn p z n) (hd : 0 < d) : Wn (p.1, canon (ab z / gcdI (ab z) d)) (z / gcdI (ab z) d) n := by
  have hg := gcdI_pos (x := ab z) (y := d) (by omega)
  have ha := ab_nonneg z
  have hz : 0 ≤ ab z / gcdI (ab z) d := Int.ediv_nonneg ha (by omega)
  have hnm := hp.nm.lt
  have hb := ediv_bound hg ⟨show -pw n < ab z by have := pw_pos n; omega, hnm⟩
  refine ⟨canon_limbs _, ?_, canon_len_le hz hb.2⟩
  have he := hp.made_eq
  unfold wv
  show (if p.1 = true then -(Num.val (canon (ab z / gcdI (ab z) d))) else Num.val (canon (ab z / gcdI (ab z) d))) = z / gcdI (ab z) d
  rw [val_canon hz]
  cases hb1 : p.1 with
  | true =>
    rw [hb1] at he
    simp only [if_true] at he ⊢
    have hdv : gcdI (ab z) d ∣ ab z := gcdI_dvd_left _ _
    rw [← Int.neg_ediv_of_dvd hdv, he]
  | false =>
    rw [hb1] at he
    simp only [Bool.false_eq_true, if_false] at he ⊢
    rw [he]
theorem made_F {p : Dt40} {e : Dt38} {z d : Int} {n : Nat} (hp : Wn p z n) (he : Nm e d n) (hd : 0 < d) (hn : n < 70368744177664) : ratio_made.F (p, e, ()) = some (rcan (Rat.divInt z d), ()) := by
  have hg := gcdI_pos (x := ab z) (y := d) (by omega)
  have g1 := hp.nm
  have hgn : Nm (canon (gcdI (ab z) d)) (gcdI (ab z) d) n := .canon (by omega) (gcdI_lt g1.pos he.pos g1.lt he.lt)
  refine ratio_made.of 0 p e (st (g1.Gcd_F he hn) (st ((g1.Div_F hgn hn hn).trans (congrArg some (divI_pos (by omega)))) (st ((he.Div_F hgn hn hn).trans (congrArg some (divI_pos (by omega)))) (st ((parts hp hd).Norm_F (by omega)) ?_))))
  show some ((wc (z / gcdI (ab z) d), canon (d / gcdI (ab z) d)), ()) = _
  unfold rcan
  rw [q_num hd, q_den hd]
theorem Rt.Norm_F {r q n} (h : Rt r q n) (hn : n < 70368744177664) : ratio_Norm.F (r, ()) = some (rcan q, ()) := by
  have hb := Bits_F h.den.limbs (by have := h.den.len; omega)
  refine ratio_Norm.of 0 r (st hb ?_)
  have hv := h.val
  unfold rv at hv
  rcases Int.lt_or_eq_of_le h.den.pos with h0 | h0
  · refine no ?_ (st (made_F h.num h.den h0 hn) ?_)
    · refine beq_eq_false_iff_ne.2 fun e => ?_
      have := (blen_nought h.den.pos).1 e
      omega
    · rw [hv]
  · refine yes ?_ ?_
    · rw [← h0]; rfl
    · rw [← h0, Rat.divInt_zero] at hv
      subst hv
      rw [rcan_zero]
theorem canon_len_pos {x : Int} (h : 0 < x) : ((canon x).length : Int) ≠ 0 := by
  have := canon_len_zero (n := x) (by omega)
  omega
theorem Rt.rNorm_F {r q n} (h : Rt r q n) (hn : n < 70368744177664) : r03_Norm.F (r, ()) = some (rcan q, ()) := by
  refine r03_Norm.of 0 r (st (h.num.rNorm_F (by omega)) (st (h.den.rNorm_F (by omega)) ?_))
  have hv := h.val
  unfold rv at hv
  rcases Int.lt_or_eq_of_le h.den.pos with h0 | h0
  · refine no (beq_eq_false_iff_ne.2 (canon_len_pos h0)) ?_
    have hw : (wc (wv r.1)).2 = canon (ab (wv r.1)) := rfl
    by_cases hz : wv r.1 = 0
    · refine yes ?_ ?_
      · show (((canon (ab (wv r.1))).length : Int) == 0) = true
        rw [hz, show ab 0 = 0 from rfl, canon_zero]; rfl
      · rw [hz, Rat.zero_divInt] at hv
        subst hv
        rw [rcan_zero]
    · have hab : 0 < ab (wv r.1) := by have := tri (wv r.1); omega
      refine no (beq_eq_false_iff_ne.2 (canon_len_pos hab)) ?_
      have g1 : Nm (canon (ab (wv r.1))) (ab (wv r.1)) n := h.num.norm.nm
      have g2 := h.den.norm
      have hg := gcdI_pos (x := ab (wv r.1)) (y := Num.val r.2) (by omega)
      have hgn : Nm (canon (gcdI (ab (wv r.1)) (Num.val r.2))) (gcdI (ab (wv r.1)) (Num.val r.2)) n := .canon (by omega) (gcdI_lt g1.pos g2.pos g1.lt g2.lt)
      refine st (g1.rGcd_F g2 hn) (st ((g1.rDiv_F hgn hn hn).trans (congrArg some (divI_pos (by omega)))) (st ((g2.rDiv_F hgn hn hn).trans (congrArg some (divI_pos (by omega)))) ?_))
      show some (((decide (wv r.1 < 0), canon (ab (wv r.1) / gcdI (ab (wv r.1)) (Num.val r.2))), canon (Num.val r.2 / gcdI (ab (wv r.1)) (Num.val r.2))), ()) = _
      rw [← hv]
      unfold rcan
      rw [q_num h0, q_den h0]
      have hp := parts h.num.norm h0
      have e1 : ((wc (wv r.1)).1, canon (ab (wv r.1) / gcdI (ab (wv r.1)) (Num.val r.2))) = wc (wv r.1 / gcdI (ab (wv r.1)) (Num.val r.2)) := by
        have hdv : gcdI (ab (wv r.1)) (Num.val r.2) ∣ ab (wv r.1) := gcdI_dvd_left _ _
        have hpos : 0 < ab (wv r.1) / gcdI (ab (wv r.1)) (Num.val r.2) := Int.ediv_pos_of_pos_of_dvd hab (by omega) hdv
        have key : (wv r.1 < 0 ↔ wv r.1 / gcdI (ab (wv r.1)) (Num.val r.2) < 0) ∧ ab (wv r.1) / gcdI (ab (wv r.1)) (Num.val r.2) = ab (wv r.1 / gcdI (ab (wv r.1)) (Num.val r.2)) := by
          have t := tri (wv r.1 / gcdI (ab (wv r.1)) (Num.val r.2))
          by_cases hs : wv r.1 < 0
          · have e2 : ab (wv r.1) = -wv r.1 := by have := tri (wv r.1); omega
            have hdv' : gcdI (ab (wv r.1)) (Num.val r.2) ∣ wv r.1 := by
              have := Int.dvd_neg.2 hdv
              have e : -ab (wv r.1) = wv r.1 := by omega
              rwa [e] at this
            have e3 : ab (wv r.1) / gcdI (ab (wv r.1)) (Num.val r.2) = -(wv r.1 / gcdI (ab (wv r.1)) (Num.val r.2)) := by
              rw [← Int.neg_ediv_of_dvd hdv', ← e2]
            omega
          · have e2 : ab (wv r.1) = wv r.1 := by have := tri (wv r.1); omega
            have e3 : ab (wv r.1) / gcdI (ab (wv r.1)) (Num.val r.2) = wv r.1 / gcdI (ab (wv r.1)) (Num.val r.2) := congrArg (· / _) e2
            omega
        show (decide (wv r.1 < 0), _) = (decide (wv r.1 / gcdI (ab (wv r.1)) (Num.val r.2) < 0), canon (ab (wv r.1 / gcdI (ab (wv r.1)) (Num.val r.2))))
        rw [decide_eq_decide.2 key.1, key.2]
      exact congrArg (fun a => some ((a, _), ())) e1
  · refine yes ?_ ?_
    · show (((canon (Num.val r.2)).length : Int) == 0) = true
      rw [← h0, canon_zero]; rfl
    · rw [← h0, Rat.divInt_zero] at hv
      subst hv
      rw [rcan_zero]
def rcmp (p q : Rat) : Int := sgn (p.num * q.den - q.num * p.den)
theorem rcmp_lt {p q : Rat} : rcmp p q < 0 ↔ p < q := by
  rw [Rat.lt_iff]
  unfold rcmp sgn
  split <;> (try split) <;> omega
theorem rcmp_gt {p q : Rat} : 0 < rcmp p q ↔ q < p := by
  rw [Rat.lt_iff]
  unfold rcmp sgn
  split <;> (try split) <;> omega
theorem rcmp_eq {p q : Rat} : rcmp p q = 0 ↔ p = q := by
  constructor
  · intro h
    have h1 := (Rat.le_iff p q).2 (by unfold rcmp sgn at h; split at h <;> (try split at h) <;> omega)
    have h2 := (Rat.le_iff q p).2 (by unfold rcmp sgn at h; split at h <;> (try split at h) <;> omega)
    exact Rat.le_antisymm h1 h2
  · rintro rfl
    unfold rcmp
    rw [Int.sub_self]; rfl
theorem sgn_ediv {z g : Int} (hg : 0 < g) (hd : g ∣ z) : sgn (z / g) = sgn z := by
  have he : z / g * g = z := Int.ediv_mul_cancel hd
  rcases Int.lt_trichotomy z 0 with h | h | h
  · have : z / g < 0 := Int.ediv_neg_of_neg_of_pos h hg
    unfold sgn
    rw [if_pos h, if_pos this]
  · subst h; simp
  · have : 0 < z / g := Int.ediv_pos_of_pos_of_dvd h (by omega) hd
    unfold sgn
    rw [if_neg (by omega), if_neg (by omega), if_neg (by omega), if_neg (by omega)]
theorem dvd_ab {z g : Int} (h : g ∣ ab z) : g ∣ z := by
  unfold ab at h
  split at h
  · have := Int.dvd_neg.2 h; rwa [Int.neg_neg] at this
  · exact h
theorem sgn_sub (p q : Rat) : sgn (p - q).num = rcmp p q := by
  have hd : 0 < (p.den : Int) * q.den := Int.mul_pos (den_pos p) (den_pos q)
  have e : p - q = Rat.divInt (p.num * q.den - q.num * p.den) ((p.den : Int) * q.den) := by
    rw [Rat.sub_def', ← Rat.divInt_ofNat, Int.natCast_mul]
  rw [e, q_num hd]
  exact sgn_ediv (gcdI_pos (by omega)) (dvd_ab (gcdI_dvd_left _ _))
theorem add_divInt (p q : Rat) : Rat.divInt (p.num * q.den + q.num * p.den) ((p.den : Int) * q.den) = p + q := by
  rw [Rat.add_def', ← Rat.divInt_ofNat, Int.natCast_mul]
theorem rnum {q : Rat} {n : Nat} (h : Rt (rcan q) q n) : Wn (wc q.num) q.num n := by
  have := h.num
  have e : (rcan q).1 = wc q.num := rfl
  rw [e, wv_wc] at this
  exact this
theorem rden {q : Rat} {n : Nat} (h : Rt (rcan q) q n) : Nm (canon (q.den : Int)) (q.den : Int) n := by
  have := h.den
  have e : (rcan q).2 = canon (q.den : Int) := rfl
  rw [e, val_canon (by omega)] at this
  exact this
theorem Rt.Cmp_F {r s p q n} (h : Rt r p n) (g : Rt s q n) (hn : n + n < 70368744177664) : ratio_Cmp.F (r, s, ()) = some (rcmp p q, ()) := by
  have hp := h.norm
  have hq := g.norm
  refine ratio_Cmp.of 0 r s (st (h.Norm_F (by omega)) (st (g.Norm_F (by omega)) ?_))
  exact st ((rnum hp).Mul_F (rden hq).wn (by omega)) (st ((rnum hq).Mul_F (rden hp).wn (by omega)) (st (((rnum hp).mul (rden hq).wn).Cmp_F ((rnum hq).mul (rden hp).wn) (by omega)) rfl))
theorem Rt.rNeg_F {r q n} (h : Rt r q n) (hn : n < 70368744177664) : r03_Neg.F (r, ()) = some (rcan (-q), ()) := by
  have hq := h.norm
  have hb := hq.bounds
  have hm : Rt (wc (-q.num), canon (q.den : Int)) (-q) n := by
    refine ⟨?_, ?_, ?_, h.pos⟩
    · show Wn (wc (-q.num)) (wv (wc (-q.num))) n
      rw [wv_wc]; exact .of (by omega)
    · exact hq.den
    · show Rat.divInt (wv (wc (-q.num))) (Num.val (canon (q.den : Int))) = -q
      rw [wv_wc, val_canon (by omega), ← Rat.neg_divInt, Rat.num_divInt_den]
  refine r03_Neg.of 0 r (st (h.rNorm_F hn) (st ((rnum hq).rNeg_F (by omega)) (st (hm.rNorm_F hn) rfl)))
theorem Rt.neg {q n} (h : Rt (rcan q) q n) : Rt (rcan (-q)) (-q) n :=
  .of_q h.pos (by have := h.bounds; rw [Rat.neg_num]; omega) (by rw [Rat.neg_den]; exact h.bounds.2)
theorem Rt.rAdd {p q n} (h : Rt (rcan p) p n) (g : Rt (rcan q) q n) : Rt (wc (p.num * q.den + q.num * p.den), canon ((p.den : Int) * q.den)) (p + q) (n + n + 1) := by
  have h1 := ((rnum h).mul (rden g).wn).add ((rnum g).mul (rden h).wn)
  have h2 := (rden h).mul (rden g)
  refine ⟨?_, ?_, ?_, by omega⟩
  · show Wn (wc _) (wv (wc _)) _
    rw [wv_wc]; exact h1
  · show Nm (canon _) (Num.val (canon _)) _
    rw [h2.val]; exact h2.mono (by omega)
  · show Rat.divInt (wv (wc _)) (Num.val (canon _)) = _
    rw [wv_wc, h2.val, add_divInt]
theorem Rt.rAdd_F {r s p q n} (h : Rt r p n) (g : Rt s q n) (hn : n + n + 1 < 70368744177664) : r03_Add.F (r, s, ()) = some (rcan (p + q), ()) := by
  have hp := h.norm
  have hq := g.norm
  refine r03_Add.of 0 r s (st (h.rNorm_F (by omega)) (st (g.rNorm_F (by omega)) (st (r03_positive.of 0 _ rfl) (st ((rnum hp).rMul_F (rden hq).wn (by omega)) (st (r03_positive.of 0 _ rfl) (st ((rnum hq).rMul_F (rden hp).wn (by omega)) ?_))))))
  exact st (((rnum hp).mul (rden hq).wn).rAdd_F ((rnum hq).mul (rden hp).wn) (by omega)) (st ((rden hp).rMul_F (rden hq) (by omega)) (st ((hp.rAdd hq).rNorm_F hn) rfl))
theorem Rt.rSub_F {r s p q n} (h : Rt r p n) (g : Rt s q n) (hn : n + n + 1 < 70368744177664) : r03_Sub.F (r, s, ()) = some (rcan (p - q), ()) := by
  refine r03_Sub.of 0 r s (st (g.rNeg_F (by omega)) (st (h.rAdd_F g.norm.neg hn) ?_))
  rw [Rat.sub_eq_add_neg]
theorem Rt.sub {r s p q n} (h : Rt r p n) (g : Rt s q n) : Rt (rcan (p - q)) (p - q) (n + n + 1) := by
  rw [Rat.sub_eq_add_neg]
  exact (h.norm.rAdd g.norm.neg).norm
theorem Rt.rSign_F {r q n} (h : Rt r q n) (hn : n < 70368744177664) : r03_Sign.F (r, ()) = some (sgn q.num, ()) :=
  r03_Sign.of 0 r (st (h.rNorm_F hn) (st ((rnum h.norm).rSign_F (by omega)) rfl))
noncomputable def dcan (x : Rat × Rat) : Dt44 := (rcan x.1, rcan x.2)
def dcmp (x y : Rat × Rat) : Int := if rcmp x.1 y.1 ≠ 0 then rcmp x.1 y.1 else rcmp x.2 y.2
structure Dn (d : Dt44) (x : Rat × Rat) (n : Nat) : Prop where
  a : Rt d.1 x.1 n
  b : Rt d.2 x.2 n
theorem Dn.norm {d x n} (h : Dn d x n) : Dn (dcan x) x n := ⟨h.a.norm, h.b.norm⟩
theorem Dn.Norm_F {d x n} (h : Dn d x n) (hn : n < 70368744177664) : delta_Norm.F (d, ()) = some (dcan x, ()) :=
  delta_Norm.of 0 d (st (h.a.Norm_F hn) (st (h.b.Norm_F hn) rfl))
theorem Dn.rNorm_F {d x n} (h : Dn d x n) (hn : n < 70368744177664) : r05_Norm.F (d, ()) = some (dcan x, ()) :=
  r05_Norm.of 0 d (st (h.a.rNorm_F hn) (st (h.b.rNorm_F hn) rfl))
theorem Dn.Cmp_F {c d x y n} (h : Dn c x n) (g : Dn d y n) (hn : n + n < 70368744177664) : delta_Cmp.F (c, d, ()) = some (dcmp x y, ()) := by
  refine delta_Cmp.of 0 c d (st (h.a.Cmp_F g.a hn) ?_)
  unfold dcmp
  by_cases hz : rcmp x.1 y.1 = 0
  · rw [if_neg (by simp [hz])]
    exact no (bne_eq_false_iff_eq.2 hz) (st (h.b.Cmp_F g.b hn) rfl)
  · rw [if_pos hz]
    exact yes (bne_iff_ne.2 hz) rfl
theorem Dn.rCmp_F {c d x y n} (h : Dn c x n) (g : Dn d y n) (hn : n + n + 1 < 70368744177664) : r05_Cmp.F (c, d, ()) = some (dcmp x y, ()) := by
  have k1 : r05_Sub.F (c, d, ()) = some (dcan (x.1 - y.1, x.2 - y.2), ()) :=
    r05_Sub.of 0 c d (st (h.a.rSub_F g.a hn) (st (h.b.rSub_F g.b hn) rfl))
  have k2 : r05_Sign.F (dcan (x.1 - y.1, x.2 - y.2), ()) = some (dcmp x y, ()) := by
    refine r05_Sign.of 0 _ (st ((h.a.sub g.a).rSign_F hn) ?_)
    unfold dcmp
    rw [sgn_sub]
    by_cases hz : rcmp x.1 y.1 = 0
    · rw [if_neg (by simp [hz])]
      refine no (bne_eq_false_iff_eq.2 hz) (st ((h.b.sub g.b).rSign_F hn) ?_)
      rw [sgn_sub]
    · rw [if_pos hz]
      exact yes (bne_iff_ne.2 hz) rfl
  exact r05_Cmp.of 0 c d (st k1 (st k2 rfl))
def dlt (x y : Rat × Rat) : Prop := x.1 < y.1 ∨ (x.1 = y.1 ∧ x.2 < y.2)
theorem dcmp_lt {x y : Rat × Rat} : dcmp x y < 0 ↔ dlt x y := by
  unfold dcmp dlt
  by_cases h : rcmp x.1 y.1 = 0
  · rw [if_neg (by simp [h]), rcmp_lt]
    have := rcmp_eq.1 h
    rw [this]
    have := @Rat.lt_irrefl y.1
    simp [this]
  · rw [if_pos h, rcmp_lt]
    have : x.1 ≠ y.1 := fun e => h (rcmp_eq.2 e)
    simp [this]
theorem dcmp_gt {x y : Rat × Rat} : 0 < dcmp x y ↔ dlt y x := by
  unfold dcmp dlt
  by_cases h : rcmp x.1 y.1 = 0
  · rw [if_neg (by simp [h]), rcmp_gt]
    have := rcmp_eq.1 h
    rw [this]
    have := @Rat.lt_irrefl y.1
    simp [this]
  · rw [if_pos h, rcmp_gt]
    have : y.1 ≠ x.1 := fun e => h (rcmp_eq.2 e.symm)
    simp [this]
theorem SameRat_F (r s : Dt42) (h1 : r.1.2.length ≤ 70368744177664) (h2 : r.2.length ≤ 70368744177664) : m_SameRat.F (r, s, ()) = some (decide (r = s), ()) := by
  refine m_SameRat.of 0 r s (st (SameInt_F r.1 s.1 h1) ?_)
  by_cases e1 : r.1 = s.1
  · refine yes (decide_eq_true e1) (st (SameNat_F r.2 s.2 h2) ?_)
    by_cases e2 : r.2 = s.2
    · rw [decide_eq_true e2, decide_eq_true (Prod.ext e1 e2)]
    · rw [decide_eq_false e2, decide_eq_false fun e => e2 (congrArg Prod.snd e)]
  · refine no (decide_eq_false e1) ?_
    rw [decide_eq_false fun e => e1 (congrArg Prod.fst e)]
theorem SameDelta_F {c : Dt44} {x : Rat × Rat} {n : Nat} (h : Dn c x n) (d : Dt44) (hn : n ≤ 70368744177664) : m_SameDelta.F (c, d, ()) = some (decide (c = d), ()) := by
  have k {r : Dt42} {q : Rat} (h : Rt r q n) : r.1.2.length ≤ 70368744177664 ∧ r.2.length ≤ 70368744177664 := ⟨Nat.le_trans h.num.len hn, Nat.le_trans h.den.len hn⟩
  refine m_SameDelta.of 0 c d (st (SameRat_F c.1 d.1 (k h.a).1 (k h.a).2) ?_)
  by_cases e1 : c.1 = d.1
  · refine yes (decide_eq_true e1) (st (SameRat_F c.2 d.2 (k h.b).1 (k h.b).2) ?_)
    by_cases e2 : c.2 = d.2
    · rw [decide_eq_true e2, decide_eq_true (Prod.ext e1 e2)]
    · rw [decide_eq_false e2, decide_eq_false fun e => e2 (congrArg Prod.snd e)]
  · refine no (decide_eq_false e1) ?_
    rw [decide_eq_false fun e => e1 (congrArg Prod.fst e)]
abbrev Q2 := Rat × Rat
abbrev AB := Option (Q2 × Int)
abbrev AL := AB × AB
abbrev AC := Int × Bool × Int × AB
structure M where
  level : Int
  changes : List AC
  limits : List AL
noncomputable def bI : AB → Dt66
  | none => zt66
  | some (x, w) => (true, dcan x, w)
noncomputable def lI (l : AL) : Dt68 := (bI l.1, bI l.2)
noncomputable def cI (c : AC) : Dt70 := (c.1, c.2.1, c.2.2.1, bI c.2.2.2)
noncomputable def mS (m : M) : Dt81 := ((m.level, m.changes.map cI), (true, m.limits.map lI))
noncomputable def mR (m : M) : Dt32 := (m.limits.map lI, m.level, m.changes.map cI)
def SZ : Nat := 35184372087808
def Bk (b : AB) : Prop := ∀ x w, b = some (x, w) → Dn (dcan x) x SZ
theorem Bk.none : Bk none := fun x w h => by cases h
theorem Bk.some {x : Q2} {w : Int} (h : Dn (dcan x) x SZ) : Bk (some (x, w)) := fun y v e => by cases e; exact h
structure M.ok (m : M) (K : Nat) : Prop where
  lims : ∀ l ∈ m.limits, Bk l.1 ∧ Bk l.2
  chg : ∀ c ∈ m.changes, Bk c.2.2.2 ∧ 0 ≤ c.1 ∧ c.1 < m.limits.length
  nl : m.limits.length ≤ 65536
  nc : m.changes.length ≤ K
  lev : 0 ≤ m.level ∧ m.level ≤ K
def tb (up : Bool) (x y : Q2) : Bool := bif up then decide (dcmp x y < 0) else decide (0 < dcmp x y)
theorem dcmp_swap (x y : Q2) : (dcmp x y < 0 ↔ 0 < dcmp y x) ∧ (0 < dcmp x y ↔ dcmp y x < 0) := by
  rw [dcmp_lt, dcmp_gt, dcmp_gt, dcmp_lt]
  exact ⟨Iff.rfl, Iff.rfl⟩
def belowB (b : AB) (x : Q2) : Bool := match b with
  | none => false
  | some (y, _) => tb false x y
def aboveB (b : AB) (x : Q2) : Bool := match b with
  | none => false
  | some (y, _) => tb true x y
theorem below_F {b : AB} {a : Dt44} {x : Q2} (hb : Bk b) (ha : Dn a x SZ) : bounds_below.F (bI b, a, ()) = some (belowB b x, ()) := by
  refine bounds_below.of 0 _ a ?_
  match b, hb with
  | none, _ => exact no rfl rfl
  | some (y, w), hb =>
    refine yes rfl (st ((hb y w rfl).Cmp_F ha (by decide)) ?_)
    show some (decide (dcmp y x < 0), ()) = some (decide (0 < dcmp x y), ())
    rw [decide_eq_decide.2 (dcmp_swap y x).1]
theorem above_F {b : AB} {a : Dt44} {x : Q2} (hb : Bk b) (ha : Dn a x SZ) : bounds_above.F (bI b, a, ()) = some (aboveB b x, ()) := by
  refine bounds_above.of 0 _ a ?_
  match b, hb with
  | none, _ => exact no rfl rfl
  | some (y, w), hb =>
    refine yes rfl (st ((hb y w rfl).Cmp_F ha (by decide)) ?_)
    show some (decide (0 < dcmp y x), ()) = some (decide (dcmp x y < 0), ())
    rw [decide_eq_decide.2 (dcmp_swap y x).2]
theorem getD_map {l : List AL} {v : Int} : List.getD (l.map lI) v.toNat zt68 = lI (l.getD v.toNat (none, none)) := by
  rw [List.getD_eq_getElem?_getD, List.getD_eq_getElem?_getD, List.getElem?_map]
  cases l[v.toNat]? <;> rfl
theorem getD_mem {α : Type} {l : List α} {z : α} {v : Int} (h : 0 ≤ v ∧ v < l.length) : l.getD v.toNat z ∈ l := by
  rw [List.getD_eq_getElem?_getD, List.getElem?_eq_getElem (by omega)]
  exact List.getElem_mem _
theorem in_range {v : Int} {n : Nat} (h : 0 ≤ v ∧ v < n) : (decide (0 ≤ v) && decide (v < (n : Int))) = true := by simp [h]
theorem wrong_F (d : Dt81) (h : d.2.1 = true) (v : Int) : bounds_Store_wrong.F d (v, ()) = some ((), (if 0 ≤ v ∧ v < d.2.2.length then 0 else 61, ()), d) := by
  refine bounds_Store_wrong.of d v _ fun G => ⟨0, st (is_F d) (no (by show (!d.2.1) = false; rw [h]; rfl) ?_)⟩
  by_cases h1 : v < 0
  · rw [if_neg (by omega)]; exact yes (decide_eq_true h1) rfl
  refine no (decide_eq_false h1) ?_
  by_cases h2 : v ≥ d.2.2.length
  · rw [if_neg (by omega)]; exact yes (decide_eq_true h2) rfl
  · rw [if_pos (by omega)]; exact no (decide_eq_false h2) rfl
theorem note_F (lev : Int) (cs : List Dt70) (v : Int) (up : Bool) (b : Dt66) (h : cs.length < 925904528652) : bounds_trail_note.F (lev, cs) (v, up, b, ()) = some ((), (), (lev, cs ++ [(v, up, lev, b)])) :=
  bounds_trail_note.of (lev, cs) v up b _ fun G => ⟨0, yes (decide_eq_true (by show cs.length + 1 < 925904528653; omega)) rfl⟩
def own (up : Bool) (l : AL) : AB := bif up then l.2 else l.1
def oth (up : Bool) (l : AL) : AB := bif up then l.1 else l.2
def put (up : Bool) (l : AL) (b : AB) : AL := bif up then (l.1, b) else (b, l.2)
def kept (up : Bool) (b : AB) (x : Q2) : Bool := match b with
  | none => false
  | some (y, _) => !tb up x y
def clash (up : Bool) (b : AB) (x : Q2) : Bool := match b with
  | none => false
  | some (y, _) => tb (!up) y x
def whyOf (b : AB) : Int := match b with
  | none => 0
  | some (_, w) => w
def asrt (up : Bool) (m : M) (v : Int) (x : Q2) (w : Int) : M × (Int × Int) × Int :=
  if 0 ≤ v ∧ v < m.limits.length then
    let l := m.limits.getD v.toNat (none, none)
    if kept up (own up l) x = true then (m, (0, 0), 0)
    else if clash up (oth up l) x = true then (m, (2, whyOf (oth up l)), 0)
    else (⟨m.level, m.changes ++ [(v, up, m.level, own up l)], m.limits.set v.toNat (put up l (some (x, w)))⟩, (1, 0), 0)
  else (m, (0, 0), 61)
theorem tb_swap (up : Bool) (x y : Q2) : tb (!up) y x = tb up x y := by
  cases up
  · show decide (dcmp y x < 0) = decide (0 < dcmp x y)
    exact decide_eq_decide.2 (dcmp_swap y x).1
  · show decide (0 < dcmp y x) = decide (dcmp x y < 0)
    exact decide_eq_decide.2 (dcmp_swap y x).2
theorem clash_low (b : AB) (x : Q2) : clash false b x = belowB b x := by
  match b with
  | none => rfl
  | some (y, w) => exact tb_swap false x y
theorem clash_up (b : AB) (x : Q2) : clash true b x = aboveB b x := by
  match b with
  | none => rfl
  | some (y, w) => exact tb_swap true x y
theorem why_bI (b : AB) : (bI b).2.2 = whyOf b := by cases b <;> rfl
theorem lims_at {m : M} {K : Nat} (h : m.ok K) {v : Int} (hv : 0 ≤ v ∧ v < m.limits.length) : Bk (m.limits.getD v.toNat (none, none)).1 ∧ Bk (m.limits.getD v.toNat (none, none)).2 := h.lims _ (getD_mem hv)
theorem set_map (l : List AL) (i : Nat) (a : AL) : List.set (l.map lI) i (lI a) = (l.set i a).map lI := by rw [List.map_set]
theorem Lift_gen (d : Dt81) (v : Int) (a : Dt44) (w : Int) (b1 b2 : Bool) (n : Dt44) (hd : d.2.1 = true) (hv : 0 ≤ v ∧ v < d.2.2.length) (hn : d.1.2.length < 925904528652)
    (h1 : bounds_below.F ((List.getD d.2.2 v.toNat zt68).1, a, ()) = some (b1, ())) (h2 : bounds_below.F ((List.getD d.2.2 v.toNat zt68).2, a, ()) = some (b2, ())) (h3 : delta_Norm.F (a, ()) = some (n, ())) :
    bounds_Store_Lift.F d (v, a, w, ()) = some (if (List.getD d.2.2 v.toNat zt68).1.1 = true ∧ b1 = false then ((), ((0, 0), 0, ()), d) else if b2 = true then ((), ((2, (List.getD d.2.2 v.toNat zt68).2.2.2), 0, ()), d)
      else ((), ((1, 0), 0, ()), ((d.1.1, d.1.2 ++ [(v, false, d.1.1, (List.getD d.2.2 v.toNat zt68).1)]), (d.2.1, List.set d.2.2 v.toNat ((true, n, w), (List.getD d.2.2 v.toNat zt68).2))))) := by
  refine bounds_Store_Lift.of d v a w _ fun G => ⟨0, ?_⟩
  refine st (wrong_F d hd v) ?_
  rw [if_pos hv]
  refine no rfl (yes (in_range hv) ?_)
  dsimp only
  have hN := note_F d.1.1 d.1.2 v false (List.getD d.2.2 v.toNat zt68).1 hn
  by_cases hb : (List.getD d.2.2 v.toNat zt68).1.1 = true
  rotate_left
  · refine no (Bool.eq_false_iff.2 hb) (st h2 ?_)
    rw [if_neg (fun h => hb h.1)]
    cases b2 with
    | true => exact yes rfl rfl
    | false => exact no rfl (st hN (st h3 rfl))
  · refine yes hb (st h1 ?_)
    cases b1 with
    | false => rw [if_pos ⟨hb, rfl⟩]; exact yes rfl rfl
    | true =>
      rw [if_neg (fun h => by cases h.2)]
      refine no rfl (st h2 ?_)
      cases b2 with
      | true => exact yes rfl rfl
      | false => exact no rfl (st hN (st h3 rfl))
theorem Press_gen (d : Dt81) (v : Int) (a : Dt44) (w : Int) (b1 b2 : Bool) (n : Dt44) (hd : d.2.1 = true) (hv : 0 ≤ v ∧ v < d.2.2.length) (hn : d.1.2.length < 925904528652)
    (h1 : bounds_above.F ((List.getD d.2.2 v.toNat zt68).2, a, ()) = some (b1, ())) (h2 : bounds_above.F ((List.getD d.2.2 v.toNat zt68).1, a, ()) = some (b2, ())) (h3 : delta_Norm.F (a, ()) = some (n, ())) :
    bounds_Store_Press.F d (v, a, w, ()) = some (if (List.getD d.2.2 v.toNat zt68).2.1 = true ∧ b1 = false then ((), ((0, 0), 0, ()), d) else if b2 = true then ((), ((2, (List.getD d.2.2 v.toNat zt68).1.2.2), 0, ()), d)
      else ((), ((1, 0), 0, ()), ((d.1.1, d.1.2 ++ [(v, true, d.1.1, (List.getD d.2.2 v.toNat zt68).2)]), (d.2.1, List.set d.2.2 v.toNat ((List.getD d.2.2 v.toNat zt68).1, (true, n, w)))))) := by
  refine bounds_Store_Press.of d v a w _ fun G => ⟨0, ?_⟩
  refine st (wrong_F d hd v) ?_
  rw [if_pos hv]
  refine no rfl (yes (in_range hv) ?_)
  dsimp only
  have hN := note_F d.1.1 d.1.2 v true (List.getD d.2.2 v.toNat zt68).2 hn
  by_cases hb : (List.getD d.2.2 v.toNat zt68).2.1 = true
  rotate_left
  · refine no (Bool.eq_false_iff.2 hb) (st h2 ?_)
    rw [if_neg (fun h => hb h.1)]
    cases b2 with
    | true => exact yes rfl rfl
    | false => exact no rfl (st hN (st h3 rfl))
  · refine yes hb (st h1 ?_)
    cases b1 with
    | false => rw [if_pos ⟨hb, rfl⟩]; exact yes rfl rfl
    | true =>
      rw [if_neg (fun h => by cases h.2)]
      refine no rfl (st h2 ?_)
      cases b2 with
      | true => exact yes rfl rfl
      | false => exact no rfl (st hN (st h3 rfl))
theorem Lift_F {m : M} {K : Nat} (h : m.ok K) (hK : K < 925904528652) (v : Int) {a : Dt44} {x : Q2} (ha : Dn a x SZ) (w : Int) :
    bounds_Store_Lift.F (mS m) (v, a, w, ()) = some ((), ((asrt false m v x w).2.1, (asrt false m v x w).2.2, ()), mS (asrt false m v x w).1) := by
  have hlen : (mS m).2.2.length = m.limits.length := List.length_map ..
  have hn : (mS m).1.2.length < 925904528652 := by
    have : (mS m).1.2.length = m.changes.length := List.length_map ..
    have := h.nc; omega
  by_cases hv : 0 ≤ v ∧ v < m.limits.length
  · have hb := lims_at h hv
    have hg : List.getD (mS m).2.2 v.toNat zt68 = lI (m.limits.getD v.toNat (none, none)) := getD_map
    have key := Lift_gen (mS m) v a w _ _ _ rfl (by rw [hlen]; exact hv) hn (by rw [hg]; exact below_F hb.1 ha) (by rw [hg]; exact below_F hb.2 ha) (ha.Norm_F (by decide))
    rw [key, hg]
    unfold asrt
    rw [if_pos hv]
    generalize m.limits.getD v.toNat (none, none) = l at hb hg ⊢
    obtain ⟨lo, hi⟩ := l
    have hcl : clash false (oth false (lo, hi)) x = belowB hi x := clash_low hi x
    have e1 : ((lI (lo, hi)).1.1 = true ∧ belowB lo x = false) ↔ kept false (own false (lo, hi)) x = true := by
      show _ ↔ kept false lo x = true
      match lo with
      | none => simp [lI, bI, kept]
      | some (y, u) => simp [lI, bI, kept, belowB]
    by_cases hk : kept false (own false (lo, hi)) x = true
    · rw [if_pos (e1.2 hk), if_pos hk]
    · rw [if_neg (fun g => hk (e1.1 g)), if_neg hk]
      by_cases hc : belowB hi x = true
      · rw [if_pos hc, if_pos (hcl.trans hc)]
        show some ((), ((2, (bI hi).2.2), 0, ()), mS m) = _
        rw [why_bI]; rfl
      · rw [if_neg hc, if_neg (fun g => hc (hcl.symm.trans g))]
        refine congrArg some (congrArg (Prod.mk ()) (congrArg (Prod.mk _) ?_))
        unfold mS
        rw [List.map_append, ← set_map]
        rfl
  · refine bounds_Store_Lift.of (mS m) v a w _ fun G => ⟨0, st (wrong_F (mS m) rfl v) ?_⟩
    unfold asrt
    rw [hlen, if_neg hv, if_neg hv]
    exact yes rfl rfl
theorem Press_F {m : M} {K : Nat} (h : m.ok K) (hK : K < 925904528652) (v : Int) {a : Dt44} {x : Q2} (ha : Dn a x SZ) (w : Int) :
    bounds_Store_Press.F (mS m) (v, a, w, ()) = some ((), ((asrt true m v x w).2.1, (asrt true m v x w).2.2, ()), mS (asrt true m v x w).1) := by
  have hlen : (mS m).2.2.length = m.limits.length := List.length_map ..
  have hn : (mS m).1.2.length < 925904528652 := by
    have : (mS m).1.2.length = m.changes.length := List.length_map ..
    have := h.nc; omega
  by_cases hv : 0 ≤ v ∧ v < m.limits.length
  · have hb := lims_at h hv
    have hg : List.getD (mS m).2.2 v.toNat zt68 = lI (m.limits.getD v.toNat (none, none)) := getD_map
    have key := Press_gen (mS m) v a w _ _ _ rfl (by rw [hlen]; exact hv) hn (by rw [hg]; exact above_F hb.2 ha) (by rw [hg]; exact above_F hb.1 ha) (ha.Norm_F (by decide))
    rw [key, hg]
    unfold asrt
    rw [if_pos hv]
    generalize m.limits.getD v.toNat (none, none) = l at hb hg ⊢
    obtain ⟨lo, hi⟩ := l
    have hcl : clash true (oth true (lo, hi)) x = aboveB lo x := clash_up lo x
    have e1 : ((lI (lo, hi)).2.1 = true ∧ aboveB hi x = false) ↔ kept true (own true (lo, hi)) x = true := by
      show _ ↔ kept true hi x = true
      match hi with
      | none => simp [lI, bI, kept]
      | some (y, u) => simp [lI, bI, kept, aboveB]
    by_cases hk : kept true (own true (lo, hi)) x = true
    · rw [if_pos (e1.2 hk), if_pos hk]
    · rw [if_neg (fun g => hk (e1.1 g)), if_neg hk]
      by_cases hc : aboveB lo x = true
      · rw [if_pos hc, if_pos (hcl.trans hc)]
        show some ((), ((2, (bI lo).2.2), 0, ()), mS m) = _
        rw [why_bI]; rfl
      · rw [if_neg hc, if_neg (fun g => hc (hcl.symm.trans g))]
        refine congrArg some (congrArg (Prod.mk ()) (congrArg (Prod.mk _) ?_))
        unfold mS
        rw [List.map_append, ← set_map]
        rfl
  · refine bounds_Store_Press.of (mS m) v a w _ fun G => ⟨0, st (wrong_F (mS m) rfl v) ?_⟩
    unfold asrt
    rw [hlen, if_neg hv, if_neg hv]
    exact yes rfl rfl
def pushM (m : M) : M := ⟨m.level + 1, m.changes, m.limits⟩
theorem Push_F {m : M} {K : Nat} (h : m.ok K) (hK : K < 925904528652) : bounds_Store_Push.F (mS m) () = some ((), (), mS (pushM m)) := by
  refine bounds_Store_Push.of (mS m) _ fun G => ⟨0, st (is_F (mS m)) (yes rfl ?_)⟩
  have := h.lev
  have e : IntKind.i64.wrap (m.level + 1) = m.level + 1 := wrap_ok (by omega) (by omega)
  show some (((), (), ((IntKind.i64.wrap (m.level + 1), m.changes.map cI), (true, m.limits.map lI))), G.b, ([] : List Value)) = _
  rw [e]; rfl
def growM (m : M) : M × Int × Int := if m.limits.length = 65536 then (m, 0, 2) else (⟨m.level, m.changes, m.limits ++ [(none, none)]⟩, (m.limits.length : Int), 0)
theorem GrowM_F {m : M} {K : Nat} (h : m.ok K) : bounds_Store_Grow.F (mS m) () = some ((), ((growM m).2.1, (growM m).2.2, ()), mS (growM m).1) := by
  have hlen : (mS m).2.2.length = m.limits.length := List.length_map ..
  rw [Grow_F (d := mS m) rfl (by rw [hlen]; exact h.nl)]
  unfold growS growM
  rw [hlen]
  by_cases h6 : m.limits.length = 65536
  · rw [if_pos h6, if_pos h6]
  · rw [if_neg h6, if_neg h6]
    show some ((), (((m.limits.length : Int), (0 : Int), ())), ((m.level, m.changes.map cI), (true, m.limits.map lI ++ [zt68]))) = some ((), (((m.limits.length : Int), (0 : Int), ())), ((m.level, m.changes.map cI), (true, (m.limits ++ [(none, none)]).map lI)))
    rw [List.map_append]; rfl
theorem copied_F {b : AB} (hb : Bk b) : bounds_copied.F (bI b, ()) = some (bI b, ()) := by
  refine bounds_copied.of 0 _ ?_
  unfold bounds_copied.e
  match b, hb with
  | none, _ => exact yes rfl rfl
  | some (x, w), hb => exact no rfl (st ((hb x w rfl).Norm_F (by decide)) rfl)
theorem copiedLimit_F {l : AL} (h1 : Bk l.1) (h2 : Bk l.2) : bounds_copiedLimit.F (lI l, ()) = some (lI l, ()) :=
  bounds_copiedLimit.of 0 _ (st (copied_F h1) (st (copied_F h2) rfl))
def limM (m : M) (v : Int) : AL × Int := if 0 ≤ v ∧ v < m.limits.length then (m.limits.getD v.toNat (none, none), 0) else ((none, none), 61)
theorem Limit_F {m : M} {K : Nat} (h : m.ok K) (v : Int) : bounds_Store_Limit.F (mS m) (v, ()) = some ((), (lI (limM m v).1, (limM m v).2, ()), mS m) := by
  have hlen : (mS m).2.2.length = m.limits.length := List.length_map ..
  refine bounds_Store_Limit.of (mS m) v _ fun G => ⟨0, st (wrong_F (mS m) rfl v) ?_⟩
  unfold limM
  by_cases hv : 0 ≤ v ∧ v < m.limits.length
  · rw [hlen, if_pos hv, if_pos hv]
    refine no rfl (yes (in_range hv) ?_)
    have hb := lims_at h hv
    have hg : List.getD (mS m).2.2 v.toNat zt68 = lI (m.limits.getD v.toNat (none, none)) := getD_map
    dsimp only
    have key := copiedLimit_F hb.1 hb.2
    rw [← hg] at key ⊢
    exact st key rfl
  · rw [hlen, if_neg hv, if_neg hv]
    exact yes rfl rfl
def undo (k : Int) : List AC → List AL → List AC × List AL
  | [], l => ([], l)
  | c :: r, l => if c.2.2.1 ≤ k then (c :: r, l) else undo k r (l.set c.1.toNat (put c.2.1 (l.getD c.1.toNat (none, none)) c.2.2.2))
def backM (m : M) (k : Int) : M × Int :=
  if k < 0 ∨ m.level < k then (m, 80) else (⟨k, (undo k m.changes.reverse m.limits).1.reverse, (undo k m.changes.reverse m.limits).2⟩, 0)
noncomputable def nxt (k : Int) : List AC → Dt70 × Bool × List AC
  | [] => (zt70, false, [])
  | c :: r => if c.2.2.1 ≤ k then (zt70, false, c :: r) else (cI c, true, r)
theorem nxt_le {k : Int} {c : AC} {r : List AC} (h : c.2.2.1 ≤ k) : nxt k (c :: r) = (zt70, false, c :: r) := if_pos h
theorem nxt_gt {k : Int} {c : AC} {r : List AC} (h : ¬c.2.2.1 ≤ k) : nxt k (c :: r) = (cI c, true, r) := if_neg h
theorem undo_le {k : Int} {c : AC} {r : List AC} {l : List AL} (h : c.2.2.1 ≤ k) : undo k (c :: r) l = (c :: r, l) := if_pos h
theorem undo_gt {k : Int} {c : AC} {r : List AC} {l : List AL} (h : ¬c.2.2.1 ≤ k) : undo k (c :: r) l = undo k r (l.set c.1.toNat (put c.2.1 (l.getD c.1.toNat (none, none)) c.2.2.2)) := if_neg h
theorem getD_last {r : List AC} {c : AC} : List.getD (((c :: r).reverse).map cI) r.length zt70 = cI c := by
  rw [List.getD_eq_getElem?_getD, List.reverse_cons, List.map_append, List.getElem?_append_right (by simp)]
  simp
theorem take_last {r : List AC} {c : AC} : List.take r.length (((c :: r).reverse).map cI) = (r.reverse).map cI := by
  rw [List.reverse_cons, List.map_append, List.take_append_of_le_length (by simp), List.take_of_length_le (by simp)]
theorem last_F (lev k : Int) (r : List AC) (hr : r.length < 900000000000) : bounds_trail_last.F (lev, (r.reverse).map cI) (k, ()) = some ((), ((nxt k r).1, (nxt k r).2.1, ()), (lev, ((nxt k r).2.2.reverse).map cI)) := by
  refine bounds_trail_last.of (lev, (r.reverse).map cI) k _ fun G => ⟨0, ?_⟩
  have hlen : (((r.reverse).map cI).length : Int) = r.length := by simp
  unfold bounds_trail_last.e
  simp only [hlen]
  match r, hr, hlen with
  | [], hr, hlen => exact yes rfl rfl
  | c :: r, hr, hlen =>
    have hr : r.length + 1 < 900000000000 := hr
    have e : IntKind.i64.wrap (((c :: r).length : Int) - 1) = (r.length : Int) := by
      rw [show ((c :: r).length : Int) - 1 = (r.length : Int) by simp]
      exact wrap_ok (by omega) (by omega)
    rw [e]
    have hin : (decide (0 ≤ (r.length : Int)) && decide ((r.length : Int) < ((c :: r).length : Int))) = true := by simp <;> omega
    refine no (decide_eq_false (by omega)) (yes hin ?_)
    simp only [Int.toNat_natCast, getD_last, take_last]
    by_cases hk : c.2.2.1 ≤ k
    · rw [nxt_le hk]
      exact yes (decide_eq_true hk) rfl
    · rw [nxt_gt hk]
      exact no (decide_eq_false hk) (yes hin (yes (by simp <;> omega) rfl))
noncomputable def LB (K : Nat) (g : Nat) (lev : Int) (cs : List Dt70) (ls : List Dt68) (k : Int) (c : Dt70) (ok : Bool) : Option ((Unit × (Int × Unit) × Dt81) × Nat × List Value) :=
  bounds_Store_Back.L6 K g lev cs true ls k c.1 c.2.1 c.2.2.1 c.2.2.2.1 c.2.2.2.2.1.1.1.1 c.2.2.2.2.1.1.1.2 c.2.2.2.2.1.1.2 c.2.2.2.2.1.2.1.1 c.2.2.2.2.1.2.1.2 c.2.2.2.2.1.2.2 c.2.2.2.2.2 ok
theorem LB_stop (K g : Nat) (lev : Int) (cs : List Dt70) (ls : List Dt68) (k : Int) (c : Dt70) : LB (K + 1) g lev cs ls k c false = some (((), (0, ()), ((k, cs), (true, ls))), g, []) := by
  unfold LB
  rw [bounds_Store_Back.L6_succ]
  unfold bounds_Store_Back.b6
  exact no rfl rfl
theorem LB_step (K g : Nat) (lev : Int) (cs : List Dt70) (ls : List AL) (k : Int) (c : AC) (hc : 0 ≤ c.1 ∧ c.1 < ls.length) {y : Dt70} {b : Bool} {cs' : List Dt70}
    (hl : bounds_trail_last.F (lev, cs) (k, ()) = some ((), (y, b, ()), (lev, cs'))) :
    LB (K + 1) g lev cs (ls.map lI) k (cI c) true = LB K g lev cs' ((ls.set c.1.toNat (put c.2.1 (ls.getD c.1.toNat (none, none)) c.2.2.2)).map lI) k y b := by
  unfold LB
  rw [bounds_Store_Back.L6_succ]
  unfold bounds_Store_Back.b6
  have hlen : ((ls.map lI).length : Int) = ls.length := by simp
  have hg : List.getD (ls.map lI) c.1.toNat zt68 = lI (ls.getD c.1.toNat (none, none)) := getD_map
  obtain ⟨v, up, l, was⟩ := c
  refine yes rfl ?_
  have hin : (decide (0 ≤ v) && decide (v < ((ls.map lI).length : Int))) = true := by rw [hlen]; exact in_range hc
  cases up with
  | true =>
    refine yes rfl (yes hin (st hl ?_))
    rw [← set_map]
    dsimp only at hg
    show bounds_Store_Back.L6 K g lev cs' true (List.set (ls.map lI) v.toNat ((List.getD (ls.map lI) v.toNat zt68).1, bI was)) k _ _ _ _ _ _ _ _ _ _ _ _ = _
    rw [hg]; rfl
  | false =>
    refine no rfl (yes hin (st hl ?_))
    rw [← set_map]
    dsimp only at hg
    show bounds_Store_Back.L6 K g lev cs' true (List.set (ls.map lI) v.toNat (bI was, (List.getD (ls.map lI) v.toNat zt68).2)) k _ _ _ _ _ _ _ _ _ _ _ _ = _
    rw [hg]; rfl
theorem LB_all (g : Nat) (lev k : Int) : ∀ (r : List AC) (ls : List AL), r.length < 900000000000 → (∀ c ∈ r, 0 ≤ c.1 ∧ c.1 < ls.length) →
    ∃ j, ∀ K, LB (K + j) g lev (((nxt k r).2.2.reverse).map cI) (ls.map lI) k (nxt k r).1 (nxt k r).2.1 = some (((), (0, ()), ((k, ((undo k r ls).1.reverse).map cI), (true, (undo k r ls).2.map lI))), g, [])
  | [], ls, _, _ => ⟨1, fun K => LB_stop K g lev _ _ k _⟩
  | c :: r, ls, hr, hc => by
    by_cases hk : c.2.2.1 ≤ k
    · rw [nxt_le hk, undo_le hk]
      exact ⟨1, fun K => LB_stop K g lev _ _ k _⟩
    · rw [nxt_gt hk, undo_gt hk]
      have hr : r.length + 1 < 900000000000 := hr
      obtain ⟨j, hj⟩ := LB_all g lev k r (ls.set c.1.toNat (put c.2.1 (ls.getD c.1.toNat (none, none)) c.2.2.2)) (by omega) fun d hd => by
        rw [List.length_set]; exact hc d (List.mem_cons_of_mem _ hd)
      refine ⟨j + 1, fun K => ?_⟩
      rw [← Nat.add_assoc, LB_step (K + j) g lev _ ls k c (hc c (List.mem_cons_self ..)) (last_F lev k r (by omega))]
      exact hj K
theorem Back_F {m : M} {K : Nat} (h : m.ok K) (hK : K < 900000000000) (k : Int) : bounds_Store_Back.F (mS m) (k, ()) = some ((), ((backM m k).2, ()), mS (backM m k).1) := by
  have hr : m.changes.reverse.length < 900000000000 := by rw [List.length_reverse]; have := h.nc; omega
  have hc : ∀ c ∈ m.changes.reverse, 0 ≤ c.1 ∧ c.1 < m.limits.length := fun c hc => (h.chg c (List.mem_reverse.1 hc)).2
  refine bounds_Store_Back.of (mS m) k _ fun G => ?_
  obtain ⟨j, hj⟩ := LB_all G.b m.level k m.changes.reverse m.limits hr hc
  refine ⟨0 + j, st (is_F (mS m)) (no rfl ?_)⟩
  unfold backM
  by_cases h1 : k < 0
  · rw [if_pos (.inl h1)]; exact yes (decide_eq_true h1) rfl
  refine no (decide_eq_false h1) ?_
  by_cases h2 : m.level < k
  · rw [if_pos (.inr h2)]; exact yes (decide_eq_true h2) rfl
  refine no (decide_eq_false h2) ?_
  rw [if_neg (by omega)]
  have hl := last_F m.level k m.changes.reverse hr
  rw [List.reverse_reverse] at hl
  exact st hl (hj 0)
theorem bdn_id (b : AB) : bdn id (bI b) = bI b := by cases b <;> rfl
theorem lin_id (l : AL) : lin id (lI l) = lI l := by unfold lin lI; rw [bdn_id, bdn_id]
theorem chn_id (c : AC) : chn id (cI c) = cI c := by unfold chn cI; rw [bdn_id]
theorem stn_id (m : M) : stn id (mR m) = mR m := by
  unfold stn mR
  simp only [List.map_map]
  have e1 : (lin id ∘ lI) = lI := funext lin_id
  have e2 : (chn id ∘ cI) = cI := funext chn_id
  rw [e1, e2]
theorem NB_id {b : AB} (h : Bk b) : NB id (bI b) := by
  intro hb
  match b, h with
  | some (x, w), h => exact (h x w rfl).rNorm_F (by decide)
theorem okL {m : M} {K : Nat} (h : m.ok K) : ∀ l ∈ (mR m).1, NB id l.1 ∧ NB id l.2 := by
  intro l hl
  obtain ⟨a, ha, rfl⟩ := List.mem_map.1 hl
  exact ⟨NB_id (h.lims a ha).1, NB_id (h.lims a ha).2⟩
theorem okC {m : M} {K : Nat} (h : m.ok K) : ∀ c ∈ (mR m).2.2, NB id c.2.2.2 := by
  intro c hc
  obtain ⟨a, ha, rfl⟩ := List.mem_map.1 hc
  exact NB_id (h.chg a ha).1
theorem lenL (m : M) : (mR m).1.length = m.limits.length := List.length_map ..
theorem lenC (m : M) : (mR m).2.2.length = m.changes.length := List.length_map ..
theorem CopyM_F {m : M} {K : Nat} (h : m.ok K) (hK : K < 900000000000) : r08_Copy.F (mR m, ()) = some (mR m, ()) := by
  rw [Copy_F (okL h) (okC h) (by rw [lenL]; exact h.nl) (by rw [lenC]; have := h.nc; omega), stn_id]
theorem RGrowM_F {m : M} {K : Nat} (h : m.ok K) (hK : K < 900000000000) : r08_Grow.F (mR m, ()) = some (mR (growM m).1, (growM m).2.1, (growM m).2.2, ()) := by
  rw [RGrow_F (okL h) (okC h) (by rw [lenL]; exact h.nl) (by rw [lenC]; have := h.nc; omega)]
  unfold growR growM
  rw [lenL, stn_id]
  by_cases h6 : m.limits.length = 65536
  · rw [if_pos h6, if_pos h6]
  · rw [if_neg h6, if_neg h6]
    show some (((m.limits.map lI ++ [zt68], (mR m).2)), (m.limits.length : Int), (0 : Int), ()) = some ((((m.limits ++ [(none, none)]).map lI, (mR m).2)), (m.limits.length : Int), (0 : Int), ())
    rw [List.map_append]; rfl
theorem RPush_F {m : M} {K : Nat} (h : m.ok K) (hK : K < 900000000000) : r08_Push.F (mR m, ()) = some (mR (pushM m), ()) := by
  refine r08_Push.of 0 (mR m) (st (CopyM_F h hK) ?_)
  have := h.lev
  have e : IntKind.i64.wrap (m.level + 1) = m.level + 1 := wrap_ok (by omega) (by omega)
  show some ((m.limits.map lI, (IntKind.i64.wrap (m.level + 1), m.changes.map cI)), ()) = _
  rw [e]; rfl
theorem Is_F (s : Dt32) (v : Int) : r08_Is.F (s, v, ()) = some (decide (0 ≤ v ∧ v < s.1.length), ()) := by
  refine r08_Is.of 0 s v ?_
  unfold r08_Is.e
  by_cases h : v ≥ 0
  · refine yes (decide_eq_true h) ?_
    show some (decide (v < s.1.length), ()) = _
    congr 2
    exact decide_eq_decide.2 ⟨fun g => ⟨h, g⟩, fun g => g.2⟩
  · refine no (decide_eq_false h) ?_
    rw [decide_eq_false (by omega)]
theorem tighter_F (up : Bool) {a : Dt44} {x y : Q2} (ha : Dn a x SZ) (hy : Dn (dcan y) y SZ) : r08_tighter.F (up, a, dcan y, ()) = some (tb up x y, ()) := by
  refine r08_tighter.of 0 up a (dcan y) ?_
  unfold r08_tighter.e
  cases up with
  | true => exact yes rfl (st (ha.rCmp_F hy (by decide)) rfl)
  | false => exact no rfl (st (ha.rCmp_F hy (by decide)) rfl)
def own' (up : Bool) (l : Dt68) : Dt66 := bif up then l.2 else l.1
def oth' (up : Bool) (l : Dt68) : Dt66 := bif up then l.1 else l.2
def put' (up : Bool) (l : Dt68) (b : Dt66) : Dt68 := bif up then (l.1, b) else (b, l.2)
theorem Assert_gen (s : Dt32) (v : Int) (up : Bool) (a : Dt44) (w : Int) (t1 t2 : Bool) (n : Dt44) (hv : 0 ≤ v ∧ v < s.1.length) (hn : s.2.2.length < 925904528652) (hc : r08_Copy.F (s, ()) = some (s, ()))
    (h1 : (own' up (List.getD s.1 v.toNat zt68)).1 = true → r08_tighter.F (up, a, (own' up (List.getD s.1 v.toNat zt68)).2.1, ()) = some (t1, ()))
    (h2 : (oth' up (List.getD s.1 v.toNat zt68)).1 = true → r08_tighter.F (up, a, (oth' up (List.getD s.1 v.toNat zt68)).2.1, ()) = some (t2, ())) (h3 : r05_Norm.F (a, ()) = some (n, ())) :
    r08_Assert.F (s, v, up, a, w, ()) = some (if (own' up (List.getD s.1 v.toNat zt68)).1 = true ∧ t1 = false then (s, (0, 0), 0, ())
      else if (oth' up (List.getD s.1 v.toNat zt68)).1 = true ∧ t2 = true then (s, (2, (oth' up (List.getD s.1 v.toNat zt68)).2.2), 0, ())
      else ((List.set s.1 v.toNat (put' up (List.getD s.1 v.toNat zt68) (true, n, w)), (s.2.1, s.2.2 ++ [(v, up, s.2.1, own' up (List.getD s.1 v.toNat zt68))])), (1, 0), 0, ())) := by
  refine r08_Assert.of 0 s v up a w ?_
  refine st (Is_F s v) (no (by rw [decide_eq_true hv]; rfl) (yes (in_range hv) (yes (in_range hv) ?_)))
  have hlen : decide (List.length s.2.2 + 1 < 925904528653) = true := decide_eq_true (by omega)
  cases up with
  | true =>
    refine yes rfl ?_
    dsimp only [own', oth', cond_true] at h1 h2
    by_cases g1 : (List.getD s.1 v.toNat zt68).2.1 = true
    · refine yes g1 (st (h1 g1) ?_)
      cases t1 with
      | false => rw [if_pos ⟨g1, rfl⟩]; exact yes rfl rfl
      | true =>
        rw [if_neg fun h => by cases h.2]
        refine no rfl ?_
        by_cases g2 : (List.getD s.1 v.toNat zt68).1.1 = true
        · refine yes g2 (st (h2 g2) ?_)
          cases t2 with
          | true => rw [if_pos ⟨g2, rfl⟩]; exact yes rfl rfl
          | false =>
            rw [if_neg fun h => by cases h.2]
            exact no rfl (st hc (yes hlen (st h3 (yes rfl (yes (in_range hv) rfl)))))
        · refine no (Bool.eq_false_iff.2 g2) ?_
          rw [if_neg fun h => g2 h.1]
          exact st hc (yes hlen (st h3 (yes rfl (yes (in_range hv) rfl))))
    · refine no (Bool.eq_false_iff.2 g1) ?_
      rw [if_neg fun h => g1 h.1]
      by_cases g2 : (List.getD s.1 v.toNat zt68).1.1 = true
      · refine yes g2 (st (h2 g2) ?_)
        cases t2 with
        | true => rw [if_pos ⟨g2, rfl⟩]; exact yes rfl rfl
        | false =>
          rw [if_neg fun h => by cases h.2]
          exact no rfl (st hc (yes hlen (st h3 (yes rfl (yes (in_range hv) rfl)))))
      · refine no (Bool.eq_false_iff.2 g2) ?_
        rw [if_neg fun h => g2 h.1]
        exact st hc (yes hlen (st h3 (yes rfl (yes (in_range hv) rfl))))
  | false =>
    refine no rfl ?_
    dsimp only [own', oth', cond_false] at h1 h2
    by_cases g1 : (List.getD s.1 v.toNat zt68).1.1 = true
    · refine yes g1 (st (h1 g1) ?_)
      cases t1 with
      | false => rw [if_pos ⟨g1, rfl⟩]; exact yes rfl rfl
      | true =>
        rw [if_neg fun h => by cases h.2]
        refine no rfl ?_
        by_cases g2 : (List.getD s.1 v.toNat zt68).2.1 = true
        · refine yes g2 (st (h2 g2) ?_)
          cases t2 with
          | true => rw [if_pos ⟨g2, rfl⟩]; exact yes rfl rfl
          | false =>
            rw [if_neg fun h => by cases h.2]
            exact no rfl (st hc (yes hlen (st h3 (no rfl (yes (in_range hv) rfl)))))
        · refine no (Bool.eq_false_iff.2 g2) ?_
          rw [if_neg fun h => g2 h.1]
          exact st hc (yes hlen (st h3 (no rfl (yes (in_range hv) rfl))))
    · refine no (Bool.eq_false_iff.2 g1) ?_
      rw [if_neg fun h => g1 h.1]
      by_cases g2 : (List.getD s.1 v.toNat zt68).2.1 = true
      · refine yes g2 (st (h2 g2) ?_)
        cases t2 with
        | true => rw [if_pos ⟨g2, rfl⟩]; exact yes rfl rfl
        | false =>
          rw [if_neg fun h => by cases h.2]
          exact no rfl (st hc (yes hlen (st h3 (no rfl (yes (in_range hv) rfl)))))
      · refine no (Bool.eq_false_iff.2 g2) ?_
        rw [if_neg fun h => g2 h.1]
        exact st hc (yes hlen (st h3 (no rfl (yes (in_range hv) rfl))))
theorem own_I (up : Bool) (l : AL) : own' up (lI l) = bI (own up l) := by cases up <;> rfl
theorem oth_I (up : Bool) (l : AL) : oth' up (lI l) = bI (oth up l) := by cases up <;> rfl
theorem put_I (up : Bool) (l : AL) (x : Q2) (w : Int) : put' up (lI l) (true, dcan x, w) = lI (put up l (some (x, w))) := by cases up <;> rfl
def tbB (up : Bool) (b : AB) (x : Q2) : Bool := match b with
  | none => false
  | some (y, _) => tb up x y
theorem tbB_F (up : Bool) {a : Dt44} {x : Q2} (ha : Dn a x SZ) {b : AB} (hb : Bk b) (h : (bI b).1 = true) : r08_tighter.F (up, a, (bI b).2.1, ()) = some (tbB up b x, ()) := by
  match b, hb with
  | some (y, w), hb => exact tighter_F up ha (hb y w rfl)
theorem Assert_F {m : M} {K : Nat} (h : m.ok K) (hK : K < 900000000000) (up : Bool) (v : Int) {a : Dt44} {x : Q2} (ha : Dn a x SZ) (w : Int) :
    r08_Assert.F (mR m, v, up, a, w, ()) = some (mR (asrt up m v x w).1, (asrt up m v x w).2.1, (asrt up m v x w).2.2, ()) := by
  by_cases hv : 0 ≤ v ∧ v < m.limits.length
  · have hb := lims_at h hv
    have hg : List.getD (mR m).1 v.toNat zt68 = lI (m.limits.getD v.toNat (none, none)) := getD_map
    have ho : Bk (own up (m.limits.getD v.toNat (none, none))) ∧ Bk (oth up (m.limits.getD v.toNat (none, none))) := by
      cases up
      · exact hb
      · exact ⟨hb.2, hb.1⟩
    have key := Assert_gen (mR m) v up a w _ _ _ (by rw [lenL]; exact hv) (by rw [lenC]; have := h.nc; omega) (CopyM_F h hK)
      (by rw [hg, own_I]; exact tbB_F up ha ho.1) (by rw [hg, oth_I]; exact tbB_F up ha ho.2) (ha.rNorm_F (by decide))
    rw [key, hg, own_I, oth_I, put_I]
    unfold asrt
    rw [if_pos hv]
    generalize m.limits.getD v.toNat (none, none) = l at hb hg ho ⊢
    have e1 : ((bI (own up l)).1 = true ∧ tbB up (own up l) x = false) ↔ kept up (own up l) x = true := by
      match own up l with
      | none => simp [bI, kept, zt66]
      | some (y, u) => simp [bI, kept, tbB]
    have e2 : ((bI (oth up l)).1 = true ∧ tbB up (oth up l) x = true) ↔ clash up (oth up l) x = true := by
      match oth up l with
      | none => simp [bI, clash, zt66]
      | some (y, u) => simp [bI, clash, tbB, tb_swap]
    by_cases hk : kept up (own up l) x = true
    · rw [if_pos (e1.2 hk), if_pos hk]
    · rw [if_neg (fun g => hk (e1.1 g)), if_neg hk]
      by_cases hc : clash up (oth up l) x = true
      · rw [if_pos (e2.2 hc), if_pos hc, why_bI]
      · rw [if_neg (fun g => hc (e2.1 g)), if_neg hc]
        have e3 : (mR m).1 = m.limits.map lI := rfl
        rw [e3, set_map]
        show some ((_, (m.level, m.changes.map cI ++ [cI (v, up, m.level, own up l)])), _) = some ((_, (m.level, (m.changes ++ [(v, up, m.level, own up l)]).map cI)), _)
        rw [List.map_append]; rfl
  · refine r08_Assert.of 0 (mR m) v up a w (st (Is_F (mR m) v) ?_)
    unfold asrt
    rw [if_neg hv]
    exact yes (by rw [decide_eq_false (by rw [lenL]; exact hv)]; rfl) rfl
theorem undo_F (lev : Int) (ls : List AL) (c : AC) (r : List AC) (hr : r.length < 900000000000) (hc : 0 ≤ c.1 ∧ c.1 < ls.length) :
    r08_undo.F () ((ls.map lI, (lev, ((c :: r).reverse).map cI)), ()) = some ((), (((ls.set c.1.toNat (put c.2.1 (ls.getD c.1.toNat (none, none)) c.2.2.2)).map lI, (lev, (r.reverse).map cI)), ()), ()) := by
  refine r08_undo.of () _ _ fun G => ⟨0, ?_⟩
  have hlen : ((((c :: r).reverse).map cI).length : Int) = (c :: r).length := by simp
  have e : IntKind.i64.wrap (((c :: r).length : Int) - 1) = (r.length : Int) := by
    rw [show ((c :: r).length : Int) - 1 = (r.length : Int) by simp]
    exact wrap_ok (by omega) (by omega)
  have hin : (decide (0 ≤ (r.length : Int)) && decide ((r.length : Int) < ((c :: r).length : Int))) = true := by simp <;> omega
  unfold r08_undo.e
  simp only [hlen, e, Int.toNat_natCast, getD_last, take_last]
  refine yes hin (yes (by simp <;> omega) ?_)
  have hll : ((ls.map lI).length : Int) = ls.length := by simp
  have hg : List.getD (ls.map lI) c.1.toNat zt68 = lI (ls.getD c.1.toNat (none, none)) := getD_map
  have hi : (decide (0 ≤ c.1) && decide (c.1 < ((ls.map lI).length : Int))) = true := by rw [hll]; exact in_range hc
  obtain ⟨v, up, l, was⟩ := c
  cases up with
  | true =>
    refine yes rfl (yes hi ?_)
    rw [← set_map]
    show some (((), ((List.set (ls.map lI) v.toNat ((List.getD (ls.map lI) v.toNat zt68).1, bI was), (lev, (r.reverse).map cI)), ()), ()), 0, ([] : List Value)) = _
    rw [hg]; rfl
  | false =>
    refine no rfl (yes hi ?_)
    rw [← set_map]
    show some (((), ((List.set (ls.map lI) v.toNat (bI was, (List.getD (ls.map lI) v.toNat zt68).2), (lev, (r.reverse).map cI)), ()), ()), 0, ([] : List Value)) = _
    rw [hg]; rfl
theorem RB_all (k z : Int) : ∀ (r : List AC) (ls : List AL) (lev : Int), r.length < 900000000000 → (∀ c ∈ r, 0 ≤ c.1 ∧ c.1 < ls.length) →
    ∃ j, ∀ K, r08_Back.L4 (K + j) k z (ls.map lI) lev ((r.reverse).map cI) = some (((undo k r ls).2.map lI, (k, ((undo k r ls).1.reverse).map cI)), 0, ())
  | [], ls, lev, _, _ => ⟨1, fun K => by
    rw [r08_Back.L4_succ]
    unfold r08_Back.b4
    exact no rfl rfl⟩
  | c :: r, ls, lev, hr, hc => by
    have hr : r.length + 1 < 900000000000 := hr
    have hlen : ((((c :: r).reverse).map cI).length : Int) = (c :: r).length := by simp
    have e : IntKind.i64.wrap (((c :: r).length : Int) - 1) = (r.length : Int) := by
      rw [show ((c :: r).length : Int) - 1 = (r.length : Int) by simp]
      exact wrap_ok (by omega) (by omega)
    have hin : (decide (0 ≤ (r.length : Int)) && decide ((r.length : Int) < ((c :: r).length : Int))) = true := by simp <;> omega
    have step : ∀ K, r08_Back.L4 (K + 1) k z (ls.map lI) lev (((c :: r).reverse).map cI) = if c.2.2.1 ≤ k then some ((ls.map lI, (k, ((c :: r).reverse).map cI)), 0, ()) else
        r08_Back.L4 K k z ((ls.set c.1.toNat (put c.2.1 (ls.getD c.1.toNat (none, none)) c.2.2.2)).map lI) lev ((r.reverse).map cI) := by
      intro K
      rw [r08_Back.L4_succ]
      unfold r08_Back.b4
      simp only [hlen, e, Int.toNat_natCast, getD_last]
      refine yes (decide_eq_true (by simp <;> omega)) (yes hin ?_)
      by_cases hk : c.2.2.1 ≤ k
      · rw [if_pos hk]
        exact no (decide_eq_false (by show ¬ c.2.2.1 > k; omega)) rfl
      · rw [if_neg hk]
        exact yes (decide_eq_true (by show c.2.2.1 > k; omega)) (st (undo_F lev ls c r (by omega) (hc c (List.mem_cons_self ..))) rfl)
    by_cases hk : c.2.2.1 ≤ k
    · rw [undo_le hk]
      exact ⟨1, fun K => by rw [step, if_pos hk]⟩
    · rw [undo_gt hk]
      obtain ⟨j, hj⟩ := RB_all k z r (ls.set c.1.toNat (put c.2.1 (ls.getD c.1.toNat (none, none)) c.2.2.2)) lev (by omega) fun d hd => by
        rw [List.length_set]; exact hc d (List.mem_cons_of_mem _ hd)
      exact ⟨j + 1, fun K => by rw [← Nat.add_assoc, step, if_neg hk]; exact hj K⟩
theorem RBack_F {m : M} {K : Nat} (h : m.ok K) (hK : K < 900000000000) (k : Int) : r08_Back.F (mR m, k, ()) = some (mR (backM m k).1, (backM m k).2, ()) := by
  have hr : m.changes.reverse.length < 900000000000 := by rw [List.length_reverse]; have := h.nc; omega
  have hc : ∀ c ∈ m.changes.reverse, 0 ≤ c.1 ∧ c.1 < m.limits.length := fun c hc => (h.chg c (List.mem_reverse.1 hc)).2
  obtain ⟨j, hj⟩ := RB_all k 0 m.changes.reverse m.limits m.level hr hc
  refine r08_Back.of (0 + j) (mR m) k ?_
  unfold r08_Back.e backM
  by_cases h1 : k < 0
  · rw [if_pos (.inl h1)]; exact yes (decide_eq_true h1) rfl
  refine no (decide_eq_false h1) ?_
  by_cases h2 : m.level < k
  · rw [if_pos (.inr h2)]; exact yes (decide_eq_true h2) rfl
  refine no (decide_eq_false h2) ?_
  rw [if_neg (by omega)]
  refine st (CopyM_F h hK) ?_
  have := hj 0
  rw [List.reverse_reverse] at this
  exact this
end Go.Fx.Tryz
