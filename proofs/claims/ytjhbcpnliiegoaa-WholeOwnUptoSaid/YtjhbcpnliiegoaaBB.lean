/- WholeOwn: copies, and numbers with room behind them. -/
import Derived.Test.YtjhbcpnliiegoaaNC
import Derived.Test.YtjhbcpnliiegoaaW02h
import Derived.Test.YtjhbcpnliiegoaaAA
import Derived.Test.YtjhbcpnliiegoaaBA
import Derived.Test.YtjhbcpnliiegoaaEv31
namespace Go.Fx.Try
open Go Go.Fx Go.Fx.Num
set_option linter.unusedVariables false
set_option linter.unusedSimpArgs false
theorem take_more {α : Type} (xs : List α) (d : α) {i : Nat} (h : i < xs.length) : List.append (xs.take i) [xs.getD i d] = xs.take (i + 1) := by
  rw [List.getD_eq_getElem?_getD, List.getElem?_eq_getElem h]
  show xs.take i ++ [xs[i]] = _
  rw [List.take_append_getElem]
theorem memNat_F (xs : List Int) (hl : xs.length < 35184372088000) : fulcrummem_Nat.F (xs, ()) = some (xs, ()) := by
  obtain ⟨j, hj⟩ := up (fun k (s : Nat × List Int) => fulcrummem_Nat.L3 k xs s.2 (s.1 : Int)) (xs, ()) (fun i s => s = xs.take i) xs.length
    (fun i s hi hs => ⟨xs.take (i + 1), rfl, 1, fun k => by
      subst hs
      have hl2 : (xs.take i).length = i := by rw [List.length_take]; omega
      simp (disch := omega) only [c_dec, c_beq, c_bne, c_and, c_or, c_not, blt_dec, up1, dn1, if_t, if_f, if_true, if_false, Int.toNat_natCast, Option.bind_some, fulcrummem_Nat.L3_succ, fulcrummem_Nat.b3, hl2, List.length_singleton, take_more xs 0 hi]⟩)
    (fun s hs => ⟨1, fun k => by
      subst hs
      simp (disch := omega) only [c_dec, c_beq, c_bne, c_and, c_or, c_not, blt_dec, up1, dn1, if_t, if_f, if_true, if_false, Int.toNat_natCast, Option.bind_some, fulcrummem_Nat.L3_succ, fulcrummem_Nat.b3, List.take_length]⟩) 0 [] (Nat.zero_le _) rfl
  exact fulcrummem_Nat.of (0 + j) xs (hj 0)
theorem memInt_F (p : Bool × List Int) (hl : p.2.length < 35184372088000) : fulcrummem_Int.F (p, ()) = some (p, ()) := by
  refine fulcrummem_Int.of 0 p ?_
  simp only [fulcrummem_Int.e, memNat_F p.2 hl, Option.bind_some]
theorem ints_F (zs : List (Bool × List Int)) (hl : zs.length < 4398046511000) (hz : ∀ z ∈ zs, z.2.length < 35184372088000) : fulcrumlaw02_ints.F (zs, ()) = some (zs, ()) := by
  obtain ⟨j, hj⟩ := up (fun k (s : Nat × List (Bool × List Int)) => fulcrumlaw02_ints.L3 k zs s.2 (s.1 : Int)) (zs, ()) (fun i s => s = zs.take i) zs.length
    (fun i s hi hs => ⟨zs.take (i + 1), rfl, 1, fun k => by
      subst hs
      have hl2 : (zs.take i).length = i := by rw [List.length_take]; omega
      have hg : (List.getD zs i (false, [])).2.length < 35184372088000 := by
        rw [List.getD_eq_getElem?_getD, List.getElem?_eq_getElem hi]; exact hz _ (List.getElem_mem hi)
      have hc := memInt_F ((List.getD zs i (false, [])).1, (List.getD zs i (false, [])).2) hg
      have ht : List.append (zs.take i) [((List.getD zs i (false, [])).1, (List.getD zs i (false, [])).2)] = zs.take (i + 1) := take_more zs (false, []) hi
      simp (disch := omega) only [c_dec, c_beq, c_bne, c_and, c_or, c_not, blt_dec, up1, dn1, if_t, if_f, if_true, if_false, Int.toNat_natCast, Option.bind_some, fulcrumlaw02_ints.L3_succ, fulcrumlaw02_ints.b3, zt25, hc, hl2, List.length_singleton, ht]⟩)
    (fun s hs => ⟨1, fun k => by
      subst hs
      simp (disch := omega) only [c_dec, c_beq, c_bne, c_and, c_or, c_not, blt_dec, up1, dn1, if_t, if_f, if_true, if_false, Int.toNat_natCast, Option.bind_some, fulcrumlaw02_ints.L3_succ, fulcrumlaw02_ints.b3, List.take_length]⟩) 0 [] (Nat.zero_le _) rfl
  exact fulcrumlaw02_ints.of (0 + j) zs (hj 0)
theorem hlists_F (hs : List (Bool × Value)) (hl : hs.length < 5864062014000) : Hd.fulcrumlaw02_lists.F (hs, ()) = some (hs.map (·.2), ()) := by
  obtain ⟨j, hj⟩ := up (fun k (s : Nat × List Value) => Hd.fulcrumlaw02_lists.L3 k hs s.2 (s.1 : Int)) (hs.map (·.2), ()) (fun i s => s = (hs.map (·.2)).take i) hs.length
    (fun i s hi hs' => ⟨(hs.map (·.2)).take (i + 1), rfl, 1, fun k => by
      subst hs'
      have hl2 : ((hs.map (·.2)).take i).length = i := by rw [List.length_take, List.length_map]; omega
      have ht : List.append ((hs.map (·.2)).take i) [(List.getD hs i Hd.zt25).2] = (hs.map (·.2)).take (i + 1) := by
        rw [← take_more (hs.map (·.2)) Hd.zt25.2 (by simpa using hi)]
        congr 2
        rw [List.getD_eq_getElem?_getD, List.getD_eq_getElem?_getD, List.getElem?_map]
        cases hs[i]? <;> rfl
      simp (disch := omega) only [c_dec, c_beq, c_bne, c_and, c_or, c_not, blt_dec, up1, dn1, if_t, if_f, if_true, if_false, Int.toNat_natCast, Option.bind_some, Hd.fulcrumlaw02_lists.L3_succ, Hd.fulcrumlaw02_lists.b3, hl2, List.length_singleton, ht]⟩)
    (fun s hs' => ⟨1, fun k => by
      subst hs'
      have ht : (hs.map (·.2)).take hs.length = hs.map (·.2) := by rw [List.take_of_length_le (by simp)]
      simp (disch := omega) only [c_dec, c_beq, c_bne, c_and, c_or, c_not, blt_dec, up1, dn1, if_t, if_f, if_true, if_false, Int.toNat_natCast, Option.bind_some, Hd.fulcrumlaw02_lists.L3_succ, Hd.fulcrumlaw02_lists.b3, ht]⟩) 0 [] (Nat.zero_le _) rfl
  exact Hd.fulcrumlaw02_lists.of (0 + j) hs (hj 0)
/-- The marks behind a number. -/
def room : List Int := (List.range 5).map fun (i : Nat) => IntKind.u32.wrap ((1515847680 : Int) + IntKind.u32.wrap (i : Int))
theorem Room_F (xs : List Int) (hl : xs.length < 35184372088000) : fulcrummem_Room.F (xs, ()) = some (xs, xs ++ room, ()) := by
  have h7 : ∃ j, ∀ k, fulcrummem_Room.L7 (k + j) xs xs 0 = some (xs, xs ++ room, ()) := by
    have h := up (fun k (s : Nat × List Int) => fulcrummem_Room.L7 k xs s.2 (s.1 : Int)) (xs, xs ++ room, ()) (fun i s => s = xs ++ room.take i) 5
      (fun i s hi hs => ⟨xs ++ room.take (i + 1), rfl, 1, fun k => by
        subst hs
        have hr : room.length = 5 := by simp [room]
        have hl2 : (xs ++ room.take i).length = xs.length + i := by rw [List.length_append, List.length_take]; omega
        have ht : List.append (xs ++ room.take i) [IntKind.u32.wrap ((1515847680 : Int) + IntKind.u32.wrap (i : Int))] = xs ++ room.take (i + 1) := by
          have := take_more room 0 (i := i) (by omega)
          rw [← this]
          have e : room.getD i 0 = IntKind.u32.wrap ((1515847680 : Int) + IntKind.u32.wrap (i : Int)) := by simp [room, hi]
          rw [e]
          show (xs ++ _) ++ _ = xs ++ (_ ++ _)
          rw [List.append_assoc]
        simp (disch := omega) only [c_dec, c_beq, c_bne, c_and, c_or, c_not, blt_dec, up1, dn1, if_t, if_f, if_true, if_false, Int.toNat_natCast, Option.bind_some, fulcrummem_Room.L7_succ, fulcrummem_Room.b7, hl2, List.length_singleton, ht]⟩)
      (fun s hs => ⟨1, fun k => by
        subst hs
        have hr : room.length = 5 := by simp [room]
        have ht : room.take 5 = room := by rw [List.take_of_length_le (by omega)]
        have hl2 : (xs ++ room).length = xs.length + 5 := by rw [List.length_append]; omega
        have e1 : (xs.length : Int) - 0 = (xs.length : Int) := by omega
        have e2 : Nat.ble (0 + xs.length) (xs.length + 5) = true := Nat.ble_eq_true_of_le (by omega)
        simp (disch := omega) only [c_dec, c_beq, c_bne, c_and, c_or, c_not, blt_dec, up1, dn1, if_t, if_f, if_true, if_false, Int.toNat_natCast, Option.bind_some, fulcrummem_Room.L7_succ, fulcrummem_Room.b7, ht, hl2, e1, Int.toNat_zero, e2, cond_true, List.drop_zero, List.take_left']⟩) 0 xs (Nat.zero_le _) (by simp)
    exact h
  obtain ⟨j7, h7⟩ := h7
  obtain ⟨t, ht, j, hj⟩ := upTo (fun k (s : Nat × List Int) => fulcrummem_Room.L3 k xs s.2 (s.1 : Int)) (fun k (_ : Unit) => fulcrummem_Room.L7 k xs xs 0) (fun i s => s = xs.take i) (fun _ => True) xs.length
    (fun i s hi hs => ⟨xs.take (i + 1), rfl, 1, fun k => by
      subst hs
      have hl2 : (xs.take i).length = i := by rw [List.length_take]; omega
      simp (disch := omega) only [c_dec, c_beq, c_bne, c_and, c_or, c_not, blt_dec, up1, dn1, if_t, if_f, if_true, if_false, Int.toNat_natCast, Option.bind_some, fulcrummem_Room.L3_succ, fulcrummem_Room.b3, hl2, List.length_singleton, take_more xs 0 hi]⟩)
    (fun s hs => ⟨(), trivial, 1, fun k => by
      subst hs
      simp (disch := omega) only [c_dec, c_beq, c_bne, c_and, c_or, c_not, blt_dec, up1, dn1, if_t, if_f, if_true, if_false, Int.toNat_natCast, Option.bind_some, fulcrummem_Room.L3_succ, fulcrummem_Room.b3, List.take_length]⟩) 0 [] (Nat.zero_le _) rfl
  refine fulcrummem_Room.of ((0 + j7) + j) xs ?_
  exact (hj (0 + j7)).trans (h7 0)
theorem Kept_F (xs : List Int) (hl : xs.length < 35184372088000) : fulcrummem_Kept.F (xs ++ room, xs, ()) = some (true, ()) := by
  have hr : room.length = 5 := by simp [room]
  have hl2 : (xs ++ room).length = xs.length + 5 := by rw [List.length_append]; omega
  have h9 : ∃ j, ∀ k, fulcrummem_Kept.L9 (k + j) (xs ++ room) xs 0 = some (true, ()) := by
    have h := up (fun k (s : Nat × Unit) => fulcrummem_Kept.L9 k (xs ++ room) xs (s.1 : Int)) (true, ()) (fun i s => True) 5
      (fun i s hi hs => ⟨(), trivial, 1, fun k => by
        have e0 : IntKind.i64.wrap ((xs.length : Int) + (i : Int)) = ((xs.length + i : Nat) : Int) := by rw [IntWalk.i64_in _ (by omega)]; omega
        have e1 : (xs ++ room).getD (xs.length + i) 0 = IntKind.u32.wrap ((1515847680 : Int) + IntKind.u32.wrap (i : Int)) := by
          rw [List.getD_eq_getElem?_getD, List.getElem?_append_right (by omega), Nat.add_sub_cancel_left]; simp [room, hi]
        simp (disch := omega) only [c_dec, c_beq, c_bne, c_and, c_or, c_not, blt_dec, up1, dn1, if_t, if_f, if_true, if_false, Int.toNat_natCast, Option.bind_some, ne_eq, not_true_eq_false, not_false_eq_true, fulcrummem_Kept.L9_succ, fulcrummem_Kept.b9, hl2, e0, e1]⟩)
      (fun s hs => ⟨1, fun k => by
        simp (disch := omega) only [c_dec, c_beq, c_bne, c_and, c_or, c_not, blt_dec, up1, dn1, if_t, if_f, if_true, if_false, Int.toNat_natCast, Option.bind_some, fulcrummem_Kept.L9_succ, fulcrummem_Kept.b9]⟩) 0 () (Nat.zero_le _) trivial
    exact h
  obtain ⟨j9, h9⟩ := h9
  obtain ⟨t, ht, j, hj⟩ := upTo (fun k (s : Nat × Unit) => fulcrummem_Kept.L4 k (xs ++ room) xs (s.1 : Int)) (fun k (_ : Unit) => fulcrummem_Kept.L9 k (xs ++ room) xs 0) (fun i s => True) (fun _ => True) xs.length
    (fun i s hi hs => ⟨(), trivial, 1, fun k => by
      have e1 : (xs ++ room).getD i 0 = xs.getD i 0 := by
        rw [List.getD_eq_getElem?_getD, List.getElem?_append_left hi, List.getD_eq_getElem?_getD]
      simp (disch := omega) only [c_dec, c_beq, c_bne, c_and, c_or, c_not, blt_dec, up1, dn1, if_t, if_f, if_true, if_false, Int.toNat_natCast, Option.bind_some, ne_eq, not_true_eq_false, not_false_eq_true, fulcrummem_Kept.L4_succ, fulcrummem_Kept.b4, hl2, e1]⟩)
    (fun s hs => ⟨(), trivial, 1, fun k => by
      simp (disch := omega) only [c_dec, c_beq, c_bne, c_and, c_or, c_not, blt_dec, up1, dn1, if_t, if_f, if_true, if_false, Int.toNat_natCast, Option.bind_some, fulcrummem_Kept.L4_succ, fulcrummem_Kept.b4]⟩) 0 () (Nat.zero_le _) trivial
  refine fulcrummem_Kept.of ((0 + j9) + j) (xs ++ room) xs ?_
  have e5 : IntKind.i64.wrap ((xs.length : Int) + 5) = ((xs.length + 5 : Nat) : Int) := by rw [IntWalk.i64_in _ (by omega)]; omega
  simp (disch := omega) only [c_dec, c_beq, c_bne, c_and, c_or, c_not, blt_dec, up1, dn1, if_t, if_f, if_true, if_false, Int.toNat_natCast, Option.bind_some, ne_eq, not_true_eq_false, not_false_eq_true, fulcrummem_Kept.e, hl2, e5]
  exact (hj (0 + j9)).trans (h9 0)
theorem one_F : fulcrumlaw02_one.F () = some (wc 1, ()) := by
  refine fulcrumlaw02_one.of 0 ?_
  simp only [fulcrumlaw02_one.e, pe, WOf_F (n := 1) (by decide), Option.bind_some]
theorem awake_F : fulcrumlaw02_awake.F () = some (true, ()) := by
  refine fulcrumlaw02_awake.of 0 ?_
  have w0 : Wn (wc 0) 0 2 := Wof_bound (by decide)
  have w1 : Wn (wc 1) 1 2 := Wof_bound (by decide)
  have w2 : Wn (wc 2) 2 2 := Wof_bound (by decide)
  simp only [fulcrumlaw02_awake.e, pe, one_F, WOf_F (n := 2) (by decide), WOf_F (n := 0) (by decide), w2.Cmp_F w1 (by decide), w1.Sign_F (by decide), w0.Sign_F (by decide), Option.bind_some]
  rfl
theorem Root_loop {x : Int} {n M : Nat} (nx : Nm (canon x) x n) (hn : n ≤ 1048576) (hM : M ≤ 70000000) : ∀ N : Nat, ∀ r : Int, r.toNat = N → 0 ≤ r → r < pw M → ∃ r', 0 ≤ r' ∧ r' < pw M ∧ ∃ j, ∀ k, nat_Root.L5 (k + j) (canon x) (canon r) = some (canon r', ()) := by
  intro N
  induction N using Nat.strongRecOn with
  | ind N ih =>
    intro r hN h0 hlt
    have nr : Nm (canon r) r M := .canon h0 hlt
    obtain ⟨q, hq, hd⟩ : ∃ q, Nm (canon q) q n ∧ (divI x r).1 = canon q := by
      by_cases hr : r = 0
      · exact ⟨0, .canon (Int.le_refl 0) (pw_pos n), by rw [divI_zero hr, canon_zero]⟩
      · exact ⟨x / r, nx.quo nr, by rw [divI_pos hr]⟩
    have k1 := nx.Div_F nr (by omega) (by omega)
    have k2 := (nr.mono (show M ≤ M + n by omega)).Add_F (hq.mono (show n ≤ M + n by omega)) (by omega)
    have ns := (nr.mono (show M ≤ M + n by omega)).add (hq.mono (show n ≤ M + n by omega))
    have k3 := ns.Shift_F (by omega) (i := -1) (by decide)
    rw [shiftI_in (by decide)] at k3
    have ne := ns.shifted (i := -1) (by decide)
    have hs0 : 0 ≤ shiftV (r + q) (-1) := ne.pos
    generalize shiftV (r + q) (-1) = s at k3 ne hs0
    have k4 := ne.Cmp_F nr (by omega) (by omega)
    by_cases hs : s < r
    · rw [cmpI_lt hs] at k4
      obtain ⟨r', h1, h2, j, hj⟩ := ih s.toNat (by omega) s rfl hs0 (by omega)
      refine ⟨r', h1, h2, j + 1, fun k => ?_⟩
      rw [← hj k, ← Nat.add_assoc, nat_Root.L5_succ]
      simp only [nat_Root.b5, k1, hd, Option.bind_some, k2, k3, k4]
      rfl
    · refine ⟨r, h0, hlt, 1, fun k => ?_⟩
      have hc : decide (cmpI s r ≥ (0 : Int)) = true := decide_eq_true (by unfold cmpI; rw [if_neg hs]; split <;> decide)
      rw [nat_Root.L5_succ]
      simp only [nat_Root.b5, k1, hd, Option.bind_some, k2, k3, k4, hc, cond_true]
theorem Root_some {a : List Int} {x : Int} {n : Nat} (ha : Nm a x n) (hn : n ≤ 1048576) : ∃ r, 0 ≤ r ∧ r < pw 32769 ∧ nat_Root.F (a, ()) = some (canon r, ()) := by
  have hx := ha.pos
  have o1 := own_F ha.limbs (by have := ha.len; omega)
  rw [ha.val] at o1
  have hz := canon_len_zero hx
  by_cases hl : (canon x).length = 0
  · refine ⟨0, Int.le_refl 0, pw_pos _, nat_Root.of 0 a ?_⟩
    have e : (((canon x).length : Int) == 0) = true := by rw [hl]; rfl
    simp only [nat_Root.e, o1, Option.bind_some, e, cond_true, canon_zero]
  · have e : (((canon x).length : Int) == 0) = false := beq_eq_false_iff_ne.2 (by omega)
    have nx : Nm (canon x) x n := ha.norm
    have k1 := Try.Bits_F nx.limbs (Nat.le_trans nx.len (by omega))
    rw [nx.val] at k1
    have hx0 : x ≠ 0 := fun h => hl (hz.2 h)
    obtain ⟨t, ht, ht1, ht2⟩ := blen_spec (n := x.toNat) (by omega)
    rw [ht] at k1
    have htn : t < 32 * n := by
      have h1 := ha.lt
      rw [pw_two] at h1
      have e3 := two_nat (32 * n)
      have : 2 ^ t < 2 ^ (32 * n) := by
        have : ((2 ^ t : Nat) : Int) < ((2 ^ (32 * n) : Nat) : Int) := by rw [e3]; omega
        exact Int.ofNat_lt.1 this
      exact (Nat.pow_lt_pow_iff_right (by decide : 1 < 2)).1 this
    have e2 : IntKind.i64.wrap (((t + 1 : Nat) : Int) + 1) = ((t + 2 : Nat) : Int) := by rw [IntWalk.i64_in _ (by omega)]; omega
    have e3 : IntKind.i64.wrap (Int.tdiv ((t + 2 : Nat) : Int) 2) = (((t + 2) / 2 : Nat) : Int) := by
      rw [show Int.tdiv ((t + 2 : Nat) : Int) 2 = (((t + 2) / 2 : Nat) : Int) from rfl, IntWalk.i64_in _ (by omega)]
    have k2 := (Nm.one (x := 1) (by decide)).Shift_F (by decide) (i := (((t + 2) / 2 : Nat) : Int)) (by omega)
    obtain ⟨r, h0, hlt, hr⟩ : ∃ r, 0 ≤ r ∧ r < pw 32769 ∧ (shiftI 1 (((t + 2) / 2 : Nat) : Int)).1 = canon r := by
      by_cases hi : (((t + 2) / 2 : Nat) : Int) < -1048576 ∨ 1048576 < (((t + 2) / 2 : Nat) : Int)
      · exact ⟨0, Int.le_refl 0, pw_pos _, by rw [shiftI_out hi, canon_zero]⟩
      · have ns := (Nm.one (x := 1) (by decide)).shifted hi
        exact ⟨_, ns.pos, ns.lt, by rw [shiftI_in hi]⟩
    obtain ⟨r', h1, h2, j, hj⟩ := Root_loop nx hn (M := 32769) (by omega) r.toNat r rfl h0 hlt
    refine ⟨r', h1, h2, nat_Root.of (0 + j) a ?_⟩
    have hd : decide ((2 : Int) = 0) = false := by decide
    simp only [nat_Root.e, o1, Option.bind_some, e, cond_false, k1, e2, hd, e3, k2, hr]
    exact hj 0
theorem Wn.Root_F {p : Bool × List Int} {z : Int} {n : Nat} (h : Wn p z n) (hn : n ≤ 1048576) : ∃ y, whole_Root.F (p, ()) = some y ∧ y.1.2.length ≤ 32769 := by
  have k1 := h.Sign_F (by omega)
  by_cases hs : sgn z < 0
  · have e := decide_eq_true hs
    refine ⟨((false, []), 10, ()), whole_Root.of 0 p ?_, Nat.zero_le _⟩
    simp only [whole_Root.e, pe, k1, Option.bind_some, e, cond_true]
  · have e := decide_eq_false hs
    obtain ⟨r, h0, hlt, hr⟩ := Root_some h.nm hn
    have nr : Nm (canon r) r 32769 := .canon h0 hlt
    have k3 := nr.signed0 (by decide)
    refine ⟨(wc r, 0, ()), whole_Root.of 0 p ?_, ?_⟩
    · simp only [whole_Root.e, pe, k1, Option.bind_some, e, cond_false, hr, k3]
    · have w : Wn (wc r) r 32769 := .of ⟨by have := pw_pos 32769; omega, hlt⟩
      exact w.len
/-- Answers that are short enough. -/
def Short (z : Bool × List Int) : Prop := z.2.length < 9000000
theorem short_z : Short (false, []) := by unfold Short; decide
theorem short_w {z : Int} {n : Nat} (h : Wn (wc z) z n) (hn : n < 9000000) : Short ((wc z).1, (wc z).2) := Nat.lt_of_le_of_lt h.len hn
theorem short_n {x : Int} {n : Nat} (h : Nm (canon x) x n) (hn : n < 9000000) : Short (false, canon x) := Nat.lt_of_le_of_lt h.len hn
theorem all1 {a : Bool × List Int} (h : Short a) : ∀ z ∈ [a, (false, [])], Short z := fun z hz => by
  rcases List.mem_cons.1 hz with rfl | hz
  · exact h
  · rw [List.mem_singleton.1 hz]; exact short_z
theorem all2 {a b : Bool × List Int} (h : Short a) (g : Short b) : ∀ z ∈ [a, b], Short z := fun z hz => by
  rcases List.mem_cons.1 hz with rfl | hz
  · exact h
  · rw [List.mem_singleton.1 hz]; exact g
theorem all3 {a b c : Bool × List Int} (h : Short a) (g : Short b) (k : Short c) : ∀ z ∈ [a, b, c], Short z := fun z hz => by
  rcases List.mem_cons.1 hz with rfl | hz
  · exact h
  · exact all2 g k z hz
theorem Wn.Pow_F {p : Bool × List Int} {y : Int} {n : Nat} (h : Wn p y n) (hn : n ≤ 1048576) {i : Int} (hi : i = 0 ∨ i = 1) : ∃ z, whole_Pow.F (p, i, ()) = some z ∧ Short (z.1.1, z.1.2) := by
  have k1 := Try.Pow_F h.nm (by omega) (i := i) (by omega) (.inl (by omega))
  have hd : decide ((2 : Int) = 0) = false := by decide
  rcases hi with rfl | rfl
  · have n1 : Nm (canon 1) 1 1 := .canon (by decide) (by decide)
    have k2 := n1.signed0 (by decide)
    rw [show ab y ^ (0 : Int).toNat = 1 from Int.pow_zero _] at k1
    refine ⟨(wc 1, 0, ()), whole_Pow.of 0 p 0 ?_, short_w (n := 1) (.of (by decide)) (by decide)⟩
    simp only [whole_Pow.e, k1, Option.bind_some]
    rw [show ((0 : Int) != 0) = false from rfl, hd, show (Int.tmod 0 2 == 0) = true from rfl]
    simp only [cond_false, cond_true, k2, Option.bind_some]
  · have k2 := h.nm.norm.signed1 (show n ≤ 70368744177664 by omega) (s := sgn y) (by have := sgn_cases y; omega)
    have k3 := h.Sign_F (show n ≤ 70368744177664 by omega)
    have e : (if sgn y < 0 then -ab y else ab y) = y := by have := tri y; split <;> omega
    rw [e] at k2
    rw [show ab y ^ (1 : Int).toNat = ab y from Int.pow_one _] at k1
    refine ⟨(wc y, 0, ()), whole_Pow.of 0 p 1 ?_, short_w h.norm (by omega)⟩
    simp only [whole_Pow.e, pe, k1, Option.bind_some]
    rw [show ((0 : Int) != 0) = false from rfl, hd, show (Int.tmod 1 2 == 0) = false from rfl]
    simp only [cond_false, cond_true, k2, k3, Option.bind_some]
theorem askD_some {p q : Bool × List Int} {y z : Int} (h : Wn p y 1048576) (g : Wn q z 1048576) : ∀ k : Nat, k < 16 → ∃ zs, askD k p q = some zs ∧ (∀ z ∈ zs, Short z) ∧ zs.length ≤ 3
  | 0, _ => ⟨_, by simp only [askD]; rw [h.Norm_F (by decide)]; rfl, all1 (short_w h.norm (by decide)), (by decide : 2 ≤ 3)⟩
  | 1, _ => ⟨_, by simp only [askD]; rw [h.Neg_F (by decide)]; rfl, all1 (short_w h.neg (by decide)), (by decide : 2 ≤ 3)⟩
  | 2, _ => ⟨_, by simp only [askD]; rw [h.Abs_F (by decide)]; rfl, all1 (short_n h.nm.norm (by decide)), (by decide : 2 ≤ 3)⟩
  | 3, _ => ⟨_, by simp only [askD]; rw [h.Add_F g (by decide)]; rfl, all1 (short_w (h.add g) (by decide)), (by decide : 2 ≤ 3)⟩
  | 4, _ => ⟨_, by simp only [askD]; rw [h.Sub_F g (by decide)]; rfl, all1 (short_w (h.sub g) (by decide)), (by decide : 2 ≤ 3)⟩
  | 5, _ => ⟨_, by simp only [askD]; rw [h.Mul_F g (by decide)]; rfl, all1 (short_w (h.mul g) (by decide)), (by decide : 2 ≤ 3)⟩
  | 6, _ => by
    have k := h.Quo_F g (by decide) (by decide)
    unfold quoI at k
    by_cases hz : z = 0
    · rw [if_pos hz] at k
      exact ⟨_, by simp only [askD]; rw [k]; rfl, all2 short_z short_z, (by decide : 2 ≤ 3)⟩
    · rw [if_neg hz] at k
      exact ⟨_, by simp only [askD]; rw [k]; rfl, all2 (short_w (h.quo g) (by decide)) (short_w (h.rem g hz) (by decide)), (by decide : 2 ≤ 3)⟩
  | 7, _ => by
    have k := h.Floor_F g (by decide) (by decide) (by decide)
    unfold flI at k
    by_cases hz : z = 0
    · rw [if_pos hz] at k
      exact ⟨_, by simp only [askD]; rw [k]; rfl, all2 short_z short_z, (by decide : 2 ≤ 3)⟩
    · rw [if_neg hz] at k
      exact ⟨_, by simp only [askD]; rw [k]; rfl, all2 (short_w (h.fq g) (by decide)) (short_w (h.fr g hz) (by decide)), (by decide : 2 ≤ 3)⟩
  | 8, _ => by
    have k := h.Euclid_F g (by decide) (by decide) (by decide)
    unfold euI at k
    by_cases hz : z = 0
    · rw [if_pos hz] at k
      exact ⟨_, by simp only [askD]; rw [k]; rfl, all2 short_z short_z, (by decide : 2 ≤ 3)⟩
    · rw [if_neg hz] at k
      exact ⟨_, by simp only [askD]; rw [k]; rfl, all2 (short_w (h.uq g) (by decide)) (short_w (h.ur g hz) (by decide)), (by decide : 2 ≤ 3)⟩
  | 9, _ => ⟨_, by simp only [askD]; rw [h.Gcd_F g (by decide)]; rfl, all1 (short_n (h.gcd g) (by decide)), (by decide : 2 ≤ 3)⟩
  | 10, _ => by
    have k := h.Lcm_F g (by decide) (by decide)
    refine ⟨_, by simp only [askD]; rw [k]; rfl, all1 (short_n (n := 1048576 + 1048576) (.canon ?_ ?_) (by decide)), (by decide : 2 ≤ 3)⟩
    · exact Int.mul_nonneg (Int.ediv_nonneg (ab_nonneg y) (gcdI_nonneg y z)) (ab_nonneg z)
    · have h1 : ab y / gcdI y z ≤ ab y := Int.ediv_le_self _ (ab_nonneg y)
      have h2 : lcmV y z ≤ ab y * ab z := Int.mul_le_mul_of_nonneg_right h1 (ab_nonneg z)
      have h3 := (h.nm.norm.mul g.nm.norm).lt
      omega
  | 11, _ => by
    by_cases hz : z = 0
    · have k := h.Bezout_zero g (by decide) hz
      exact ⟨_, by simp only [askD]; rw [k]; rfl, all3 (short_n (h.gcd g) (by decide)) (short_w (n := 1) (.of (by have := sgn_cases y; have := pw_pos 1; rw [show pw 1 = 4294967296 from rfl]; omega)) (by decide)) (short_w (n := 1) (.of (by decide)) (by decide)), (by decide : 3 ≤ 3)⟩
    · obtain ⟨v, hv, k⟩ := h.Bezout_F g (by decide) (by decide) hz
      have hw := hv.wn h g hz
      exact ⟨_, by simp only [askD]; rw [k]; rfl, all3 (short_n (h.gcd g) (by decide)) (short_w hw.1 (by decide)) (short_w hw.2 (by decide)), (by decide : 3 ≤ 3)⟩
  | 12, _ => by
    by_cases hz : z = 0
    · have k := h.Inverse_zero g (by decide) hz
      exact ⟨_, by simp only [askD]; rw [k]; rfl, all1 short_z, (by decide : 2 ≤ 3)⟩
    · obtain ⟨k1, k2⟩ := h.Inverse_F g (by decide) (by decide) hz
      by_cases hg : gcdI y z = 1
      · obtain ⟨v, hv, k⟩ := k1 hg
        exact ⟨_, by simp only [askD]; rw [k]; rfl, all1 (short_w (hv.wn h g hz).1 (by decide)), (by decide : 2 ≤ 3)⟩
      · exact ⟨_, by simp only [askD]; rw [k2 hg]; rfl, all1 short_z, (by decide : 2 ≤ 3)⟩
  | 13, _ => by
    have k1 := h.Shift_F (by decide) (i := 0) (by decide)
    have k2 := h.Shift_F (by decide) (i := 32) (by decide)
    unfold wshI at k1 k2
    rw [if_neg (by decide)] at k1 k2
    exact ⟨_, by simp only [askD]; rw [k1, k2]; rfl, all2 (short_w (h.shifted (i := 0) (by decide)) (by decide)) (short_w (h.shifted (i := 32) (by decide)) (by decide)), (by decide : 2 ≤ 3)⟩
  | 14, _ => by
    obtain ⟨a, k1, s1⟩ := h.Pow_F (by decide) (i := 1) (.inr rfl)
    obtain ⟨b, k2, s2⟩ := h.Pow_F (by decide) (i := 0) (.inl rfl)
    exact ⟨_, by simp only [askD]; rw [k1, k2]; rfl, all2 s1 s2, (by decide : 2 ≤ 3)⟩
  | 15, _ => by
    obtain ⟨a, k1, s1⟩ := h.Root_F (by decide)
    exact ⟨_, by simp only [askD]; rw [k1]; rfl, all1 (Nat.lt_of_le_of_lt s1 (by decide)), (by decide : 2 ≤ 3)⟩
  | k + 16, hk => absurd hk (by omega)
end Go.Fx.Try

namespace Go.Fx.Try
open Go Go.Proofs Go.Fx Go.Fx.Num Go.RowKit
set_option linter.unusedVariables false
set_option linter.unusedSimpArgs false
theorem wo_data {p q : Bool × List Int} {y z : Int} (h : Wn p y 1048576) (g : Wn q z 1048576) : WoD p q (p.2 ++ room) (q.2 ++ room) := by
  have hp := h.len
  have hq := g.len
  refine ⟨Room_F p.2 (by omega), Room_F q.2 (by omega), Kept_F p.2 (by omega), Kept_F q.2 (by omega), fun k hk => ?_, fun hs hl => hlists_F hs hl, fun z hz => ?_, awake_F⟩
  · obtain ⟨zs, h1, h2, h3⟩ := askD_some h g k hk
    refine ⟨zs, h1, fun z hz => ?_, by omega, ints_F zs (by omega) fun z hz => ?_⟩
    · have : z.2.length < 9000000 := h2 z hz
      omega
    · have : z.2.length < 9000000 := h2 z hz
      omega
  · rw [wsame_F z z (by omega)]; simp
theorem wholeOwn_calls {p q : Bool × List Int} (wp : K.wf Kt25 p) (wq : K.wf Kt25 q) (lp : K.bulk Kt25 p ≤ 1048576) (lq : K.bulk Kt25 q ≤ 1048576) {w : World} {okA : Nat → Prop} {va vb : Value} (hA : RdV w okA (true, Kt25) p va) (hB : RdV w okA (true, Kt25) q vb) :
    Calls Try.prog 16 #[va, vb] w fun e w' => e = .returned (.bool true) ∧ Below w.heap.size w w' := by
  have limbs : ∀ xs : List Int, K.wf Kt23 xs → Limbs xs := fun xs h => limbs_of fun x hx => h x hx
  have len : ∀ xs : List Int, xs.length ≤ K.bulk Kt23 xs := fun xs => by
    show xs.length ≤ (xs.map (K.bulk (.int .u32))).sum + 1
    induction xs with
    | nil => exact Nat.zero_le _
    | cons x r ih =>
      show (x :: r).length ≤ (1 + (List.map (α := (K.int IntKind.u32).T) (K.int IntKind.u32).bulk r).sum) + 1
      rw [List.length_cons]
      omega
  have hp : Wn p (wv p) 1048576 := ⟨limbs p.2 wp.2, rfl, by have := len p.2; have : K.bulk Kt25 p = 1 + K.bulk Kt23 p.2 := rfl; omega⟩
  have hq : Wn q (wv q) 1048576 := ⟨limbs q.2 wq.2, rfl, by have := len q.2; have : K.bulk Kt25 q = 1 + K.bulk Kt23 q.2 := rfl; omega⟩
  exact wo_calls (wo_data hp hq) hA hB
end Go.Fx.Try
