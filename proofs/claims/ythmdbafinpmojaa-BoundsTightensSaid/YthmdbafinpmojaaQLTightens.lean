/- BoundsTightens, of what the walked function answers. -/
import Derived.Test.YthmdbafinpmojaaUC
namespace Go.Fx.Try
open Go Go.Fx Go.Fx.Num
set_option linter.unusedVariables false
set_option linter.unusedSimpArgs false

noncomputable def LT (k : Nat) (o : Dt50) (n : Int) (was : Dt26) (kd ot e : Int) (now : Dt26) (i : Int) : Option (Bool × Unit) :=
  fulcrumlaw08_BoundsTightens.L13 k o.1 o.2.1 o.2.2.1.1.1.1 o.2.2.1.1.1.2 o.2.2.1.1.2 o.2.2.1.2.1.1 o.2.2.1.2.1.2 o.2.2.1.2.2 o.2.2.2.1 o.2.2.2.2 n was kd ot e now i
theorem getD_mapI {ls : List AL} {i : Nat} (h : i < ls.length) : List.getD (ls.map lI) (Int.toNat (i : Int)) zt55 = lI ls[i] := by
  rw [getD_at (ls.map lI) zt55 (by rw [List.length_map]; exact h)]
  exact List.getElem_map ..
theorem kept0 (k : Nat) (o : Dt50) (ho : OkO o) (n : Nat) (was now : List AL) (kd ot e : Int) (i : Nat) (hi : i < n) (hn : n ≤ 65536) (lw : was.length = n) (ln : now.length = n) (l w : AL) (hl : now[i]'(by omega) = l) (hw : was[i]'(by omega) = w) (bl : Bk l.1 ∧ Bk l.2) (bw : Bk w.1 ∧ Bk w.2)
    (hcl : ∀ x u y t, l.1 = some (x, u) → l.2 = some (y, t) → ¬dlt y x) (he : e ≠ 0) (hlw : l = w) :
    LT (k + 1) o n (was.map lI) kd ot e (now.map lI) i = LT k o n (was.map lI) kd ot e (now.map lI) ((i + 1 : Nat) : Int) := by
  have hend : LT k o n (was.map lI) kd ot e (now.map lI) (IntKind.i64.wrap ((i : Int) + 1)) = LT k o n (was.map lI) kd ot e (now.map lI) ((i + 1 : Nat) : Int) := by
    rw [(wrap_ok (by omega) (by omega)).trans (show (i : Int) + 1 = ((i + 1 : Nat) : Int) by omega)]
  have hg8 : List.getD (was.map lI) (Int.toNat (i : Int)) zt55 = lI w := by rw [getD_mapI (by omega), hw]
  have hg11 : List.getD (now.map lI) (Int.toNat (i : Int)) zt55 = lI l := by rw [getD_mapI (by omega), hl]
  have hin8 : (decide (0 ≤ (i : Int)) && decide ((i : Int) < ((was.map lI).length : Int))) = true := by rw [List.length_map]; simp <;> omega
  have hin11 : (decide (0 ≤ (i : Int)) && decide ((i : Int) < ((now.map lI).length : Int))) = true := by rw [List.length_map]; simp <;> omega
  have hv1 : decide ((i : Int) < (n : Int)) = true := decide_eq_true (by omega)
  unfold LT at hend ⊢
  rw [fulcrumlaw08_BoundsTightens.L13_succ]
  unfold fulcrumlaw08_BoundsTightens.b13
  rw [hg8, hg11]
  refine yes hv1 (yes hin11 ?_)
  clear hg8 hg11 hl hw lw ln
  subst hlw
  have h20 : (e == (0 : Int)) = false := beq_ne he
  have h21 : true = true := rfl
  obtain ⟨lo, hi⟩ := l
  have hS1 := (sameBound_F bl.1 (bI lo)).trans (congrArg some (congrArg (·, ()) (decide_eq_true (rfl : bI lo = bI lo))))
  have hS2 := (sameBound_F bl.2 (bI hi)).trans (congrArg some (congrArg (·, ()) (decide_eq_true (rfl : bI hi = bI hi))))
  rcases lo with _ | ⟨a, u⟩
  · rcases hi with _ | ⟨b, t⟩
    · skip
      exact no rfl (no h20 (yes hin8 (st hS2 (no rfl (yes rfl (yes hin8 (st hS1 (no rfl (yes rfl (hend))))))))))
    · skip
      exact no rfl (no h20 (yes hin8 (st hS2 (no rfl (yes rfl (yes hin8 (st hS1 (no rfl (yes rfl (hend))))))))))
  · rcases hi with _ | ⟨b, t⟩
    · skip
      exact yes rfl (no rfl (no h20 (yes hin8 (st hS2 (no rfl (yes rfl (yes hin8 (st hS1 (no rfl (yes rfl (hend)))))))))))
    · skip
      have hC := Dn.rCmp_F (bl.1 a u rfl) (bl.2 b t rfl) (by decide)
      have hgt : decide (dcmp a b > 0) = false := decide_eq_false fun h => hcl a u b t rfl rfl (dcmp_gt.1 h)
      exact yes rfl (yes rfl (st hC (no hgt (no h20 (yes hin8 (st hS2 (no rfl (yes rfl (yes hin8 (st hS1 (no rfl (yes rfl (hend)))))))))))))
theorem kept1 (k : Nat) (o : Dt50) (ho : OkO o) (n : Nat) (was now : List AL) (kd ot e : Int) (i : Nat) (hi : i < n) (hn : n ≤ 65536) (lw : was.length = n) (ln : now.length = n) (l w : AL) (hl : now[i]'(by omega) = l) (hw : was[i]'(by omega) = w) (bl : Bk l.1 ∧ Bk l.2) (bw : Bk w.1 ∧ Bk w.2)
    (hcl : ∀ x u y t, l.1 = some (x, u) → l.2 = some (y, t) → ¬dlt y x) (he : e = 0) (hk : kd ≠ 1) (hlw : l = w) :
    LT (k + 1) o n (was.map lI) kd ot e (now.map lI) i = LT k o n (was.map lI) kd ot e (now.map lI) ((i + 1 : Nat) : Int) := by
  have hend : LT k o n (was.map lI) kd ot e (now.map lI) (IntKind.i64.wrap ((i : Int) + 1)) = LT k o n (was.map lI) kd ot e (now.map lI) ((i + 1 : Nat) : Int) := by
    rw [(wrap_ok (by omega) (by omega)).trans (show (i : Int) + 1 = ((i + 1 : Nat) : Int) by omega)]
  have hg8 : List.getD (was.map lI) (Int.toNat (i : Int)) zt55 = lI w := by rw [getD_mapI (by omega), hw]
  have hg11 : List.getD (now.map lI) (Int.toNat (i : Int)) zt55 = lI l := by rw [getD_mapI (by omega), hl]
  have hin8 : (decide (0 ≤ (i : Int)) && decide ((i : Int) < ((was.map lI).length : Int))) = true := by rw [List.length_map]; simp <;> omega
  have hin11 : (decide (0 ≤ (i : Int)) && decide ((i : Int) < ((now.map lI).length : Int))) = true := by rw [List.length_map]; simp <;> omega
  have hv1 : decide ((i : Int) < (n : Int)) = true := decide_eq_true (by omega)
  unfold LT at hend ⊢
  rw [fulcrumlaw08_BoundsTightens.L13_succ]
  unfold fulcrumlaw08_BoundsTightens.b13
  rw [hg8, hg11]
  refine yes hv1 (yes hin11 ?_)
  clear hg8 hg11 hl hw lw ln
  subst hlw
  have h20 : (e == (0 : Int)) = true := by rw [he]; rfl
  have h21 : (kd == (1 : Int)) = false := beq_ne hk
  obtain ⟨lo, hi⟩ := l
  have hS1 := (sameBound_F bl.1 (bI lo)).trans (congrArg some (congrArg (·, ()) (decide_eq_true (rfl : bI lo = bI lo))))
  have hS2 := (sameBound_F bl.2 (bI hi)).trans (congrArg some (congrArg (·, ()) (decide_eq_true (rfl : bI hi = bI hi))))
  rcases lo with _ | ⟨a, u⟩
  · rcases hi with _ | ⟨b, t⟩
    · skip
      exact no rfl (yes h20 (no h21 (yes hin8 (st hS2 (no rfl (yes rfl (yes hin8 (st hS1 (no rfl (yes rfl (hend)))))))))))
    · skip
      exact no rfl (yes h20 (no h21 (yes hin8 (st hS2 (no rfl (yes rfl (yes hin8 (st hS1 (no rfl (yes rfl (hend)))))))))))
  · rcases hi with _ | ⟨b, t⟩
    · skip
      exact yes rfl (no rfl (yes h20 (no h21 (yes hin8 (st hS2 (no rfl (yes rfl (yes hin8 (st hS1 (no rfl (yes rfl (hend))))))))))))
    · skip
      have hC := Dn.rCmp_F (bl.1 a u rfl) (bl.2 b t rfl) (by decide)
      have hgt : decide (dcmp a b > 0) = false := decide_eq_false fun h => hcl a u b t rfl rfl (dcmp_gt.1 h)
      exact yes rfl (yes rfl (st hC (no hgt (yes h20 (no h21 (yes hin8 (st hS2 (no rfl (yes rfl (yes hin8 (st hS1 (no rfl (yes rfl (hend))))))))))))))
theorem kept2 (k : Nat) (o : Dt50) (ho : OkO o) (n : Nat) (was now : List AL) (kd ot e : Int) (i : Nat) (hi : i < n) (hn : n ≤ 65536) (lw : was.length = n) (ln : now.length = n) (l w : AL) (hl : now[i]'(by omega) = l) (hw : was[i]'(by omega) = w) (bl : Bk l.1 ∧ Bk l.2) (bw : Bk w.1 ∧ Bk w.2)
    (hcl : ∀ x u y t, l.1 = some (x, u) → l.2 = some (y, t) → ¬dlt y x) (he : e = 0) (hk : kd = 1) (hv : (i : Int) ≠ o.2.1) (hlw : l = w) :
    LT (k + 1) o n (was.map lI) kd ot e (now.map lI) i = LT k o n (was.map lI) kd ot e (now.map lI) ((i + 1 : Nat) : Int) := by
  have hend : LT k o n (was.map lI) kd ot e (now.map lI) (IntKind.i64.wrap ((i : Int) + 1)) = LT k o n (was.map lI) kd ot e (now.map lI) ((i + 1 : Nat) : Int) := by
    rw [(wrap_ok (by omega) (by omega)).trans (show (i : Int) + 1 = ((i + 1 : Nat) : Int) by omega)]
  have hg8 : List.getD (was.map lI) (Int.toNat (i : Int)) zt55 = lI w := by rw [getD_mapI (by omega), hw]
  have hg11 : List.getD (now.map lI) (Int.toNat (i : Int)) zt55 = lI l := by rw [getD_mapI (by omega), hl]
  have hin8 : (decide (0 ≤ (i : Int)) && decide ((i : Int) < ((was.map lI).length : Int))) = true := by rw [List.length_map]; simp <;> omega
  have hin11 : (decide (0 ≤ (i : Int)) && decide ((i : Int) < ((now.map lI).length : Int))) = true := by rw [List.length_map]; simp <;> omega
  have hv1 : decide ((i : Int) < (n : Int)) = true := decide_eq_true (by omega)
  unfold LT at hend ⊢
  rw [fulcrumlaw08_BoundsTightens.L13_succ]
  unfold fulcrumlaw08_BoundsTightens.b13
  rw [hg8, hg11]
  refine yes hv1 (yes hin11 ?_)
  clear hg8 hg11 hl hw lw ln
  subst hlw
  have h20 : (e == (0 : Int)) = true := by rw [he]; rfl
  have h21 : (kd == (1 : Int)) = true := by rw [hk]; rfl
  have hv2 : ((i : Int) == o.2.1) = false := beq_ne hv
  have hv3 : (!((i : Int) == o.2.1)) = true := by rw [hv2]; rfl
  obtain ⟨lo, hi⟩ := l
  have hS1 := (sameBound_F bl.1 (bI lo)).trans (congrArg some (congrArg (·, ()) (decide_eq_true (rfl : bI lo = bI lo))))
  have hS2 := (sameBound_F bl.2 (bI hi)).trans (congrArg some (congrArg (·, ()) (decide_eq_true (rfl : bI hi = bI hi))))
  rcases lo with _ | ⟨a, u⟩
  · rcases hi with _ | ⟨b, t⟩
    · skip
      exact no rfl (yes h20 (yes h21 (yes hin8 (st hS2 (no rfl (yes hv3 (yes hin8 (st hS1 (no rfl (yes hv3 (hend)))))))))))
    · skip
      exact no rfl (yes h20 (yes h21 (yes hin8 (st hS2 (no rfl (yes hv3 (yes hin8 (st hS1 (no rfl (yes hv3 (hend)))))))))))
  · rcases hi with _ | ⟨b, t⟩
    · skip
      exact yes rfl (no rfl (yes h20 (yes h21 (yes hin8 (st hS2 (no rfl (yes hv3 (yes hin8 (st hS1 (no rfl (yes hv3 (hend))))))))))))
    · skip
      have hC := Dn.rCmp_F (bl.1 a u rfl) (bl.2 b t rfl) (by decide)
      have hgt : decide (dcmp a b > 0) = false := decide_eq_false fun h => hcl a u b t rfl rfl (dcmp_gt.1 h)
      exact yes rfl (yes rfl (st hC (no hgt (yes h20 (yes h21 (yes hin8 (st hS2 (no rfl (yes hv3 (yes hin8 (st hS1 (no rfl (yes hv3 (hend))))))))))))))
theorem moved (k : Nat) (o : Dt50) (ho : OkO o) (n : Nat) (was now : List AL) (kd ot e : Int) (i : Nat) (hi : i < n) (hn : n ≤ 65536) (lw : was.length = n) (ln : now.length = n) (l w : AL) (hl : now[i]'(by omega) = l) (hw : was[i]'(by omega) = w) (bl : Bk l.1 ∧ Bk l.2) (bw : Bk w.1 ∧ Bk w.2)
    (hcl : ∀ x u y t, l.1 = some (x, u) → l.2 = some (y, t) → ¬dlt y x) (he : e = 0) (hk : kd = 1) (hv : (i : Int) = o.2.1) (hlw : l = (some (dv o.2.2.1, o.2.2.2.1), w.2)) (hup : ∀ y t, w.1 = some (y, t) → dlt y (dv o.2.2.1)) :
    LT (k + 1) o n (was.map lI) kd ot e (now.map lI) i = LT k o n (was.map lI) kd ot e (now.map lI) ((i + 1 : Nat) : Int) := by
  have hend : LT k o n (was.map lI) kd ot e (now.map lI) (IntKind.i64.wrap ((i : Int) + 1)) = LT k o n (was.map lI) kd ot e (now.map lI) ((i + 1 : Nat) : Int) := by
    rw [(wrap_ok (by omega) (by omega)).trans (show (i : Int) + 1 = ((i + 1 : Nat) : Int) by omega)]
  have hg8 : List.getD (was.map lI) (Int.toNat (i : Int)) zt55 = lI w := by rw [getD_mapI (by omega), hw]
  have hg11 : List.getD (now.map lI) (Int.toNat (i : Int)) zt55 = lI l := by rw [getD_mapI (by omega), hl]
  have hin8 : (decide (0 ≤ (i : Int)) && decide ((i : Int) < ((was.map lI).length : Int))) = true := by rw [List.length_map]; simp <;> omega
  have hin11 : (decide (0 ≤ (i : Int)) && decide ((i : Int) < ((now.map lI).length : Int))) = true := by rw [List.length_map]; simp <;> omega
  have hv1 : decide ((i : Int) < (n : Int)) = true := decide_eq_true (by omega)
  unfold LT at hend ⊢
  rw [fulcrumlaw08_BoundsTightens.L13_succ]
  unfold fulcrumlaw08_BoundsTightens.b13
  rw [hg8, hg11]
  refine yes hv1 (yes hin11 ?_)
  clear hg8 hg11 hl hw lw ln
  subst hlw
  have h20 : (e == (0 : Int)) = true := by rw [he]; rfl
  have h21 : (kd == (1 : Int)) = true := by rw [hk]; rfl
  have hv2 : ((i : Int) == o.2.1) = true := by rw [hv]; exact beq_self_eq_true _
  have hv3 : (!((i : Int) == o.2.1)) = false := by rw [hv2]; rfl
  obtain ⟨lw, hi⟩ := w
  have hS2 := (sameBound_F bl.2 (bI hi)).trans (congrArg some (congrArg (·, ()) (decide_eq_true (rfl : bI hi = bI hi))))
  have hA := Dn.rCmp_F (bl.1 _ _ rfl) ho.at' (by decide)
  have hz : (dcmp (dv o.2.2.1) (dv o.2.2.1) != (0 : Int)) = false := bne_eq_false_iff_eq.2 (dcmp_eq.2 rfl)
  have hwhy : (o.2.2.2.1 != o.2.2.2.1) = false := bne_eq_false_iff_eq.2 rfl
  rcases lw with _ | ⟨c, s⟩
  · rcases hi with _ | ⟨b, t⟩
    · skip
      exact yes rfl (no rfl (yes h20 (yes h21 (yes hin8 (st hS2 (no rfl (no hv3 (no hv3 (no rfl (no hwhy (st hA (no hz (yes hin8 (no rfl (hend)))))))))))))))
    · skip
      have hC := Dn.rCmp_F (bl.1 _ _ rfl) (bl.2 b t rfl) (by decide)
      have hgt : decide (dcmp (dv o.2.2.1) b > 0) = false := decide_eq_false fun h => hcl _ _ b t rfl rfl (dcmp_gt.1 h)
      exact yes rfl (yes rfl (st hC (no hgt (yes h20 (yes h21 (yes hin8 (st hS2 (no rfl (no hv3 (no hv3 (no rfl (no hwhy (st hA (no hz (yes hin8 (no rfl (hend)))))))))))))))))
  · rcases hi with _ | ⟨b, t⟩
    · skip
      have hW := Dn.rCmp_F (bl.1 _ _ rfl) (bw.1 c s rfl) (by decide)
      have hle : decide (dcmp (dv o.2.2.1) c ≤ 0) = false := decide_eq_false fun h => by have := dcmp_gt.2 (hup c s rfl); omega
      exact yes rfl (no rfl (yes h20 (yes h21 (yes hin8 (st hS2 (no rfl (no hv3 (no hv3 (no rfl (no hwhy (st hA (no hz (yes hin8 (yes rfl (yes hin8 (st hW (no hle (hend))))))))))))))))))
    · skip
      have hC := Dn.rCmp_F (bl.1 _ _ rfl) (bl.2 b t rfl) (by decide)
      have hgt : decide (dcmp (dv o.2.2.1) b > 0) = false := decide_eq_false fun h => hcl _ _ b t rfl rfl (dcmp_gt.1 h)
      have hW := Dn.rCmp_F (bl.1 _ _ rfl) (bw.1 c s rfl) (by decide)
      have hle : decide (dcmp (dv o.2.2.1) c ≤ 0) = false := decide_eq_false fun h => by have := dcmp_gt.2 (hup c s rfl); omega
      exact yes rfl (yes rfl (st hC (no hgt (yes h20 (yes h21 (yes hin8 (st hS2 (no rfl (no hv3 (no hv3 (no rfl (no hwhy (st hA (no hz (yes hin8 (yes rfl (yes hin8 (st hW (no hle (hend))))))))))))))))))))
end Go.Fx.Try

namespace Go.Fx.Try
open Go Go.Fx Go.Fx.Num
set_option linter.unusedVariables false
set_option linter.unusedSimpArgs false

theorem asrt_len (up : Bool) (m : M) (v : Int) (x : Q2) (w : Int) : (asrt up m v x w).1.limits.length = m.limits.length := by
  unfold asrt
  split
  · dsimp only
    split
    · rfl
    · split
      · rfl
      · exact List.length_set
  · rfl
theorem tight_loop {m : M} {K : Nat} (ok : m.ok K) (cm : Cm m) {o : Dt50} (ho : OkO o) {m' : M} {kd ot e : Int} (ha : asrt false m o.2.1 (dv o.2.2.1) o.2.2.2.1 = (m', (kd, ot), e)) :
    ∃ j, ∀ k, LT (k + j) o m.limits.length (m.limits.map lI) kd ot e (m'.limits.map lI) 0 = some (true, ()) := by
  have hnl := ok.nl
  have ok' := asrt_ok ok false o.2.1 ho.at'.norm o.2.2.2.1
  have cm' := cm_asrt cm false o.2.1 (dv o.2.2.1) o.2.2.2.1
  have hlen := asrt_len false m o.2.1 (dv o.2.2.1) o.2.2.2.1
  rw [ha] at ok' cm' hlen
  dsimp only at ok' cm' hlen
  refine Num.up (fun k (p : Nat × Unit) => LT k o m.limits.length (m.limits.map lI) kd ot e (m'.limits.map lI) (p.1 : Int)) _ (fun _ _ => True) m.limits.length (fun i _ hi _ => ⟨(), trivial, 1, fun k => ?_⟩) (fun _ _ => ⟨1, fun k => ?_⟩) 0 () (Nat.zero_le _) trivial
  · have bl := ok'.lims _ (List.getElem_mem (show i < m'.limits.length by omega))
    have bw := ok.lims _ (List.getElem_mem hi)
    have hcl := fun x u y t => cm'.cl _ (List.getElem_mem (show i < m'.limits.length by omega)) x u y t
    have same : m' = m → m'.limits[i]'(by omega) = m.limits[i] := fun h => by subst h; rfl
    show LT (k + 1) o _ _ _ _ _ _ _ = LT k o _ _ _ _ _ _ _
    unfold asrt at ha
    split at ha
    · rename_i hv
      dsimp only at ha
      split at ha
      · obtain ⟨rfl, hb⟩ := Prod.mk.inj ha
        obtain ⟨hk, rfl⟩ := Prod.mk.inj hb
        obtain ⟨rfl, rfl⟩ := Prod.mk.inj hk
        exact kept1 k o ho _ m.limits m.limits 0 0 0 i hi hnl rfl rfl _ _ rfl rfl bl bw hcl rfl (by decide) rfl
      · split at ha
        · obtain ⟨rfl, hb⟩ := Prod.mk.inj ha
          obtain ⟨hk, rfl⟩ := Prod.mk.inj hb
          obtain ⟨rfl, rfl⟩ := Prod.mk.inj hk
          exact kept1 k o ho _ m.limits m.limits 2 _ 0 i hi hnl rfl rfl _ _ rfl rfl bl bw hcl rfl (by decide) rfl
        · rename_i hk0 hc0
          obtain ⟨rfl, hb⟩ := Prod.mk.inj ha
          obtain ⟨hk, rfl⟩ := Prod.mk.inj hb
          obtain ⟨rfl, rfl⟩ := Prod.mk.inj hk
          by_cases hiv : (i : Int) = o.2.1
          · have hiv' : o.2.1.toNat = i := by omega
            have hw : m.limits.getD o.2.1.toNat (none, none) = m.limits[i] := by
              rw [hiv', List.getD_eq_getElem?_getD, List.getElem?_eq_getElem hi]; rfl
            have hl : (m.limits.set o.2.1.toNat (put false (m.limits.getD o.2.1.toNat (none, none)) (some (dv o.2.2.1, o.2.2.2.1))))[i]'(by rw [List.length_set]; exact hi) = (some (dv o.2.2.1, o.2.2.2.1), m.limits[i].2) := by
              rw [hw]
              simp only [hiv', List.getElem_set_self]; rfl
            refine moved k o ho _ m.limits _ 1 0 0 i hi hnl rfl hlen _ _ rfl rfl bl bw hcl rfl rfl hiv hl ?_
            intro y t hy
            rw [hw] at hk0
            have h2 : kept false (own false m.limits[i]) (dv o.2.2.1) = !tb false (dv o.2.2.1) y := by
              show kept false m.limits[i].1 _ = _
              rw [hy]; rfl
            rw [h2] at hk0
            have h3 : tb false (dv o.2.2.1) y = true := by simpa using hk0
            exact dcmp_gt.1 (of_decide_eq_true h3)
          · have hl : (m.limits.set o.2.1.toNat (put false (m.limits.getD o.2.1.toNat (none, none)) (some (dv o.2.2.1, o.2.2.2.1))))[i]'(by rw [List.length_set]; exact hi) = m.limits[i] :=
              List.getElem_set_ne (by omega) _
            exact kept2 k o ho _ m.limits _ 1 0 0 i hi hnl rfl hlen _ _ rfl rfl bl bw hcl rfl rfl hiv hl
    · obtain ⟨rfl, hb⟩ := Prod.mk.inj ha
      obtain ⟨hk, rfl⟩ := Prod.mk.inj hb
      exact kept0 k o ho _ m.limits m.limits _ _ 61 i hi hnl rfl rfl _ _ rfl rfl bl bw hcl (by decide) rfl
  · show LT (k + 1) o _ _ _ _ _ _ _ = _
    unfold LT
    rw [fulcrumlaw08_BoundsTightens.L13_succ]
    unfold fulcrumlaw08_BoundsTightens.b13
    exact no (decide_eq_false (by omega)) rfl
theorem tight_core (x : Dt60) (o : Dt50) (hx : ∀ p ∈ x.2, OkO p) (ho : OkO o) (hn : x.2.length < 890000000000) : fulcrumlaw08_BoundsTightens.F (x, o, ()) = some (true, ()) := by
  have tail : ∀ v : Int, 0 ≤ v ∧ v ≤ 65536 → ∃ m : M, ∃ j, fulcrumlaw08_played.F () ((v, x.2), ()) = some (some (mS m), (mR m, ()), ()) ∧ ∀ k,
      ((bounds_Store_Vars.F (mS m) ()).bind fun y4 => (fulcrumlaw08_limits.F y4.2.2 (y4.2.1.1, ())).bind fun y5 => (bounds_Store_Lift.F y5.2.2 (o.2.1, o.2.2.1, o.2.2.2.1, ())).bind fun y6 => (fulcrumlaw08_limits.F y6.2.2 (y4.2.1.1, ())).bind fun y7 =>
        bif decide (o.2.1 ≥ (0 : Int)) then (bif !((y6.2.1.2.1 == (0 : Int)) == decide (o.2.1 < y4.2.1.1)) then some (false, ()) else LT (k + j) o y4.2.1.1 y5.2.1.1 y6.2.1.1.1 y6.2.1.1.2 y6.2.1.2.1 y7.2.1.1 (0 : Int))
        else (bif !((y6.2.1.2.1 == (0 : Int)) == false) then some (false, ()) else LT (k + j) o y4.2.1.1 y5.2.1.1 y6.2.1.1.1 y6.2.1.1.2 y6.2.1.2.1 y7.2.1.1 (0 : Int))) = some (true, ()) := by
    intro v hv
    have ok := play_ok (newM_ok (n := v.toNat) (by omega)) (os := x.2) hx
    have cm := cm_play (newM_ok (n := v.toNat) (by omega)) hx (cm_new v.toNat)
    have hp := played_F (x := (v, x.2)) hv hx (by show x.2.length < _; omega)
    refine ⟨playM (newM v.toNat) x.2, ?_⟩
    dsimp only at hp
    generalize playM (newM v.toNat) x.2 = m at ok cm hp
    obtain ⟨j, hj⟩ := tight_loop ok cm ho (m' := (asrt false m o.2.1 (dv o.2.2.1) o.2.2.2.1).1) (kd := (asrt false m o.2.1 (dv o.2.2.1) o.2.2.2.1).2.1.1) (ot := (asrt false m o.2.1 (dv o.2.2.1) o.2.2.2.1).2.1.2) (e := (asrt false m o.2.1 (dv o.2.2.1) o.2.2.2.1).2.2) rfl
    refine ⟨j, hp, fun k => ?_⟩
    have ok' := asrt_ok ok false o.2.1 ho.at'.norm o.2.2.2.1
    have hlen := asrt_len false m o.2.1 (dv o.2.2.1) o.2.2.2.1
    have hL2 := limits_F ok' (n := m.limits.length) (by omega)
    rw [← hlen, List.take_length, hlen] at hL2
    have hL1 := limits_F ok (Nat.le_refl _)
    rw [List.take_length] at hL1
    refine st (VarsM_F m) (st hL1 (st (Lift_F ok (by omega) o.2.1 ho.at' o.2.2.2.1) (st hL2 ?_)))
    have he : ((asrt false m o.2.1 (dv o.2.2.1) o.2.2.2.1).2.2 == (0 : Int)) = decide (0 ≤ o.2.1 ∧ o.2.1 < m.limits.length) := by
      unfold asrt
      by_cases hr : 0 ≤ o.2.1 ∧ o.2.1 < m.limits.length
      · rw [if_pos hr, decide_eq_true hr]
        dsimp only
        split
        · rfl
        · split <;> rfl
      · rw [if_neg hr, decide_eq_false hr]; rfl
    by_cases h0 : o.2.1 ≥ 0
    · refine yes (decide_eq_true h0) (no ?_ (hj k))
      show (!((asrt false m o.2.1 (dv o.2.2.1) o.2.2.2.1).2.2 == (0 : Int)) == decide (o.2.1 < (m.limits.length : Int))) = false
      have hd : decide (0 ≤ o.2.1 ∧ o.2.1 < (m.limits.length : Int)) = decide (o.2.1 < (m.limits.length : Int)) := decide_eq_decide.2 ⟨fun g => g.2, fun g => ⟨h0, g⟩⟩
      rw [he, hd, beq_self_eq_true]; rfl
    · refine no (decide_eq_false h0) (no ?_ (hj k))
      show (!((asrt false m o.2.1 (dv o.2.2.1) o.2.2.2.1).2.2 == (0 : Int)) == false) = false
      rw [he, decide_eq_false (by omega)]; rfl
  by_cases h1 : x.1 < 0
  · obtain ⟨m, j, hp, ht⟩ := tail 2 (by decide)
    exact fulcrumlaw08_BoundsTightens.of (0 + j) x o (yes (decide_eq_true h1) (st hp (ht 0)))
  by_cases h2 : x.1 > 65536
  · obtain ⟨m, j, hp, ht⟩ := tail 2 (by decide)
    exact fulcrumlaw08_BoundsTightens.of (0 + j) x o (no (decide_eq_false h1) (yes (decide_eq_true h2) (st hp (ht 0))))
  · obtain ⟨m, j, hp, ht⟩ := tail x.1 (by omega)
    exact fulcrumlaw08_BoundsTightens.of (0 + j) x o (no (decide_eq_false h1) (no (decide_eq_false h2) (st hp (ht 0))))
theorem boundsTightens_true (x : Dt60) (o : Dt50) (wx : K.wf Kt60 x) (wo : K.wf Kt50 o) (fx : K.fits Go.Proofs.Try.prog.bytesOf 140737488351232 Kt60 x) (fo : K.fits Go.Proofs.Try.prog.bytesOf 140737488351232 Kt50 o) :
    fulcrumlaw08_BoundsTightens.F (x, o, ()) = some (true, ()) := by
  have h := ops_of wx.2 fx.2
  exact tight_core x o h.1 (op_of wo fo) (by omega)
end Go.Fx.Try
