/- A function's contract. -/
import Derived.Test.YtjhbcpnliiegoaaEv19
namespace Go.Fx
open Go Go.RowKit
set_option linter.unusedVariables false
set_option linter.unusedSimpArgs false
section
variable {P : Program} {T : Tab} {C : Cals} {w : World} {may : Nat → Prop} {ow : Ow} {m : Mem} {s : S} {a : Act}
theorem frzS_inv {fz : Nat → Prop} {N : Nat} {w0 : World} {s : S} (I : Inv fz may N w0 s a w ow) (t : Nat) {Z : Type} {c : S → Option Z} {y : Z} (h : frzS s t c = some y) : ∃ s', Inv fz may N w0 s' a w ow ∧ c s' = some y := by
  have hF := I.fr t
  unfold frzS at h
  cases hv : s.get t with
  | sub q o n g =>
    rw [hv] at hF
    simp only [hv] at h
    obtain ⟨hq, ⟨A0, L0, C0, hrv⟩, hF⟩ := hF
    cases hr : s.m.row? q with
    | none => simp [hr] at h
    | some row =>
      simp only [hr] at h
      obtain ⟨hb, h⟩ := cond_none h
      have hb := Nat.le_of_ble_eq_true hb
      obtain ⟨hle, ⟨A, c, hvv, hnc⟩, hpos⟩ := hF row hr
      obtain ⟨M1, K1⟩ := I.mem.freeze (.own q)
      have hr1 : (s.m.freeze (.own q)).row? q = some { row with rw := false } := by
        rw [row?_freeze, if_pos rfl, hr]; rfl
      obtain ⟨u, hu, _, R⟩ := M1.sl q _ hr1 hrv ⟨_, _, _, rfl⟩
      simp only [Bool.false_eq_true, if_false] at R
      refine ⟨_, ⟨M1, fun t' => ?_, I.size, I.defers, I.base.keep K1⟩, h⟩
      show SVRel _ _ _ _ _ (lookup ((t, _) :: s.fr) t') _
      simp only [lookup]
      cases he : Nat.beq t t' with
      | false => exact SVRel.keep K1 (I.fr t')
      | true =>
        have := Nat.eq_of_beq_eq_true he
        subst this
        have hlen : (List.take n (List.drop o row.xs)).length = n := by rw [List.length_take, List.length_drop]; omega
        refine ⟨A, c, by rw [hvv, hlen], by rw [hlen]; exact hnc, fun i x hi => ?_⟩
        have hin : i < n := by
          have := (List.getElem?_eq_some_iff.1 hi).1
          omega
        obtain ⟨γ, L, C, c', hγ, hv2, _⟩ := hpos (by omega)
        rw [hγ] at hu
        obtain rfl := Option.some.inj hu
        obtain ⟨A2, c2, e2, _, hx⟩ := R
        simp only [List.cons.injEq, Value.slice.injEq, and_true] at e2
        obtain ⟨rfl, _, _⟩ := e2
        rw [List.getElem?_take_of_lt hin, List.getElem?_drop] at hi
        obtain ⟨ad, es, e3, h1, h2, h3, h4⟩ := hx (o + i) x hi
        obtain rfl := Option.some.inj e3
        rw [hvv] at hv2
        simp only [Value.slice.injEq, true_and] at hv2
        obtain ⟨rfl, _⟩ := hv2
        refine ⟨_, es, rfl, by rw [Addr.add_block]; exact h1, by rw [Addr.add_block]; exact h2, h3, fun j v hj => ?_⟩
        rw [Addr.add_add']
        have := h4 j v hj
        rwa [Nat.add_mul, Nat.add_assoc] at this
  | _ => simp only [hv] at h; exact ⟨s, I, h⟩
/-- Maps and parts of rows that are told are written no more. -/
theorem frz1_inv {fz : Nat → Prop} {N : Nat} {w0 : World} {s : S} (I : Inv fz may N w0 s a w ow) {Z : Type} {c : S → Option Z} {y : Z} (rv : ResultVar) (h : frz1 s c rv = some y) : ∃ s', Inv fz may N w0 s' a w ow ∧ c s' = some y := by
  cases rv with
  | cell x t => exact ⟨s, I, h⟩
  | tmp t =>
    unfold frz1 at h
    simp only at h
    cases hb : isMpo (s.get t) with
    | false => rw [hb] at h; exact frzS_inv I t h
    | true =>
      simp only [hb, cond_true] at h
      have hF : F2 (fun sv v => SVRel w (okOf ow s.m) may ow s.m sv v) [s.get t] [a.tmps.getD t undef] := ⟨I.fr t, trivial⟩
      obtain ⟨M1, K1, F1⟩ := frz_rel I.mem hF
      refine ⟨_, ⟨M1, fun t' => ?_, I.size, I.defers, I.base.keep K1⟩, h⟩
      show SVRel _ _ _ _ _ (lookup ((t, frzV s.m (s.get t)) :: s.fr) t') _
      simp only [lookup]
      cases he : Nat.beq t t' with
      | true =>
        have := Nat.eq_of_beq_eq_true he
        subst this
        exact F1.1
      | false => exact SVRel.keep K1 (I.fr t')
theorem frz_inv {fz : Nat → Prop} {N : Nat} {w0 : World} {Z : Type} {c : S → Option Z} {y : Z} : ∀ {res : List ResultVar} {s : S}, Inv fz may N w0 s a w ow → frzC c res s = some y → ∃ s', Inv fz may N w0 s' a w ow ∧ c s' = some y
  | [], s, I, h => ⟨s, I, h⟩
  | rv :: res, s, I, h => by
    obtain ⟨s', I', h'⟩ := frz1_inv I rv h
    exact frz_inv (res := res) I' h'
theorem results_ok (TK : TabOk P T) (M : MemRel w may ow s.m) (F : FrRel w (okOf ow s.m) may ow s a) {f : Func} {cs : List Cmp} (h : seqOf (f.results.toList.map (resV T s)) = some cs) :
    ∃ us, F2 (CmpRel w (okOf ow s.m) may ow) cs us ∧ (results f a.tmps).run P w = .ok (if h : us.toArray.size = 1 then us.toArray[0] else .tuple us.toArray) w := by
  have one : ∀ rv c, resV T s rv = some c → ∃ u, CmpRel w (okOf ow s.m) may ow c u ∧ (match rv with
      | .tmp t => (pure (a.tmps.getD t undef) : Sem Value)
      | .cell x t => do loadVar t (← asAddr (a.tmps.getD x undef))).run P w = .ok u w := by
    intro rv c hc
    cases rv with
    | tmp t => exact ⟨_, cmp?_rel (F t) hc, by simp⟩
    | cell x t =>
      simp only [resV] at hc
      split at hc
      case h_2 => cases hc
      rename_i b ag n hb ht
      split at hc
      case h_2 => cases hc
      rename_i bx hbx
      obtain ⟨hn, hmk⟩ := cond_none hc
      have hn := Nat.eq_of_beq_eq_true hn
      obtain ⟨ti, hT, hti⟩ := tyN_some ht
      obtain ⟨rfl, rfl⟩ := Prod.mk.inj hti
      have hx := F x
      rw [hb] at hx
      obtain ⟨g, hg, hv⟩ := hx
      obtain ⟨g', hg', vs, hcell, hF⟩ := M.boxes b bx hbx
      obtain rfl : g = g' := Option.some.inj (Option.some.inj (hg.symm.trans hg'))
      obtain ⟨u, h1, h2⟩ := loadVar_ok (ad := ⟨g, 0, none⟩) TK hT hF hn (fun j u hu => by
        rw [Addr.add_zero_off]
        simp [World.cell?, hcell, hu]) hmk
      refine ⟨u, h2, ?_⟩
      have h0 : a.tmps.getD x undef = .pointer (some ⟨g, 0, none⟩) := by rw [hv, Addr.add_zero_off]
      simp only [h0]
      simp [asAddr, h1]
  have all : ∀ (l : List ResultVar) (cs : List Cmp), seqOf (l.map (resV T s)) = some cs → ∃ us, F2 (CmpRel w (okOf ow s.m) may ow) cs us ∧ (l.mapM (fun rv : ResultVar => (match rv with
      | .tmp t => (pure (a.tmps.getD t undef) : Sem Value)
      | .cell x t => do loadVar t (← asAddr (a.tmps.getD x undef))))).run P w = .ok us w := by
    intro l
    induction l with
    | nil => intro cs h; obtain rfl := Option.some.inj h; exact ⟨[], trivial, by simp⟩
    | cons rv l ih =>
      intro cs h
      simp only [List.map_cons] at h
      cases h1 : resV T s rv with
      | none => rw [h1] at h; simp [seqOf] at h
      | some c =>
        rw [h1] at h
        simp only [seqOf] at h
        obtain ⟨cs', h2, rfl⟩ := Option.map_eq_some_iff.1 h
        obtain ⟨us, h3, h4⟩ := ih cs' h2
        obtain ⟨u, h5, h6⟩ := one rv c h1
        refine ⟨u :: us, ⟨h5, h3⟩, ?_⟩
        rw [List.mapM_cons]
        simp only [Sem.run_bind, h6, Result.andThen_ok, h4]
        rfl
  obtain ⟨us, h1, h2⟩ := all _ cs h
  refine ⟨us, h1, ?_⟩
  unfold results
  rw [Array.mapM_eq_mapM_toList]
  simp only [Sem.run_bind, Sem.run_map]
  erw [h2]
  rfl
end
end Go.Fx
