/- A function's contract. -/
import Derived.Test.YthmdbafinpmojaaGreatEv19
namespace Go.Fx
open Go Go.RowKit
set_option linter.unusedVariables false
set_option linter.unusedSimpArgs false

section
variable {P : Program} {T : Tab} {C : Cals} {w : World} {may : Nat → Prop} {ow : Ow} {m : Mem} {s : S} {a : Act}

theorem results_ok (TK : TabOk P T) (M : MemRel w may ow s.m) (F : FrRel w (okOf ow s.m) may ow s a) {f : Func} {cs : List Cmp} (h : seqOf (f.results.toList.map (resV T s)) = some cs) :
    ∃ us, F2 (CmpRel w (okOf ow s.m) may ow) cs us ∧ (results f a.tmps).run P w = .ok (if h : us.toArray.size = 1 then us.toArray[0] else .tuple us.toArray) w := by
  have one : ∀ rv c, resV T s rv = some c → ∃ u, CmpRel w (okOf ow s.m) may ow c u ∧ (match rv with
      | .tmp t => (pure (a.tmps.getD t undef) : Sem Value)
      | .cell x t => do loadVar t (← asAddr (a.tmps.getD x undef))).run P w = .ok u w := by
    intro rv c hc
    cases rv with
    | tmp t => exact ⟨_, cmp?_rel (F t) hc, by simp⟩
    | cell x t =>
      simp only [resV] at hc
      split at hc
      case h_2 => cases hc
      rename_i b ag n hb ht
      split at hc
      case h_2 => cases hc
      rename_i bx hbx
      obtain ⟨hn, hmk⟩ := cond_none hc
      have hn := Nat.eq_of_beq_eq_true hn
      obtain ⟨ti, hT, hti⟩ := tyN_some ht
      obtain ⟨rfl, rfl⟩ := Prod.mk.inj hti
      have hx := F x
      rw [hb] at hx
      obtain ⟨g, hg, hv⟩ := hx
      obtain ⟨g', hg', vs, hcell, hF⟩ := M.boxes b bx hbx
      obtain rfl : g = g' := Option.some.inj (Option.some.inj (hg.symm.trans hg'))
      obtain ⟨u, h1, h2⟩ := loadVar_ok (ad := ⟨g, 0, none⟩) TK hT hF hn (fun j u hu => by
        rw [Addr.add_zero_off]
        simp [World.cell?, hcell, hu]) hmk
      refine ⟨u, h2, ?_⟩
      have h0 : a.tmps.getD x undef = .pointer (some ⟨g, 0, none⟩) := by rw [hv, Addr.add_zero_off]
      simp only [h0]
      simp [asAddr, h1]
  have all : ∀ (l : List ResultVar) (cs : List Cmp), seqOf (l.map (resV T s)) = some cs → ∃ us, F2 (CmpRel w (okOf ow s.m) may ow) cs us ∧ (l.mapM (fun rv : ResultVar => (match rv with
      | .tmp t => (pure (a.tmps.getD t undef) : Sem Value)
      | .cell x t => do loadVar t (← asAddr (a.tmps.getD x undef))))).run P w = .ok us w := by
    intro l
    induction l with
    | nil => intro cs h; obtain rfl := Option.some.inj h; exact ⟨[], trivial, by simp⟩
    | cons rv l ih =>
      intro cs h
      simp only [List.map_cons] at h
      cases h1 : resV T s rv with
      | none => rw [h1] at h; simp [seqOf] at h
      | some c =>
        rw [h1] at h
        simp only [seqOf] at h
        obtain ⟨cs', h2, rfl⟩ := Option.map_eq_some_iff.1 h
        obtain ⟨us, h3, h4⟩ := ih cs' h2
        obtain ⟨u, h5, h6⟩ := one rv c h1
        refine ⟨u :: us, ⟨h5, h3⟩, ?_⟩
        rw [List.mapM_cons]
        simp only [Sem.run_bind, h6, Result.andThen_ok, h4]
        rfl
  obtain ⟨us, h1, h2⟩ := all _ cs h
  refine ⟨us, h1, ?_⟩
  unfold results
  rw [Array.mapM_eq_mapM_toList]
  simp only [Sem.run_bind, Sem.run_map]
  erw [h2]
  rfl
end
end Go.Fx
