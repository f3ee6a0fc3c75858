/- A function's contract. -/
import Derived.Test.YtjhbcpnliiegoaaDoorEv19
namespace Go.Fx
open Go Go.RowKit
set_option linter.unusedVariables false
set_option linter.unusedSimpArgs false

section
variable {P : Program} {T : Tab} {C : Cals} {w : World} {may : Nat → Prop} {ow : Ow} {m : Mem} {s : S} {a : Act}

theorem thawL_len : ∀ (x : List Leaf) (n : Nat), (thawL n x).1.length = x.length
  | [], n => rfl
  | l :: x, n => by
    have ih := fun n => thawL_len x n
    match l with
    | .val fr (.sl e k) xs => simp only [thawL, ih, List.length_cons]
    | .val fr (.int q) xs => simp only [thawL, ih, List.length_cons]
    | .val fr .bool xs => simp only [thawL, ih, List.length_cons]
    | .val fr .str xs => simp only [thawL, ih, List.length_cons]
    | .val fr .unit xs => simp only [thawL, ih, List.length_cons]
    | .val fr (.prod a b) xs => simp only [thawL, ih, List.length_cons]
    | .nil => simp only [thawL, ih, List.length_cons]
    | .own q => simp only [thawL, ih, List.length_cons]

theorem thaw_own (M : MemRel w may ow m) : ∀ {rs : List (Bool × K)} {cs : List Cmp} {us : List Value} {y : argT rs} (n : Nat), (allLeaves cs).all (ownLf m) = true → aggOk rs cs = true → F2 (CmpRel w (okOf ow m) may ow) cs us → packArgs m rs cs = some y →
    ∃ cs' rows rv ids, thaw true false n rs y = some (cs', rows) ∧ Made w may ow m rows rv ids ∧ ids.filterMap id = ownIds (allLeaves cs) ∧ ∀ (ok' may' : Nat → Prop) (o' : Ow), RvAt n rv o'.rv → F2 (CmpRel w ok' may' o') cs' us
  | [], [], us, y, n, ha, hg, h, e => ⟨[], [], [], [], rfl, Made.nil, rfl, fun _ _ _ _ => by obtain rfl := h.nil_left; trivial⟩
  | [], _ :: _, us, y, n, ha, hg, h, e => by simp [packArgs] at e
  | p :: rs, [], us, y, n, ha, hg, h, e => by simp [packArgs] at e
  | p :: rs, c :: cs, [], y, n, ha, hg, h, e => h.elim
  | p :: rs, c :: cs, u :: us, y, n, ha, hg, h, e => by
    have hal : allLeaves (c :: cs) = c.leaves ++ allLeaves cs := by simp [allLeaves]
    rw [hal, List.all_append, Bool.and_eq_true] at ha
    simp only [packArgs] at e
    cases h1 : packK m p.2 c.leaves with
    | none => simp [h1] at e
    | some z =>
      cases h2 : packArgs m rs cs with
      | none => simp [h1, h2] at e
      | some z2 =>
        simp only [h1, h2] at e
        obtain rfl := Option.some.inj e
        obtain ⟨rv1, ids1, m1, i1, f1⟩ := thawL_own M (k := p.2) n ha.1 h.1.cells h1
        have hg' : aggOk rs cs = true := by cases c <;> simp only [aggOk, Bool.and_eq_true] at hg <;> exact hg.2
        obtain ⟨cs', rows, rv2, ids2, t2, m2, i2, f2⟩ := thaw_own M (n + (thawL n (splitK true p.2 z)).2.length) ha.2 hg' h.2 h2
        cases c with
        | lf l =>
          simp only [aggOk, Bool.and_eq_true, Bool.not_eq_true'] at hg
          have hone : u.cells.toList = [u] := by
            have h3 : LfRel w (okOf ow m) may ow l u := h.1
            rw [oneCell_cells h3.one]
          rw [hone] at f1
          have hlen : (thawL n (splitK true p.2 z)).1.length = 1 := by
            have h4 := (f1 (fun _ => True) (fun _ => True) ⟨List.replicate n undef ++ rv1, []⟩ (fun i v hv => by
              show (List.replicate n undef ++ rv1)[n + i]? = some v
              rw [List.getElem?_append_right (by simp), List.length_replicate, Nat.add_sub_cancel_left]; exact hv)).len
            simpa using h4
          match hq : (thawL n (splitK true p.2 z)).1, hlen with
          | [l'], _ =>
            refine ⟨.lf l' :: cs', (thawL n (splitK true p.2 z)).2 ++ rows, rv1 ++ rv2, ids1 ++ ids2, ?_, m1.append m2, ?_, fun ok' may' o' hr => ?_⟩
            · simp [thaw, hg.1, hq, mkC, t2]
            · rw [List.filterMap_append, i1, i2, hal, ownIds_append]
            · have h5 := f1 ok' may' o' hr.left
              rw [hq] at h5
              exact ⟨h5.1, f2 ok' may' o' (by rw [← m1.len]; exact hr.right)⟩
        | agg ls =>
          simp only [aggOk, Bool.and_eq_true] at hg
          obtain ⟨es, rfl, h3⟩ := h.1
          refine ⟨.agg (thawL n (splitK true p.2 z)).1 :: cs', (thawL n (splitK true p.2 z)).2 ++ rows, rv1 ++ rv2, ids1 ++ ids2, ?_, m1.append m2, ?_, fun ok' may' o' hr => ?_⟩
          · simp [thaw, hg.1, mkC, t2]
          · rw [List.filterMap_append, i1, i2, hal, ownIds_append]
          · exact ⟨⟨es, rfl, by simpa [Value.cells] using f1 ok' may' o' hr.left⟩, f2 ok' may' o' (by rw [← m1.len]; exact hr.right)⟩

theorem ids_inj : ∀ {ids : List (Option Nat)} {i j r : Nat}, noDup (ids.filterMap id) = true → ids[i]? = some (some r) → ids[j]? = some (some r) → i = j
  | [], i, j, r, h, hi, hj => by simp at hi
  | none :: ids, i, j, r, h, hi, hj => by
    cases i <;> cases j <;> simp at hi hj ⊢
    exact ids_inj (by simpa using h) hi hj
  | some x :: ids, i, j, r, h, hi, hj => by
    simp only [List.filterMap_cons, id] at h
    simp only [noDup, Bool.and_eq_true, Bool.not_eq_true', List.any_eq_false] at h
    have no : ∀ k, ids[k]? = some (some x) → False := fun k hk => h.1 x (List.mem_filterMap.2 ⟨some x, List.mem_of_getElem? hk, rfl⟩) (Nat.beq_refl x)
    cases i with
    | zero =>
      cases j with
      | zero => rfl
      | succ j => simp at hi hj; subst hi; exact (no _ hj).elim
    | succ i =>
      cases j with
      | zero => simp at hi hj; subst hj; exact (no _ hi).elim
      | succ j => simp at hi hj; rw [ids_inj h.2 hi hj]

/-- The rows that are handed over, alone. -/
theorem Made.mem (M : MemRel w may ow m) {rows : List (Option Row)} {rv : List Value} {ids : List (Option Nat)} (h : Made w may ow m rows rv ids) (hd : noDup (ids.filterMap id) = true) :
    MemRel w may ⟨rv, []⟩ ⟨rows, []⟩ ∧ ∀ b, okOf ow m b → okOf ⟨rv, []⟩ ⟨rows, []⟩ b := by
  have hsub : ∀ x b, blk ⟨rv, []⟩ ⟨rows, []⟩ x = some b → ∃ i r, x = .row i ∧ ids[i]? = some (some r) ∧ blk ow m (.row r) = some b := by
    intro x b hx
    cases x with
    | box i => simp [blk, Mem.box?] at hx
    | row i =>
      unfold blk at hx
      simp only at hx
      split at hx
      · rename_i row hr
        obtain ⟨v, h1, h2, h3⟩ := h.row i row hr
        split at hx
        · rw [h1] at hx
          obtain ⟨r, h4, h5⟩ := h3 b hx
          exact ⟨i, r, rfl, h4, h5⟩
        · cases hx
      · cases hx
  have hok : ∀ b, okOf ow m b → okOf ⟨rv, []⟩ ⟨rows, []⟩ b := by
    intro b hb x hx
    obtain ⟨i, r, _, _, h1⟩ := hsub x b hx
    exact hb _ h1
  refine ⟨⟨h.len, rfl, fun i row e => ?_, fun i bx e => by simp [Mem.box?] at e, fun x y b h1 k1 => ?_, fun x b h1 => ?_, fun i hi e => by simp at hi⟩, hok⟩
  · obtain ⟨v, h1, h2, _⟩ := h.row i row e
    exact ⟨v, h1, h2.keep (Stay.mono fun b _ hb => hok b hb) fun _ _ _ => rfl⟩
  · obtain ⟨i, r, rfl, h2, h3⟩ := hsub x b h1
    obtain ⟨j, q, rfl, k2, k3⟩ := hsub y b k1
    have := M.dis _ _ b h3 k3
    injection this with this
    subst this
    rw [ids_inj hd h2 k2]
  · obtain ⟨i, r, rfl, h2, h3⟩ := hsub x b h1
    exact M.may_ _ _ h3

theorem results_ok (TK : TabOk P T) (M : MemRel w may ow s.m) (F : FrRel w (okOf ow s.m) may ow s a) {f : Func} {cs : List Cmp} (h : seqOf (f.results.toList.map (resV T s)) = some cs) :
    ∃ us, F2 (CmpRel w (okOf ow s.m) may ow) cs us ∧ (results f a.tmps).run P w = .ok (if h : us.toArray.size = 1 then us.toArray[0] else .tuple us.toArray) w := by
  have one : ∀ rv c, resV T s rv = some c → ∃ u, CmpRel w (okOf ow s.m) may ow c u ∧ (match rv with
      | .tmp t => (pure (a.tmps.getD t undef) : Sem Value)
      | .cell x t => do loadVar t (← asAddr (a.tmps.getD x undef))).run P w = .ok u w := by
    intro rv c hc
    cases rv with
    | tmp t => exact ⟨_, cmp?_rel (F t) hc, by simp⟩
    | cell x t =>
      simp only [resV] at hc
      split at hc
      case h_2 => cases hc
      rename_i b ag n hb ht
      split at hc
      case h_2 => cases hc
      rename_i bx hbx
      obtain ⟨hn, hmk⟩ := cond_none hc
      have hn := Nat.eq_of_beq_eq_true hn
      obtain ⟨ti, hT, hti⟩ := tyN_some ht
      obtain ⟨rfl, rfl⟩ := Prod.mk.inj hti
      have hx := F x
      rw [hb] at hx
      obtain ⟨g, hg, hv⟩ := hx
      obtain ⟨g', hg', vs, hcell, hF⟩ := M.boxes b bx hbx
      obtain rfl : g = g' := Option.some.inj (Option.some.inj (hg.symm.trans hg'))
      obtain ⟨u, h1, h2⟩ := loadVar_ok (ad := ⟨g, 0, none⟩) TK hT hF hn (fun j u hu => by
        rw [Addr.add_zero_off]
        simp [World.cell?, hcell, hu]) hmk
      refine ⟨u, h2, ?_⟩
      have h0 : a.tmps.getD x undef = .pointer (some ⟨g, 0, none⟩) := by rw [hv, Addr.add_zero_off]
      simp only [h0]
      simp [asAddr, h1]
  have all : ∀ (l : List ResultVar) (cs : List Cmp), seqOf (l.map (resV T s)) = some cs → ∃ us, F2 (CmpRel w (okOf ow s.m) may ow) cs us ∧ (l.mapM (fun rv : ResultVar => (match rv with
      | .tmp t => (pure (a.tmps.getD t undef) : Sem Value)
      | .cell x t => do loadVar t (← asAddr (a.tmps.getD x undef))))).run P w = .ok us w := by
    intro l
    induction l with
    | nil => intro cs h; obtain rfl := Option.some.inj h; exact ⟨[], trivial, by simp⟩
    | cons rv l ih =>
      intro cs h
      simp only [List.map_cons] at h
      cases h1 : resV T s rv with
      | none => rw [h1] at h; simp [seqOf] at h
      | some c =>
        rw [h1] at h
        simp only [seqOf] at h
        obtain ⟨cs', h2, rfl⟩ := Option.map_eq_some_iff.1 h
        obtain ⟨us, h3, h4⟩ := ih cs' h2
        obtain ⟨u, h5, h6⟩ := one rv c h1
        refine ⟨u :: us, ⟨h5, h3⟩, ?_⟩
        rw [List.mapM_cons]
        simp only [Sem.run_bind, h6, Result.andThen_ok, h4]
        rfl
  obtain ⟨us, h1, h2⟩ := all _ cs h
  refine ⟨us, h1, ?_⟩
  unfold results
  rw [Array.mapM_eq_mapM_toList]
  simp only [Sem.run_bind, Sem.run_map]
  erw [h2]
  rfl
end
end Go.Fx
