/- What an operation leaves alone. -/
import Derived.Test.YtjhbcpnliiegoaaEvB
namespace Go.Fx
open Go Go.RowKit
set_option linter.unusedVariables false
set_option linter.unusedSimpArgs false

section
variable {T : Tab} {C : Cals} {m m2 : Mem}

/-- All but 'ids' is as it was, and what is new comes behind. -/
structure Leaves (ids : List Nat) (m m' : Mem) : Prop where
  rows : ∀ i, i < m.rows.length → 2 * i ∉ ids → m'.row? i = m.row? i
  boxes : ∀ i, i < m.boxes.length → 2 * i + 1 ∉ ids → m'.box? i = m.box? i
  lr : m.rows.length ≤ m'.rows.length
  lb : m.boxes.length ≤ m'.boxes.length

theorem Leaves.refl (ids : List Nat) (m : Mem) : Leaves ids m m := ⟨fun _ _ _ => rfl, fun _ _ _ => rfl, Nat.le_refl _, Nat.le_refl _⟩
theorem Leaves.trans {x : List Nat} {m m1 m2 : Mem} (h : Leaves x m m1) (k : Leaves x m1 m2) : Leaves x m m2 :=
  ⟨fun i hi hn => (k.rows i (Nat.lt_of_lt_of_le hi h.lr) hn).trans (h.rows i hi hn), fun i hi hn => (k.boxes i (Nat.lt_of_lt_of_le hi h.lb) hn).trans (h.boxes i hi hn), Nat.le_trans h.lr k.lr, Nat.le_trans h.lb k.lb⟩
theorem Leaves.mono {x y : List Nat} {m m' : Mem} (h : Leaves x m m') (hs : ∀ i ∈ x, i ∈ y) : Leaves y m m' :=
  ⟨fun i hi hn => h.rows i hi fun hx => hn (hs _ hx), fun i hi hn => h.boxes i hi fun hx => hn (hs _ hx), h.lr, h.lb⟩

theorem Leaves.freeze (l : Leaf) : Leaves (ownR [l]) m (m.freeze l) := by
  cases l with
  | own r =>
    refine ⟨fun i hi hn => ?_, fun _ _ _ => rfl, by simp [Mem.freeze], Nat.le_refl _⟩
    rw [row?_freeze, if_neg]
    intro e; subst e; simp [ownR] at hn
  | _ => exact Leaves.refl _ _

theorem Leaves.freezeAll : ∀ (ls : List Leaf) (m : Mem), Leaves (ownR ls) m (m.freezeAll ls)
  | [], m => Leaves.refl _ _
  | l :: ls, m => by
    have h1 : Leaves (ownR (l :: ls)) m (m.freeze l) := (Leaves.freeze l).mono fun i hi => ownR_mem (by simp) i hi
    have h2 : Leaves (ownR (l :: ls)) (m.freeze l) ((m.freeze l).freezeAll ls) := (Leaves.freezeAll ls (m.freeze l)).mono fun i hi => by
      obtain ⟨l', hl, he⟩ := List.mem_filterMap.1 hi
      exact List.mem_filterMap.2 ⟨l', by simp [hl], he⟩
    exact h1.trans h2

theorem Leaves.set (r : Nat) (x : Option Row) : Leaves [2 * r] m ⟨m.rows.set r x, m.boxes⟩ :=
  ⟨fun i hi hn => by rw [row?_set, if_neg]; rintro ⟨rfl, _⟩; simp at hn, fun _ _ _ => rfl, by simp, Nat.le_refl _⟩
theorem Leaves.setBox (b : Nat) (x : Option Box) : Leaves [2 * b + 1] m ⟨m.rows, m.boxes.set b x⟩ :=
  ⟨fun _ _ _ => rfl, fun i hi hn => by rw [box?_set, if_neg]; rintro ⟨rfl, _⟩; simp at hn, Nat.le_refl _, by simp⟩
theorem Leaves.add (l : List (Option Row)) : Leaves [] m ⟨m.rows ++ l, m.boxes⟩ :=
  ⟨fun i hi _ => by rw [row?_app, if_pos hi], fun _ _ _ => rfl, by simp, Nat.le_refl _⟩
theorem Leaves.addBox (l : List (Option Box)) : Leaves [] m ⟨m.rows, m.boxes ++ l⟩ :=
  ⟨fun _ _ _ => rfl, fun i hi _ => by rw [box?_app, if_pos hi], Nat.le_refl _, by simp⟩
theorem Leaves.newRow {row : Row} {sv : SV} {m' : Mem} (h : newRow m row Go.Fx.mk = some (sv, m')) : Leaves [] m m' := by
  simp only [Go.Fx.newRow, Go.Fx.mk, Option.some.injEq, Prod.mk.injEq] at h
  rw [← h.2]; exact Leaves.add _

theorem allLeaves_ids (cs : List Cmp) : ownR (allLeaves cs) = cs.flatMap fun c => ownR c.leaves := by
  induction cs with
  | nil => rfl
  | cons c cs ih => simp only [allLeaves, List.flatMap_cons, ownR, List.filterMap_append] at ih ⊢; rw [ih]

theorem Leaves.nilMono {x : List Nat} {m m' : Mem} (h : Leaves [] m m') : Leaves x m m' := h.mono fun i hi => by simp at hi

theorem write_leaves {s : S} {o : Oper} {sv : SV} {m' : Mem} (h : evalOp C T s o mk = some (sv, m')) : Leaves (writesOf s o) s.m m' := by
  cases hw : isW C s o with
  | false => rw [(quiet_local hw h).1]; exact Leaves.refl _ _
  | true =>
    obtain ⟨dst, op, ty, pos, after, guard⟩ := o
    have one : ∀ {v : SV} {m1 : Mem}, mk v m1 = some (sv, m') → m' = m1 := by
      intro v m1 h
      simp only [mk, Option.some.injEq, Prod.mk.injEq] at h
      exact h.2.symm
    cases op <;> simp only [isW] at hw <;> try (cases hw; done)
    all_goals simp only [evalOp, writesOf] at h ⊢
    case store t x v =>
      cases hv : (s.opd v).cmp? with
      | none => simp [hv] at h
      | some cv =>
        simp only [hv] at h
        unfold storeE at h
        split at h
        case h_1 => cases h
        rename_i ag n ht
        obtain ⟨_, h⟩ := cond_none h
        split at h
        · rename_i r i o' hx
          simp only at h
          split at h
          · obtain ⟨_, h⟩ := cond_none h
            split at h
            · have e := one (v := .undef) h
              subst e
              have h1 : Leaves ((s.opd x).owns ++ (s.opd v).owns) s.m (s.m.freezeAll cv.leaves) := (Leaves.freezeAll _ _).mono fun i hi => by rw [cmp?_owns hv]; exact List.mem_append_right _ hi
              refine h1.trans ((Leaves.set (m := s.m.freezeAll cv.leaves) r _).mono fun i hi => ?_)
              simp at hi; subst hi
              exact List.mem_append_left _ (by try (rw [hx]); simp [SV.owns])
            · cases h
          · cases h
        · rename_i b o' hx
          split at h
          · obtain ⟨_, h⟩ := cond_none h
            have e := one (v := .undef) h
            subst e
            refine (Leaves.setBox b _).mono fun i hi => ?_
            simp at hi; subst hi
            exact List.mem_append_left _ (by try (rw [hx]); simp [SV.owns])
          · cases h
        · cases h
    case makeSlice t n q =>
      split at h
      case h_2 => cases h
      split at h
      case h_2 => cases h
      obtain ⟨_, h⟩ := cond_none h
      exact (Leaves.newRow h).nilMono
    case buildSlice t n ps =>
      split at h
      case h_2 => cases h
      split at h
      case h_2 => cases h
      rename_i cs hcs
      try simp only at h
      obtain ⟨_, h⟩ := cond_none h
      split at h
      case h_2 => cases h
      have hids : (ps.toList.flatMap fun p => (s.opd p.2).owns) = ownR (allLeaves cs) := by
        have h2 : seqOf (((ps.toList.map (·.2)).map s.opd).map SV.cmp?) = some cs := by rw [List.map_map, List.map_map]; exact hcs
        rw [allLeaves_ids, ← owns_cmps h2]
        simp [List.flatMap_map]
      rw [hids]
      exact (Leaves.freezeAll _ _).trans (Leaves.newRow h).nilMono
    case slice t x lo hi mx =>
      cases hsb : isSub C dst with
      | true => rw [hsb] at hw; cases hw
      | false =>
      rw [hsb] at hw h
      simp only [cond_false] at hw h
      split at h
      · rename_i fr xs l q h1 h2 h3 h4
        rw [h1] at hw; cases hw
      · rename_i lx l q hns h1 h2 h3 h4
        split at h
        case h_2 => cases h
        rw [leaf?_owns h1]
        cases lx with
        | val fr k xs => rw [h1] at hw; cases hw
        | nil => simp [sliceE] at h
        | own r =>
          unfold sliceE at h
          simp only at h
          split at h
          · cases h
          · rename_i row hr
            obtain ⟨_, h⟩ := cond_none h
            have cut : ∀ {n : Nat} {lo hi : Option Int} {g : List row.k.T → SV × Mem → Prop} {c : List row.k.T → Option (SV × Mem)} {p : SV × Mem}, cutE n List.take List.drop row.xs lo hi c = some p → ∃ y, c y = some p := by
              intro n lo hi g c p h
              obtain ⟨_, _, _, _, _, _, h⟩ := cutE_some h
              exact ⟨_, h⟩
            split at h
            · obtain ⟨y, h⟩ := cut (g := fun _ _ => True) h
              exact (Leaves.set (m := s.m) r none).trans (Leaves.newRow h).nilMono
            · obtain ⟨y, h⟩ := cut (g := fun _ _ => True) h
              rw [one h]
              exact Leaves.freeze (.own r)
      · rename_i lx l q h1 h2 h3 h4
        split at h
        case h_2 => cases h
        cases lx with
        | val fr k xs => rw [h1] at hw; cases hw
        | nil => simp [slice3E] at h
        | own r => simp [slice3E] at h
      · cases h
    case alloc t =>
      split at h
      case h_2 => cases h
      rw [one h]; exact Leaves.addBox _ |>.nilMono
    case box t x =>
      split at h
      case h_2 => cases h
      obtain ⟨_, h⟩ := cond_none h
      rw [one h]; exact Leaves.addBox _ |>.nilMono
    case call q =>
      split at h
      · rename_i g hg
        cases hio : C.io g with
        | some ig =>
          simp only [hio] at h
          generalize hxs : q.args.toList = zl at h
          cases zl with
          | nil => simp [callIO] at h
          | cons z l =>
            simp only [List.map_cons, callIO] at h
            split at h
            case h_2 => cases h
            rename_i r0 off len cs hp hcs
            try simp only at h
            split at h
            · cases h
            · split at h
              · cases h
              · obtain ⟨_, h⟩ := cond_none h
                split at h
                · cases h
                · obtain ⟨y, hy, h⟩ := Option.bind_eq_some_iff.1 h
                  split at h
                  · obtain ⟨_, h⟩ := cond_none h
                    rw [one h]
                    simp only [List.flatMap_cons]
                    rw [owns_cmps hcs, ← allLeaves_ids, part?_sub hp]
                    exact ((Leaves.freezeAll _ _).mono fun i hi => List.mem_append_right _ hi).trans ((Leaves.set (m := s.m.freezeAll (allLeaves cs)) r0 _).mono fun i hi => List.mem_append_left _ hi)
                  · cases h
        | none =>
        simp only [hio] at h
        unfold callE at h
        split at h
        case h_2 => cases h
        rename_i sg cs hC hcs
        simp only at h
        obtain ⟨_, h⟩ := cond_none h
        split at h
        · cases h
        · obtain ⟨y, hy, h⟩ := Option.bind_eq_some_iff.1 h
          split at h
          · cases h
          · rw [one h]
            rw [owns_cmps hcs, ← allLeaves_ids]
            refine Leaves.trans (m1 := if sg.md.isShared = true then s.m.freezeAll (allLeaves cs) else s.m) ?_ (Leaves.add _).nilMono
            split
            · exact Leaves.freezeAll _ _
            · exact Leaves.refl _ _
      · rename_i b hg
        obtain ⟨_, h⟩ := cond_none h
        generalize hxs : q.args.toList.map s.opd = xs at h
        have hids : ∀ l, SV.one (.lf l) ∈ xs → ∀ i ∈ ownR [l], i ∈ q.args.toList.flatMap fun x => (s.opd x).owns := by
          intro l hl i hi
          rw [← hxs] at hl
          obtain ⟨x, hx1, hx2⟩ := List.mem_map.1 hl
          exact List.mem_flatMap.2 ⟨x, hx1, by rw [hx2]; exact hi⟩
        unfold builtinE at h
        split at h
        · split at h
          · rw [one h]; exact Leaves.refl _ _
          · cases h
        · split at h
          · rw [one h]; exact Leaves.refl _ _
          · cases h
        · rename_i l y _
          try simp only at h
          obtain ⟨_, h⟩ := cond_none h
          have hy : Leaves (q.args.toList.flatMap fun x => (s.opd x).owns) s.m (s.m.freeze y) := (Leaves.freeze y).mono (hids y (by simp))
          split at h
          · split at h
            · split at h
              · obtain ⟨_, h⟩ := cond_none h
                exact hy.trans (Leaves.newRow h).nilMono
              · rename_i r _
                split at h
                · split at h
                  · obtain ⟨_, h⟩ := cond_none h
                    refine (hy.trans ((Leaves.set (m := s.m.freeze y) r none).mono (hids (.own r) (by simp)))).trans (Leaves.newRow h).nilMono
                  · cases h
                · cases h
              · cases h
            · cases h
          · cases h
        · rename_i r y _
          try simp only at h
          have hy : Leaves (q.args.toList.flatMap fun x => (s.opd x).owns) s.m (s.m.freeze y) := (Leaves.freeze y).mono (hids y (by simp))
          split at h
          · split at h
            · obtain ⟨_, h⟩ := cond_none h
              rw [one h]
              exact hy.trans ((Leaves.set (m := s.m.freeze y) r _).mono (hids (.own r) (by simp)))
            · cases h
          · cases h
        · rename_i r oo nn gg y _
          try simp only at h
          have hy : Leaves (q.args.toList.flatMap fun x => (s.opd x).owns) s.m (s.m.freeze y) := (Leaves.freeze y).mono (hids y (by simp))
          split at h
          · split at h
            · obtain ⟨_, h⟩ := cond_none h
              rw [one h]
              refine hy.trans ((Leaves.set (m := s.m.freeze y) r _).mono fun i hi => ?_)
              have hl : SV.sub r oo nn gg ∈ q.args.toList.map s.opd := by rw [hxs]; simp
              obtain ⟨x, hx1, hx2⟩ := List.mem_map.1 hl
              exact List.mem_flatMap.2 ⟨x, hx1, by rw [hx2]; exact hi⟩
            · cases h
          · cases h
        · cases h
      · cases h
end
end Go.Fx
