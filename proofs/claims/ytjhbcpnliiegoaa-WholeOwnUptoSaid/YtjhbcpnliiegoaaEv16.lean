/- The head of a loop: a state in the shape that is asked, and numbered anew. -/
import Derived.Test.YtjhbcpnliiegoaaEv15
namespace Go.Fx
open Go Go.RowKit
set_option linter.unusedVariables false
set_option linter.unusedSimpArgs false
section
variable {P : Program} {T : Tab} {C : Cals} {w : World} {may : Nat → Prop} {ow : Ow} {s : S} {a : Act} {m : Mem}
theorem coL_ok (M : MemRel w may ow m) {x : LS} {l : Leaf} {p : Leaf × Mem} (h : coL m x l = some p) :
    ∃ ow', MemRel w may ow' p.2 ∧ Keep may w ow m w ow' p.2 ∧ p.2.boxes = m.boxes ∧ ∀ v, LfRel w (okOf ow m) may ow l v → LfRel w (okOf ow' p.2) may ow' p.1 v := by
  cases x with
  | v fr =>
    cases l with
    | val fr' k y =>
      obtain ⟨hb, h⟩ := cond_none h
      obtain rfl := Option.some.inj h
      refine ⟨ow, M, Keep.refl _ _ _ _, rfl, fun v hv => Rd.up (f := fr') hv fun e => ?_⟩
      subst e; simpa using hb
    | nil =>
      obtain rfl := Option.some.inj h
      exact ⟨ow, M, Keep.refl _ _ _ _, rfl, fun v hv => hv⟩
    | own r =>
      simp only [coL] at h
      cases hr : m.row? r with
      | none => simp [hr] at h
      | some row =>
        simp only [hr] at h
        obtain ⟨hb, h⟩ := cond_none h
        obtain rfl := Option.some.inj h
        obtain ⟨M1, K1⟩ := M.freeze (.own r)
        refine ⟨ow, M1, K1, rfl, fun v hv => ?_⟩
        obtain ⟨v1, hv1, RR⟩ := M1.sl r { row with rw := false } (by rw [row?_freeze, if_pos rfl, hr]; rfl) hv.1 hv.2
        obtain rfl : v = v1 := Option.some.inj (hv.1.symm.trans hv1)
        have := RR.2
        simp only [Bool.false_eq_true, if_false] at this
        refine Rd.up (f := row.fr) this fun e => ?_
        subst e; simpa using hb
  | z e k fr =>
    cases l with
    | val fr' k' y =>
      obtain ⟨hb, h⟩ := cond_none h
      obtain rfl := Option.some.inj h
      refine ⟨ow, M, Keep.refl _ _ _ _, rfl, fun v hv => Rd.up (f := fr') hv fun e => ?_⟩
      subst e; simpa using hb
    | nil =>
      obtain rfl := Option.some.inj h
      refine ⟨ow, M, Keep.refl _ _ _ _, rfl, fun v hv => ?_⟩
      obtain rfl : v = .slice none 0 0 := hv
      exact ⟨none, 0, rfl, Nat.zero_le _, fun i x hx => by simp at hx⟩
    | own r =>
      simp only [coL] at h
      cases hr : m.row? r with
      | none => simp [hr] at h
      | some row =>
        simp only [hr] at h
        obtain ⟨hb, h⟩ := cond_none h
        obtain rfl := Option.some.inj h
        obtain ⟨M1, K1⟩ := M.freeze (.own r)
        refine ⟨ow, M1, K1, rfl, fun v hv => ?_⟩
        obtain ⟨v1, hv1, RR⟩ := M1.sl r { row with rw := false } (by rw [row?_freeze, if_pos rfl, hr]; rfl) hv.1 hv.2
        obtain rfl : v = v1 := Option.some.inj (hv.1.symm.trans hv1)
        have := RR.2
        simp only [Bool.false_eq_true, if_false] at this
        refine Rd.up (f := row.fr) this fun e => ?_
        subst e; simpa using hb
  | o e k fr =>
    cases l with
    | val fr' k' y => simp [coL] at h
    | nil =>
      obtain rfl := Option.some.inj h
      obtain ⟨M1, K1⟩ := M.add (w' := w) ⟨e, k, fr, true, []⟩ (.slice none 0 0) (Nat.le_refl _) rfl rfl rfl (fun _ _ => rfl) rfl [] (World.ownsRow_nil w 0 _ _) rfl (fun b hb => by simp [Value.ownBlock] at hb)
      refine ⟨_, M1, K1, rfl, fun v hv => ?_⟩
      obtain rfl := hv
      refine ⟨?_, _, _, _, rfl⟩
      show (ow.rv ++ [_])[m.rows.length]? = _
      rw [← M.rlen]; simp
    | own r =>
      simp only [coL] at h
      cases hr : m.row? r with
      | none => simp [hr] at h
      | some row =>
        simp only [hr] at h
        obtain ⟨hb, h⟩ := cond_none h
        obtain rfl := Option.some.inj h
        simp only [Bool.and_eq_true, Bool.or_eq_true, Bool.not_eq_true'] at hb
        obtain ⟨M1, K1⟩ := M.weaken (m' := ⟨m.rows.set r (some { row with fr := fr }), m.boxes⟩) rfl (by simp) fun i row' hi => by
          rw [row?_set] at hi
          split at hi
          · rename_i hc
            obtain rfl := Option.some.inj hi
            refine ⟨row, by rw [hc.1]; exact hr, rfl, ⟨rfl, rfl⟩, fun h => h, fun e => ?_⟩
            simp only at e
            rcases hb.2 with h1 | h1
            · exact h1
            · rw [e] at h1; cases h1
          · exact ⟨row', hi, rfl, ⟨rfl, rfl⟩, fun h => h, fun h => h⟩
        exact ⟨ow, M1, K1, rfl, fun v hv => LfRel.keep K1.stay K1.rv hv⟩
theorem coLs_ok : ∀ {xs : List LS} {ls : List Leaf} {m : Mem} {ow : Ow} {p : List Leaf × Mem}, MemRel w may ow m → coLs m xs ls = some p →
    ∃ ow', MemRel w may ow' p.2 ∧ Keep may w ow m w ow' p.2 ∧ p.2.boxes = m.boxes ∧ ∀ vs, F2 (LfRel w (okOf ow m) may ow) ls vs → F2 (LfRel w (okOf ow' p.2) may ow') p.1 vs
  | [], [], m, ow, p, M, h => by
    obtain rfl := Option.some.inj h
    exact ⟨ow, M, Keep.refl _ _ _ _, rfl, fun vs h => h⟩
  | [], _ :: _, m, ow, p, M, h => by simp [coLs] at h
  | _ :: _, [], m, ow, p, M, h => by simp [coLs] at h
  | x :: xs, l :: ls, m, ow, p, M, h => by
    simp only [coLs] at h
    cases h1 : coL m x l with
    | none => simp [h1] at h
    | some q =>
      simp only [h1] at h
      cases h2 : coLs q.2 xs ls with
      | none => simp [h2] at h
      | some z =>
        simp only [h2] at h
        obtain rfl := Option.some.inj h
        obtain ⟨ow1, M1, K1, b1, r1⟩ := coL_ok M h1
        obtain ⟨ow2, M2, K2, b2, r2⟩ := coLs_ok M1 h2
        refine ⟨ow2, M2, K1.trans K2, b2.trans b1, fun vs hv => ?_⟩
        match vs, hv with
        | v :: vs, hv => exact ⟨LfRel.keep K2.stay K2.rv (r1 v hv.1), r2 vs (hv.2.imp fun _ _ h => LfRel.keep K1.stay K1.rv h)⟩
theorem coV_ok (M : MemRel w may ow m) {x : CS} {sv : SV} {p : SV × Mem} (h : coV m x sv = some p) :
    ∃ ow', MemRel w may ow' p.2 ∧ Keep may w ow m w ow' p.2 ∧ ∀ v, SVRel w (okOf ow m) may ow m sv v → SVRel w (okOf ow' p.2) may ow' p.2 p.1 v := by
  unfold coV at h
  split at h
  · split at h
    case h_2 => cases h
    rename_i q hq
    obtain rfl := Option.some.inj h
    obtain ⟨ow1, M1, K1, _, r1⟩ := coL_ok M hq
    exact ⟨ow1, M1, K1, fun v hv => r1 v hv⟩
  · split at h
    case h_2 => cases h
    rename_i q hq
    obtain rfl := Option.some.inj h
    obtain ⟨ow1, M1, K1, _, r1⟩ := coLs_ok M hq
    exact ⟨ow1, M1, K1, fun v ⟨vs, e, hv⟩ => ⟨vs, e, r1 vs hv⟩⟩
  · rename_i t xs b
    split at h
    case h_2 => cases h
    rename_i bx hbx
    split at h
    case h_2 => cases h
    rename_i q hq
    obtain ⟨ht, h⟩ := cond_none h
    have ht := Nat.eq_of_beq_eq_true ht
    obtain rfl := Option.some.inj h
    obtain ⟨ow1, M1, K1, b1, r1⟩ := coLs_ok M hq
    obtain ⟨g, hg, vs, hc, hF⟩ := M.boxes b bx hbx
    have hbx1 : q.2.box? b = some bx := by unfold Mem.box?; rw [b1]; exact hbx
    obtain ⟨M2, K2⟩ := M1.writeBox (w' := w) b bx ⟨t, q.1⟩ g hbx1 (K1.bb _ _ hg) ht rfl rfl rfl rfl (fun _ _ _ => rfl) vs (by rw [ht]; exact hc) (r1 vs hF)
    exact ⟨ow1, M2, K1.trans K2, fun v hv => SVRel.keep (K1.trans K2) hv⟩
  · rename_i fr r o n g
    cases hr : m.row? r with
    | none => simp [hr] at h
    | some row =>
      simp only [hr] at h
      obtain ⟨hb, h⟩ := cond_none h
      obtain rfl := Option.some.inj h
      simp only [Bool.and_eq_true, Bool.or_eq_true, Bool.not_eq_true'] at hb
      obtain ⟨M1, K1⟩ := M.weaken (m' := ⟨m.rows.set r (some { row with fr := fr }), m.boxes⟩) rfl (by simp) fun i row' hi => by
        rw [row?_set] at hi
        split at hi
        · rename_i hc
          obtain rfl := Option.some.inj hi
          refine ⟨row, by rw [hc.1]; exact hr, rfl, ⟨rfl, rfl⟩, fun h => h, fun e => ?_⟩
          simp only at e
          rcases hb.2 with h1 | h1
          · exact h1
          · rw [e] at h1; cases h1
        · exact ⟨row', hi, rfl, ⟨rfl, rfl⟩, fun h => h, fun h => h⟩
      exact ⟨ow, M1, K1, fun v hv => SVRel.keep K1 hv⟩
  · rename_i t xs b o g0
    split at h
    case h_2 => cases h
    rename_i bx hbx
    split at h
    case h_2 => cases h
    rename_i q hq
    obtain ⟨ht, h⟩ := cond_none h
    have ht := Nat.eq_of_beq_eq_true ht
    obtain rfl := Option.some.inj h
    obtain ⟨ow1, M1, K1, b1, r1⟩ := coLs_ok M hq
    obtain ⟨g, hg, vs, hc, hF⟩ := M.boxes b bx hbx
    have hbx1 : q.2.box? b = some bx := by unfold Mem.box?; rw [b1]; exact hbx
    obtain ⟨M2, K2⟩ := M1.writeBox (w' := w) b bx ⟨t, q.1⟩ g hbx1 (K1.bb _ _ hg) ht rfl rfl rfl rfl (fun _ _ _ => rfl) vs (by rw [ht]; exact hc) (r1 vs hF)
    exact ⟨ow1, M2, K1.trans K2, fun v hv => SVRel.keep (K1.trans K2) hv⟩
  · obtain rfl := Option.some.inj h
    exact ⟨ow, M, Keep.refl _ _ _ _, fun v hv => hv⟩
  · split at h
    · obtain ⟨_, h⟩ := cond_none h
      obtain rfl := Option.some.inj h
      exact ⟨ow, M, Keep.refl _ _ _ _, fun v hv => hv⟩
    · cases h
  · cases h
theorem coFr_ok : ∀ {sh : List (Nat × CS)} {m : Mem} {ow : Ow} {p : List (Nat × SV) × Mem}, MemRel w may ow m → (∀ t, SVRel w (okOf ow m) may ow m (s.get t) (a.tmps.getD t undef)) → coFr s sh m = some p →
    ∃ ow', MemRel w may ow' p.2 ∧ Keep may w ow m w ow' p.2 ∧ ∀ q ∈ p.1, SVRel w (okOf ow' p.2) may ow' p.2 q.2 (a.tmps.getD q.1 undef)
  | [], m, ow, p, M, F, h => by
    obtain rfl := Option.some.inj h
    exact ⟨ow, M, Keep.refl _ _ _ _, fun q hq => by simp at hq⟩
  | (t, x) :: sh, m, ow, p, M, F, h => by
    simp only [coFr] at h
    cases h1 : coV m x (s.get t) with
    | none => simp [h1] at h
    | some q =>
      simp only [h1] at h
      cases h2 : coFr s sh q.2 with
      | none => simp [h2] at h
      | some z =>
        simp only [h2] at h
        obtain rfl := Option.some.inj h
        obtain ⟨ow1, M1, K1, r1⟩ := coV_ok M h1
        obtain ⟨ow2, M2, K2, r2⟩ := coFr_ok M1 (fun t => SVRel.keep K1 (F t)) h2
        refine ⟨ow2, M2, K1.trans K2, fun y hy => ?_⟩
        rcases List.mem_cons.1 hy with rfl | hy
        · exact SVRel.keep K2 (r1 _ (F t))
        · exact r2 y hy
theorem posO_some : ∀ {x i : Nat} {l : List Nat}, posO x l = some i → l[i]? = some x
  | x, i, [], h => by simp [posO] at h
  | x, i, y :: r, h => by
    simp only [posO] at h
    rcases cond_some h with ⟨h1, h2⟩ | ⟨h1, h2⟩
    · obtain rfl := Option.some.inj h2
      simp [Nat.eq_of_beq_eq_true h1]
    · obtain ⟨j, hj, rfl⟩ := Option.map_eq_some_iff.1 h2
      simpa using posO_some hj
theorem noDup_inj : ∀ {l : List Nat} {i j x : Nat}, noDup l = true → l[i]? = some x → l[j]? = some x → i = j
  | [], i, j, x, h, hi, hj => by simp at hi
  | y :: r, i, j, x, h, hi, hj => by
    simp only [noDup, Bool.and_eq_true, Bool.not_eq_true', List.any_eq_false] at h
    have no : ∀ k, r[k]? = some y → False := fun k hk => h.1 y (List.mem_of_getElem? hk) (Nat.beq_refl y)
    cases i with
    | zero =>
      cases j with
      | zero => rfl
      | succ j => simp at hi hj; subst hi; exact (no _ hj).elim
    | succ i =>
      cases j with
      | zero => simp at hi hj; subst hj; exact (no _ hi).elim
      | succ j => simp at hi hj; rw [noDup_inj h.2 hi hj]
theorem seqOf_get' {α β : Type} {f : α → Option β} {l : List α} {ys : List β} (h : seqOf (l.map f) = some ys) : ∀ {i : Nat} {y : β}, ys[i]? = some y → ∃ x, l[i]? = some x ∧ f x = some y := by
  intro i y hy
  have h1 := seqOf_some h
  have h2 : (ys.map some)[i]? = some (some y) := by simp [hy]
  rw [← h1, List.getElem?_map] at h2
  cases hx : l[i]? with
  | none => simp [hx] at h2
  | some x => simp [hx] at h2; exact ⟨x, rfl, h2⟩
theorem seqOf_len {α β : Type} {f : α → Option β} {l : List α} {ys : List β} (h : seqOf (l.map f) = some ys) : ys.length = l.length := by
  have := congrArg List.length (seqOf_some h)
  simpa using this.symm
/-- The old numbers' places, under the new numbers. -/
def Ow.pick (o : Ow) (rs bs : List Nat) : Ow := ⟨rs.map fun r => o.rv.getD r undef, bs.map fun b => o.bb.getD b none⟩
theorem pick_rv {rs bs : List Nat} {i r : Nat} {v : Value} (h : rs[i]? = some r) (hv : ow.rv[r]? = some v) : (ow.pick rs bs).rv[i]? = some v := by
  simp [Ow.pick, h, hv]
theorem pick_bb {rs bs : List Nat} {i b g : Nat} (h : bs[i]? = some b) (hv : ow.bb[b]? = some (some g)) : (ow.pick rs bs).bb[i]? = some (some g) := by
  simp [Ow.pick, h, hv]
theorem renL_rel {ok ok' : Nat → Prop} {rs bs : List Nat} (H : ∀ b, ok b → ok' b) {l l' : Leaf} {v : Value} (e : renL rs l = some l') (h : LfRel w ok may ow l v) : LfRel w ok' may (ow.pick rs bs) l' v := by
  cases l with
  | val fr k x => obtain rfl := Option.some.inj e; exact Rd.mono (okf.mono H) h
  | nil => obtain rfl := Option.some.inj e; exact h
  | own r =>
    obtain ⟨i, hi, rfl⟩ := Option.map_eq_some_iff.1 e
    exact ⟨pick_rv (posO_some hi) h.1, h.2⟩
theorem renLs_rel {ok ok' : Nat → Prop} {rs bs : List Nat} (H : ∀ b, ok b → ok' b) : ∀ {ls ls' : List Leaf} {vs : List Value}, seqOf (ls.map (renL rs)) = some ls' → F2 (LfRel w ok may ow) ls vs → F2 (LfRel w ok' may (ow.pick rs bs)) ls' vs
  | [], ls', vs, e, h => by
    obtain rfl := Option.some.inj e
    obtain rfl := h.nil_left
    trivial
  | l :: ls, ls', vs, e, h => by
    simp only [List.map_cons] at e
    cases h1 : renL rs l with
    | none => rw [h1] at e; simp [seqOf] at e
    | some l1 =>
      rw [h1] at e
      simp only [seqOf] at e
      obtain ⟨q, hq, rfl⟩ := Option.map_eq_some_iff.1 e
      match vs, h with
      | v :: vs, h => exact ⟨renL_rel H h1 h.1, renLs_rel H hq h.2⟩
theorem renV_rel {ok ok' : Nat → Prop} {rs bs : List Nat} (H : ∀ b, ok b → ok' b) {m' : Mem} (Hr : ∀ i r, rs[i]? = some r → i < m'.rows.length ∧ ∀ row, m'.row? i = some row → m.row? r = some row) {sv sv' : SV} {v : Value} (e : renV rs bs sv = some sv') (h : SVRel w ok may ow m sv v) : SVRel w ok' may (ow.pick rs bs) m' sv' v := by
  unfold renV at e
  split at e
  · rename_i c
    obtain ⟨c', hc, rfl⟩ := Option.map_eq_some_iff.1 e
    cases c with
    | lf l =>
      obtain ⟨l', hl, rfl⟩ := Option.map_eq_some_iff.1 hc
      exact renL_rel H hl h
    | agg ls =>
      obtain ⟨ls', hl, rfl⟩ := Option.map_eq_some_iff.1 hc
      obtain ⟨vs, e, h⟩ := h
      exact ⟨vs, e, renLs_rel H hl h⟩
  · rename_i b o
    obtain ⟨i, hi, rfl⟩ := Option.map_eq_some_iff.1 e
    obtain ⟨g, hg, h⟩ := h
    exact ⟨g, pick_bb (posO_some hi) hg, h⟩
  · rename_i b o g
    obtain ⟨i, hi, rfl⟩ := Option.map_eq_some_iff.1 e
    exact ⟨pick_bb (posO_some hi) h.1, h.2⟩
  · obtain rfl := Option.some.inj e
    exact h
  · rename_i r o n g
    obtain ⟨i, hi, rfl⟩ := Option.map_eq_some_iff.1 e
    obtain ⟨_, ⟨A, L, C, hs⟩, h⟩ := h
    obtain ⟨h1, h2⟩ := Hr i r (posO_some hi)
    refine ⟨h1, ⟨A, L, C, pick_rv (posO_some hi) hs⟩, fun row hrow => ?_⟩
    obtain ⟨h3, h4, h5⟩ := h row (h2 row hrow)
    refine ⟨h3, h4, fun hn => ?_⟩
    obtain ⟨γ, L, C, c, h6, h7⟩ := h5 hn
    exact ⟨γ, L, C, c, pick_rv (posO_some hi) h6, h7⟩
  · obtain ⟨i, hi, rfl⟩ := Option.map_eq_some_iff.1 e
    exact ⟨pick_rv (posO_some hi) h.1, h.2⟩
  · cases e
theorem lookup_mem : ∀ {fr : List (Nat × SV)} {t : Nat}, lookup fr t = .undef ∨ (t, lookup fr t) ∈ fr
  | [], t => .inl rfl
  | (t', v) :: r, t => by
    rw [lookup_cons]
    by_cases h : t' = t
    · subst h; simp
    · simp only [if_neg h]
      rcases lookup_mem (fr := r) (t := t) with h1 | h1
      · exact .inl h1
      · exact .inr (List.mem_cons_of_mem _ h1)
theorem gc_ok (M : MemRel w may ow m) {fr : List (Nat × SV)} {s' : S} (F : ∀ q ∈ fr, SVRel w (okOf ow m) may ow m q.2 (a.tmps.getD q.1 undef)) (h : gc fr m = some s') :
    ∃ ow', MemRel w may ow' s'.m ∧ FrRel w (okOf ow' s'.m) may ow' s' a ∧ ∀ b, okOf ow m b → okOf ow' s'.m b := by
  unfold gc at h
  simp only at h
  generalize boxIds fr = bs at h
  split at h
  case h_1 => cases h
  rename_i bx hbx
  generalize (List.foldl (fun l b => ownsL l b.ls) (List.foldl (fun l x => ownsL l x.2.leaves) [] fr) bx) = rs at h
  obtain ⟨hd, h⟩ := cond_none h
  simp only [Bool.and_eq_true] at hd
  split at h
  case h_2 => cases h
  rename_i rows fr' bx' hrows hfr hbx'
  obtain rfl := Option.some.inj h
  have hrow : ∀ i row, (⟨rows.map some, bx'.map some⟩ : Mem).row? i = some row → ∃ r, rs[i]? = some r ∧ m.row? r = some row := by
    intro i row e
    have e : rows[i]? = some row := by
      cases hq : rows[i]? <;> simp [Mem.row?, hq] at e ⊢; exact e
    exact seqOf_get' hrows e
  have hbox : ∀ i b', (⟨rows.map some, bx'.map some⟩ : Mem).box? i = some b' → ∃ b q, bs[i]? = some b ∧ m.box? b = some q ∧ b'.t = q.t ∧ seqOf (q.ls.map (renL rs)) = some b'.ls := by
    intro i b' e
    have e : bx'[i]? = some b' := by
      cases hq : bx'[i]? <;> simp [Mem.box?, hq] at e ⊢; exact e
    obtain ⟨q, hq, h1⟩ := seqOf_get' hbx' e
    obtain ⟨ls, hls, rfl⟩ := Option.map_eq_some_iff.1 h1
    obtain ⟨b, hb, h2⟩ := seqOf_get' hbx hq
    exact ⟨b, q, hb, h2, rfl, hls⟩
  have hsub : ∀ x b, blk (ow.pick rs bs) ⟨rows.map some, bx'.map some⟩ x = some b →
      (∃ i r, x = .row i ∧ rs[i]? = some r ∧ blk ow m (.row r) = some b) ∨ (∃ i q, x = .box i ∧ bs[i]? = some q ∧ blk ow m (.box q) = some b) := by
    intro x b hx
    cases x with
    | row i =>
      unfold blk at hx
      simp only at hx
      split at hx
      · rename_i row hr
        obtain ⟨r, h1, h2⟩ := hrow i row hr
        split at hx
        · rename_i hw
          refine .inl ⟨i, r, rfl, h1, ?_⟩
          obtain ⟨v, hv, _⟩ := M.rows r row h2
          rw [blk_row h2 hv hw]
          rw [pick_rv h1 hv] at hx
          exact hx
        · cases hx
      · cases hx
    | box i =>
      unfold blk at hx
      simp only at hx
      split at hx
      · rename_i b' hb'
        obtain ⟨q, bq, h1, h2, _⟩ := hbox i b' hb'
        refine .inr ⟨i, q, rfl, h1, ?_⟩
        obtain ⟨g, hg, _⟩ := M.boxes q bq h2
        rw [blk_box h2 hg]
        rw [pick_bb h1 hg] at hx
        exact hx
      · cases hx
  have hok : ∀ b, okOf ow m b → okOf (ow.pick rs bs) ⟨rows.map some, bx'.map some⟩ b := by
    intro b hb x hx
    rcases hsub x b hx with ⟨i, r, _, _, h1⟩ | ⟨i, r, _, _, h1⟩
    · exact hb _ h1
    · exact hb _ h1
  refine ⟨ow.pick rs bs, ⟨?_, ?_, fun i row e => ?_, fun i b' e => ?_, fun x y b h1 k1 => ?_, fun x b h1 => ?_, fun i hi e => by simp only [List.length_map] at hi; simp [Mem.box?, hi] at e⟩, fun t => ?_, hok⟩
  · simp [Ow.pick, seqOf_len hrows]
  · simp [Ow.pick, seqOf_len hbx', seqOf_len hbx]
  · obtain ⟨r, h1, h2⟩ := hrow i row e
    obtain ⟨v, hv, RR⟩ := M.rows r row h2
    exact ⟨v, pick_rv h1 hv, RR.keep (Stay.mono fun b _ hb => hok b hb) fun _ _ _ => rfl⟩
  · obtain ⟨b, q, h1, h2, ht, hls⟩ := hbox i b' e
    obtain ⟨g, hg, vs, hc, hF⟩ := M.boxes b q h2
    exact ⟨g, pick_bb h1 hg, vs, by rw [ht]; exact hc, renLs_rel hok hls hF⟩
  · rcases hsub x b h1 with ⟨i, r, rfl, h2, h3⟩ | ⟨i, r, rfl, h2, h3⟩ <;> rcases hsub y b k1 with ⟨j, q, rfl, k2, k3⟩ | ⟨j, q, rfl, k2, k3⟩
    · have := M.dis _ _ b h3 k3
      injection this with this
      subst this
      rw [noDup_inj hd.1 h2 k2]
    · cases M.dis _ _ b h3 k3
    · cases M.dis _ _ b h3 k3
    · have := M.dis _ _ b h3 k3
      injection this with this
      subst this
      rw [noDup_inj hd.2 h2 k2]
  · rcases hsub x b h1 with ⟨i, r, rfl, h2, h3⟩ | ⟨i, r, rfl, h2, h3⟩ <;> exact M.may_ _ _ h3
  · show SVRel _ _ _ _ _ (lookup fr' t) _
    rcases lookup_mem (fr := fr') (t := t) with h1 | h1
    · rw [h1]; trivial
    · obtain ⟨i, hi⟩ := List.getElem?_of_mem h1
      obtain ⟨q, hq, h2⟩ := seqOf_get' hfr hi
      obtain ⟨v, hv, h3⟩ := Option.map_eq_some_iff.1 h2
      injection h3 with h4 h5
      subst h4
      rw [← h5]
      refine renV_rel hok (fun j r hj => ⟨?_, fun row hrw => ?_⟩) hv (F q (List.mem_of_getElem? hq))
      · have h6 := (List.getElem?_eq_some_iff.1 hj).1
        have h7 := seqOf_len hrows
        simp; omega
      · obtain ⟨r', h6, h7⟩ := hrow j row hrw
        obtain rfl := Option.some.inj (h6.symm.trans hj)
        exact h7
theorem restr_ok (M : MemRel w may ow s.m) (F : FrRel w (okOf ow s.m) may ow s a) {sh : List (Nat × CS)} {s' : S} (h : restr sh s = some s') : ∃ ow', MemRel w may ow' s'.m ∧ FrRel w (okOf ow' s'.m) may ow' s' a ∧ ∀ b, b < w.heap.size → okOf ow s.m b → okOf ow' s'.m b := by
  unfold restr at h
  split at h
  case h_2 => cases h
  rename_i p hp
  obtain ⟨ow1, M1, K1, r1⟩ := coFr_ok M F hp
  obtain ⟨ow2, M2, F2, h2⟩ := gc_ok M1 r1 h
  exact ⟨ow2, M2, F2, fun b hb h => h2 b (K1.stay b hb h).1⟩
end
end Go.Fx
