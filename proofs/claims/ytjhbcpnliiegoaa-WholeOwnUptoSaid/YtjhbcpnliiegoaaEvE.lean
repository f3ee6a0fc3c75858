/- Rows that are handed over, told apart from the others. -/
import Derived.Test.YtjhbcpnliiegoaaEv13
namespace Go.Fx
open Go Go.RowKit
set_option linter.unusedVariables false
set_option linter.unusedSimpArgs false
section
variable {P : Program} {T : Tab} {C : Cals} {w : World} {may : Nat → Prop} {ow : Ow} {m : Mem} {s : S} {a : Act}
theorem thawL_append : ∀ (x y : List Leaf) (n : Nat), thawL n (x ++ y) = ((thawL n x).1 ++ (thawL (n + (thawL n x).2.length) y).1, (thawL n x).2 ++ (thawL (n + (thawL n x).2.length) y).2)
  | [], y, n => rfl
  | l :: x, y, n => by
    have ih := fun n => thawL_append x y n
    match l with
    | .val fr (.sl e k) xs => simp only [List.cons_append, thawL, ih, List.length_cons]; simp [Nat.add_assoc, Nat.add_comm 1]
    | .val fr (.int q) xs => simp only [List.cons_append, thawL, ih]
    | .val fr .bool xs => simp only [List.cons_append, thawL, ih]
    | .val fr .raw xs => simp only [List.cons_append, thawL, ih]
    | .val fr .hd xs => simp only [List.cons_append, thawL, ih]
    | .val fr (.fnc g) xs => simp only [List.cons_append, thawL, ih]
    | .val fr .mp xs => simp only [List.cons_append, thawL, ih]
    | .val fr (.rp k) xs => simp only [List.cons_append, thawL, ih]
    | .val fr (.clo g k) xs => simp only [List.cons_append, thawL, ih]
    | .val fr .str xs => simp only [List.cons_append, thawL, ih]
    | .val fr .unit xs => simp only [List.cons_append, thawL, ih]
    | .val fr (.prod a b) xs => simp only [List.cons_append, thawL, ih]
    | .nil => simp only [List.cons_append, thawL, ih]
    | .own q => simp only [List.cons_append, thawL, ih]
/-- Rows that are made of results: their values, and the old rows they are. -/
structure Made (w : World) (may : Nat → Prop) (ow : Ow) (m : Mem) (rows : List (Option Row)) (rv : List Value) (ids : List (Option Nat)) : Prop where
  len : rv.length = rows.length
  leni : ids.length = rows.length
  row : ∀ i row, (⟨rows, []⟩ : Mem).row? i = some row → ∃ v, rv[i]? = some v ∧ SlRel w (okOf ow m) may row v ∧ ∀ b, oblk v = some b → ∃ r, ids[i]? = some (some r) ∧ blk ow m (.row r) = some b
theorem Made.nil : Made w may ow m [] [] [] := ⟨rfl, rfl, fun i row h => by simp [Mem.row?] at h⟩
theorem Made.append {rows rows' : List (Option Row)} {rv rv' : List Value} {ids ids' : List (Option Nat)} (h : Made w may ow m rows rv ids) (h' : Made w may ow m rows' rv' ids') : Made w may ow m (rows ++ rows') (rv ++ rv') (ids ++ ids') := by
  refine ⟨by simp [h.len, h'.len], by simp [h.leni, h'.leni], fun i row e => ?_⟩
  simp only [Mem.row?] at e
  by_cases hi : i < rows.length
  · rw [List.getElem?_append_left hi] at e
    obtain ⟨v, h1, h2, h3⟩ := h.row i row e
    refine ⟨v, by rw [List.getElem?_append_left (by rw [h.len]; exact hi)]; exact h1, h2, fun b hb => ?_⟩
    obtain ⟨r, h4, h5⟩ := h3 b hb
    exact ⟨r, by rw [List.getElem?_append_left (by rw [h.leni]; exact hi)]; exact h4, h5⟩
  · rw [List.getElem?_append_right (by omega)] at e
    obtain ⟨v, h1, h2, h3⟩ := h'.row _ row e
    refine ⟨v, by rw [List.getElem?_append_right (by rw [h.len]; omega), h.len]; exact h1, h2, fun b hb => ?_⟩
    obtain ⟨r, h4, h5⟩ := h3 b hb
    exact ⟨r, by rw [List.getElem?_append_right (by rw [h.leni]; omega), h.leni]; exact h4, h5⟩
def RvAt (n : Nat) (rv : List Value) (big : List Value) : Prop := ∀ (i : Nat) (v : Value), rv[i]? = some v → big[n + i]? = some v
theorem RvAt.left {n : Nat} {rv rv' big : List Value} (h : RvAt n (rv ++ rv') big) : RvAt n rv big := fun i v e => h i v (by rw [List.getElem?_append_left (List.getElem?_eq_some_iff.1 e).1]; exact e)
theorem RvAt.right {n : Nat} {rv rv' big : List Value} (h : RvAt n (rv ++ rv') big) : RvAt (n + rv.length) rv' big := fun i v e => by
  rw [Nat.add_assoc]
  exact h _ v (by rw [List.getElem?_append_right (by omega), Nat.add_sub_cancel_left]; exact e)
theorem ownIds_append (x y : List Leaf) : ownIds (x ++ y) = ownIds x ++ ownIds y := by simp [ownIds]
theorem thawL_own (M : MemRel w may ow m) : ∀ {k : K} {ls : List Leaf} {x : k.T} {es : List Value} (n : Nat), ls.all (ownLf m) = true → F2 (LfRel w (okOf ow m) may ow) ls es → packK m k ls = some x →
    ∃ rv ids, Made w may ow m (thawL n (splitK true k x)).2 rv ids ∧ ids.filterMap id = ownIds ls ∧ ∀ (ok' may' : Nat → Prop) (o' : Ow), RvAt n rv o'.rv → F2 (LfRel w ok' may' o') (thawL n (splitK true k x)).1 es
  | .prod p q, ls, x, es, n, ha, h, e => by
    simp only [packK] at e
    cases h1 : packK m p (ls.take p.n) with
    | none => simp [h1] at e
    | some y =>
      cases h2 : packK m q (ls.drop p.n) with
      | none => simp [h1, h2] at e
      | some z =>
        simp only [h1, h2] at e
        obtain rfl := Option.some.inj e
        have ha' : ∀ l ∈ ls, ownLf m l = true := List.all_eq_true.1 ha
        obtain ⟨rv1, ids1, m1, i1, f1⟩ := thawL_own M (k := p) n (List.all_eq_true.2 fun l hl => ha' l (List.mem_of_mem_take hl)) (h.take p.n) h1
        obtain ⟨rv2, ids2, m2, i2, f2⟩ := thawL_own M (k := q) (n + (thawL n (splitK true p y)).2.length) (List.all_eq_true.2 fun l hl => ha' l (List.mem_of_mem_drop hl)) (h.drop p.n) h2
        refine ⟨rv1 ++ rv2, ids1 ++ ids2, ?_, ?_, fun ok' may' o' hr => ?_⟩
        · simp only [splitK]; rw [thawL_append]; exact m1.append m2
        · rw [List.filterMap_append, i1, i2, ← ownIds_append, List.take_append_drop]
        · simp only [splitK]
          rw [thawL_append]
          have := (f1 ok' may' o' hr.left).append (f2 ok' may' o' (by rw [← m1.len]; exact hr.right))
          rwa [List.take_append_drop] at this
  | .unit, ls, x, es, n, ha, h, e => by
    cases ls with
    | nil => exact ⟨[], [], Made.nil, rfl, fun _ _ _ _ => by obtain rfl := h.nil_left; trivial⟩
    | cons => simp [packK] at e
  | .int q, ls, x, es, n, ha, h, e => by
    match ls, es, h with
    | [], _, _ => simp [packK] at e
    | [l], [v], h =>
      cases l with
      | val fr k y =>
        obtain ⟨rfl, rfl⟩ := cast_some (show K.cast k (.int q) y = some x from e)
        exact ⟨[], [], Made.nil, rfl, fun _ _ _ _ => ⟨h.1, trivial⟩⟩
      | nil => simp [packK, leafData] at e
      | own r =>
        simp only [packK, leafData] at e
        split at e
        · cases e
        · obtain ⟨e', _⟩ := cast_some e; cases e'
    | _ :: _ :: _, _, _ => simp [packK] at e
  | .raw, ls, x, es, n, ha, h, e => by
    match ls, es, h with
    | [], _, _ => simp [packK] at e
    | [l], [v], h =>
      cases l with
      | val fr k y =>
        obtain ⟨rfl, rfl⟩ := cast_some (show K.cast k .raw y = some x from e)
        exact ⟨[], [], Made.nil, rfl, fun _ _ _ _ => ⟨h.1, trivial⟩⟩
      | nil => simp [packK, leafData] at e
      | own r =>
        simp only [packK, leafData] at e
        split at e
        · cases e
        · obtain ⟨e', _⟩ := cast_some e; cases e'
    | _ :: _ :: _, _, _ => simp [packK] at e
  | .hd, ls, x, es, n, ha, h, e => by
    match ls, es, h with
    | [], _, _ => simp [packK] at e
    | [l], [v], h =>
      cases l with
      | val fr k y =>
        obtain ⟨rfl, rfl⟩ := cast_some (show K.cast k .hd y = some x from e)
        exact ⟨[], [], Made.nil, rfl, fun _ _ _ _ => ⟨h.1, trivial⟩⟩
      | nil =>
        simp only [packK, leafData] at e
        obtain rfl := Option.some.inj e
        have hv : v = .slice none 0 0 := h.1
        subst hv
        exact ⟨[], [], Made.nil, rfl, fun _ _ _ _ => ⟨⟨rfl, _, _, _, rfl⟩, trivial⟩⟩
      | own r =>
        simp only [packK, leafData] at e
        split at e
        · cases e
        · obtain ⟨e', _⟩ := cast_some e; cases e'
    | _ :: _ :: _, _, _ => simp [packK] at e
  | .fnc g, ls, x, es, n, ha, h, e => by
    match ls, es, h with
    | [], _, _ => simp [packK] at e
    | [l], [v], h =>
      cases l with
      | val fr k y =>
        obtain ⟨rfl, rfl⟩ := cast_some (show K.cast k (.fnc g) y = some x from e)
        exact ⟨[], [], Made.nil, rfl, fun _ _ _ _ => ⟨h.1, trivial⟩⟩
      | nil => simp [packK, leafData] at e
      | own r =>
        simp only [packK, leafData] at e
        split at e
        · cases e
        · obtain ⟨e', _⟩ := cast_some e; cases e'
    | _ :: _ :: _, _, _ => simp [packK] at e
  | .mp, ls, x, es, n, ha, h, e => by
    match ls, es, h with
    | [], _, _ => simp [packK] at e
    | [l], [v], h =>
      cases l with
      | val fr k y =>
        obtain ⟨rfl, rfl⟩ := cast_some (show K.cast k .mp y = some x from e)
        simp [ownLf, K.flat] at ha
      | nil => simp [packK, leafData] at e
      | own r =>
        simp only [packK, leafData] at e
        split at e
        · cases e
        · obtain ⟨e', _⟩ := cast_some e; cases e'
    | _ :: _ :: _, _, _ => simp [packK] at e
  | .rp k0, ls, x, es, n, ha, h, e => by
    match ls, es, h with
    | [], _, _ => simp [packK] at e
    | [l], [v], h =>
      cases l with
      | val fr k y =>
        obtain ⟨rfl, rfl⟩ := cast_some (show K.cast k (.rp k0) y = some x from e)
        simp [ownLf, K.flat] at ha
      | nil => simp [packK, leafData] at e
      | own r =>
        simp only [packK, leafData] at e
        split at e
        · cases e
        · obtain ⟨e', _⟩ := cast_some e; cases e'
    | _ :: _ :: _, _, _ => simp [packK] at e
  | .clo g k0, ls, x, es, n, ha, h, e => by
    match ls, es, h with
    | [], _, _ => simp [packK] at e
    | [l], [v], h =>
      cases l with
      | val fr k y =>
        obtain ⟨rfl, rfl⟩ := cast_some (show K.cast k (.clo g k0) y = some x from e)
        simp [ownLf, K.flat] at ha
      | nil => simp [packK, leafData] at e
      | own r =>
        simp only [packK, leafData] at e
        split at e
        · cases e
        · obtain ⟨e', _⟩ := cast_some e; cases e'
    | _ :: _ :: _, _, _ => simp [packK] at e
  | .bool, ls, x, es, n, ha, h, e => by
    match ls, es, h with
    | [], _, _ => simp [packK] at e
    | [l], [v], h =>
      cases l with
      | val fr k y =>
        obtain ⟨rfl, rfl⟩ := cast_some (show K.cast k .bool y = some x from e)
        exact ⟨[], [], Made.nil, rfl, fun _ _ _ _ => ⟨h.1, trivial⟩⟩
      | nil => simp [packK, leafData] at e
      | own r =>
        simp only [packK, leafData] at e
        split at e
        · cases e
        · obtain ⟨e', _⟩ := cast_some e; cases e'
    | _ :: _ :: _, _, _ => simp [packK] at e
  | .str, ls, x, es, n, ha, h, e => by
    match ls, es, h with
    | [], _, _ => simp [packK] at e
    | [l], [v], h =>
      cases l with
      | val fr k y =>
        obtain ⟨rfl, rfl⟩ := cast_some (show K.cast k .str y = some x from e)
        exact ⟨[], [], Made.nil, rfl, fun _ _ _ _ => ⟨h.1, trivial⟩⟩
      | nil => simp [packK, leafData] at e
      | own r =>
        simp only [packK, leafData] at e
        split at e
        · cases e
        · obtain ⟨e', _⟩ := cast_some e; cases e'
    | _ :: _ :: _, _, _ => simp [packK] at e
  | .sl t k, ls, x, es, n, ha, h, e => by
    match ls, es, h with
    | [], _, _ => simp [packK] at e
    | [l], [v], h =>
      cases l with
      | val fr k' y =>
        obtain ⟨rfl, rfl⟩ := cast_some (show K.cast k' (.sl t k) y = some x from e)
        simp [ownLf, K.flat] at ha
      | nil =>
        have e : some [] = some x := e
        obtain rfl := Option.some.inj e
        obtain rfl : v = .slice none 0 0 := h.1
        refine ⟨[.slice none 0 0], [none], ⟨rfl, rfl, fun i row hr => ?_⟩, rfl, fun _ _ o' hr => ⟨⟨hr 0 _ rfl, _, _, _, rfl⟩, trivial⟩⟩
        cases i with
        | succ i => simp [Mem.row?, splitK, thawL] at hr
        | zero =>
          simp [Mem.row?, splitK, thawL] at hr
          subst hr
          exact ⟨_, rfl, ⟨⟨_, _, _, rfl⟩, by simp only [if_true]; exact ⟨[], World.ownsRow_nil w 0 _ _, rfl⟩⟩, fun b hb => by simp [oblk] at hb⟩
      | own r =>
        simp only [packK, leafData] at e
        cases hr : m.row? r with
        | none => simp [hr] at e
        | some row =>
          simp only [hr] at e
          obtain ⟨e1, e2⟩ := cast_some e
          obtain ⟨re, rk, rf, rw', rx⟩ := row
          injection e1 with e3 e4
          subst e3 e4
          obtain rfl : rx = x := e2
          simp [ownLf, hr] at ha
          obtain ⟨rfl, rfl⟩ := ha
          obtain ⟨v1, hv1, RR⟩ := M.sl r _ hr h.1.1 h.1.2
          obtain rfl : v = v1 := Option.some.inj (h.1.1.symm.trans hv1)
          refine ⟨[v], [some r], ⟨rfl, rfl, fun i row hr' => ?_⟩, rfl, fun _ _ o' hr => ⟨⟨hr 0 _ rfl, h.1.2⟩, trivial⟩⟩
          cases i with
          | succ i => simp [Mem.row?, splitK, thawL] at hr'
          | zero =>
            simp [Mem.row?, splitK, thawL] at hr'
            subst hr'
            exact ⟨v, rfl, RR, fun b hb => ⟨r, rfl, by rw [blk_row hr hv1 rfl]; exact hb⟩⟩
    | _ :: _ :: _, _, _ => simp [packK] at e
theorem thawL_len : ∀ (x : List Leaf) (n : Nat), (thawL n x).1.length = x.length
  | [], n => rfl
  | l :: x, n => by
    have ih := fun n => thawL_len x n
    match l with
    | .val fr (.sl e k) xs => simp only [thawL, ih, List.length_cons]
    | .val fr (.int q) xs => simp only [thawL, ih, List.length_cons]
    | .val fr .bool xs => simp only [thawL, ih, List.length_cons]
    | .val fr .raw xs => simp only [thawL, ih, List.length_cons]
    | .val fr .hd xs => simp only [thawL, ih, List.length_cons]
    | .val fr (.fnc g) xs => simp only [thawL, ih, List.length_cons]
    | .val fr .mp xs => simp only [thawL, ih, List.length_cons]
    | .val fr (.rp k) xs => simp only [thawL, ih, List.length_cons]
    | .val fr (.clo g k) xs => simp only [thawL, ih, List.length_cons]
    | .val fr .str xs => simp only [thawL, ih, List.length_cons]
    | .val fr .unit xs => simp only [thawL, ih, List.length_cons]
    | .val fr (.prod a b) xs => simp only [thawL, ih, List.length_cons]
    | .nil => simp only [thawL, ih, List.length_cons]
    | .own q => simp only [thawL, ih, List.length_cons]
theorem thaw_own (M : MemRel w may ow m) : ∀ {rs : List (Bool × K)} {cs : List Cmp} {us : List Value} {y : argT rs} (n : Nat), (allLeaves cs).all (ownLf m) = true → aggOk rs cs = true → F2 (CmpRel w (okOf ow m) may ow) cs us → packArgs m rs cs = some y →
    ∃ cs' rows rv ids, thaw true false n rs y = some (cs', rows) ∧ Made w may ow m rows rv ids ∧ ids.filterMap id = ownIds (allLeaves cs) ∧ ∀ (ok' may' : Nat → Prop) (o' : Ow), RvAt n rv o'.rv → F2 (CmpRel w ok' may' o') cs' us
  | [], [], us, y, n, ha, hg, h, e => ⟨[], [], [], [], rfl, Made.nil, rfl, fun _ _ _ _ => by obtain rfl := h.nil_left; trivial⟩
  | [], _ :: _, us, y, n, ha, hg, h, e => by simp [packArgs] at e
  | p :: rs, [], us, y, n, ha, hg, h, e => by simp [packArgs] at e
  | p :: rs, c :: cs, [], y, n, ha, hg, h, e => h.elim
  | p :: rs, c :: cs, u :: us, y, n, ha, hg, h, e => by
    have hal : allLeaves (c :: cs) = c.leaves ++ allLeaves cs := by simp [allLeaves]
    rw [hal, List.all_append, Bool.and_eq_true] at ha
    simp only [packArgs] at e
    cases h1 : packK m p.2 c.leaves with
    | none => simp [h1] at e
    | some z =>
      cases h2 : packArgs m rs cs with
      | none => simp [h1, h2] at e
      | some z2 =>
        simp only [h1, h2] at e
        obtain rfl := Option.some.inj e
        obtain ⟨rv1, ids1, m1, i1, f1⟩ := thawL_own M (k := p.2) n ha.1 h.1.cells h1
        have hg' : aggOk rs cs = true := by cases c <;> simp only [aggOk, Bool.and_eq_true] at hg <;> exact hg.2
        obtain ⟨cs', rows, rv2, ids2, t2, m2, i2, f2⟩ := thaw_own M (n + (thawL n (splitK true p.2 z)).2.length) ha.2 hg' h.2 h2
        cases c with
        | lf l =>
          simp only [aggOk, Bool.and_eq_true, Bool.not_eq_true'] at hg
          have hone : u.cells.toList = [u] := by
            have h3 : LfRel w (okOf ow m) may ow l u := h.1
            rw [oneCell_cells h3.one]
          rw [hone] at f1
          have hlen : (thawL n (splitK true p.2 z)).1.length = 1 := by
            have h4 := (f1 (fun _ => True) (fun _ => True) ⟨List.replicate n undef ++ rv1, []⟩ (fun i v hv => by
              show (List.replicate n undef ++ rv1)[n + i]? = some v
              rw [List.getElem?_append_right (by simp), List.length_replicate, Nat.add_sub_cancel_left]; exact hv)).len
            simpa using h4
          match hq : (thawL n (splitK true p.2 z)).1, hlen with
          | [l'], _ =>
            refine ⟨.lf l' :: cs', (thawL n (splitK true p.2 z)).2 ++ rows, rv1 ++ rv2, ids1 ++ ids2, ?_, m1.append m2, ?_, fun ok' may' o' hr => ?_⟩
            · simp [thaw, hg.1, hq, mkC, t2]
            · rw [List.filterMap_append, i1, i2, hal, ownIds_append]
            · have h5 := f1 ok' may' o' hr.left
              rw [hq] at h5
              exact ⟨h5.1, f2 ok' may' o' (by rw [← m1.len]; exact hr.right)⟩
        | agg ls =>
          simp only [aggOk, Bool.and_eq_true] at hg
          obtain ⟨es, rfl, h3⟩ := h.1
          refine ⟨.agg (thawL n (splitK true p.2 z)).1 :: cs', (thawL n (splitK true p.2 z)).2 ++ rows, rv1 ++ rv2, ids1 ++ ids2, ?_, m1.append m2, ?_, fun ok' may' o' hr => ?_⟩
          · simp [thaw, hg.1, mkC, t2]
          · rw [List.filterMap_append, i1, i2, hal, ownIds_append]
          · exact ⟨⟨es, rfl, by simpa [Value.cells] using f1 ok' may' o' hr.left⟩, f2 ok' may' o' (by rw [← m1.len]; exact hr.right)⟩
theorem ids_inj : ∀ {ids : List (Option Nat)} {i j r : Nat}, noDup (ids.filterMap id) = true → ids[i]? = some (some r) → ids[j]? = some (some r) → i = j
  | [], i, j, r, h, hi, hj => by simp at hi
  | none :: ids, i, j, r, h, hi, hj => by
    cases i <;> cases j <;> simp at hi hj ⊢
    exact ids_inj (by simpa using h) hi hj
  | some x :: ids, i, j, r, h, hi, hj => by
    simp only [List.filterMap_cons, id] at h
    simp only [noDup, Bool.and_eq_true, Bool.not_eq_true', List.any_eq_false] at h
    have no : ∀ k, ids[k]? = some (some x) → False := fun k hk => h.1 x (List.mem_filterMap.2 ⟨some x, List.mem_of_getElem? hk, rfl⟩) (Nat.beq_refl x)
    cases i with
    | zero =>
      cases j with
      | zero => rfl
      | succ j => simp at hi hj; subst hi; exact (no _ hj).elim
    | succ i =>
      cases j with
      | zero => simp at hi hj; subst hj; exact (no _ hi).elim
      | succ j => simp at hi hj; rw [ids_inj h.2 hi hj]
/-- The rows that are handed over, alone. -/
theorem Made.mem (M : MemRel w may ow m) {rows : List (Option Row)} {rv : List Value} {ids : List (Option Nat)} (h : Made w may ow m rows rv ids) (hd : noDup (ids.filterMap id) = true) :
    MemRel w may ⟨rv, []⟩ ⟨rows, []⟩ ∧ ∀ b, okOf ow m b → okOf ⟨rv, []⟩ ⟨rows, []⟩ b := by
  have hsub : ∀ x b, blk ⟨rv, []⟩ ⟨rows, []⟩ x = some b → ∃ i r, x = .row i ∧ ids[i]? = some (some r) ∧ blk ow m (.row r) = some b := by
    intro x b hx
    cases x with
    | box i => simp [blk, Mem.box?] at hx
    | row i =>
      unfold blk at hx
      simp only at hx
      split at hx
      · rename_i row hr
        obtain ⟨v, h1, h2, h3⟩ := h.row i row hr
        split at hx
        · rw [h1] at hx
          obtain ⟨r, h4, h5⟩ := h3 b hx
          exact ⟨i, r, rfl, h4, h5⟩
        · cases hx
      · cases hx
  have hok : ∀ b, okOf ow m b → okOf ⟨rv, []⟩ ⟨rows, []⟩ b := by
    intro b hb x hx
    obtain ⟨i, r, _, _, h1⟩ := hsub x b hx
    exact hb _ h1
  refine ⟨⟨h.len, rfl, fun i row e => ?_, fun i bx e => by simp [Mem.box?] at e, fun x y b h1 k1 => ?_, fun x b h1 => ?_, fun i hi e => by simp at hi⟩, hok⟩
  · obtain ⟨v, h1, h2, _⟩ := h.row i row e
    exact ⟨v, h1, .inl (h2.keep (Stay.mono fun b _ hb => hok b hb) fun _ _ _ => rfl)⟩
  · obtain ⟨i, r, rfl, h2, h3⟩ := hsub x b h1
    obtain ⟨j, q, rfl, k2, k3⟩ := hsub y b k1
    have := M.dis _ _ b h3 k3
    injection this with this
    subst this
    rw [ids_inj hd h2 k2]
  · obtain ⟨i, r, rfl, h2, h3⟩ := hsub x b h1
    exact M.may_ _ _ h3
end
end Go.Fx
