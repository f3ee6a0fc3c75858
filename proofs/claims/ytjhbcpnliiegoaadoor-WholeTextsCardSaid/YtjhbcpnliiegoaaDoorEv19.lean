/- What a function says of itself, from its evaluation. -/
import Derived.Test.YtjhbcpnliiegoaaDoorEv18
namespace Go.Fx
open Go Go.RowKit
set_option linter.unusedVariables false
set_option linter.unusedSimpArgs false

section
variable {P : Program} {T : Tab} {C : Cals} {w : World} {may : Nat → Prop} {ow : Ow} {m : Mem} {s : S} {a : Act}

/-! ### the arguments -/
theorem argC_rel {ok : Nat → Prop} {okA : Nat → Prop} {fr : Bool} {p : Bool × K} {x : p.2.T} {v : Value} (h1 : ∀ b, okA b → okf ok may fr b) (h : RdV w okA p x v) : CmpRel w ok may ow (argC fr p x) v := by
  unfold RdV at h
  unfold argC
  cases hp : p.1 with
  | true =>
    rw [hp] at h
    simp only [if_true] at h ⊢
    obtain ⟨cs, rfl, h⟩ := h
    exact ⟨cs, rfl, split_rel (Rd.mono h1 h)⟩
  | false =>
    rw [hp] at h
    simp only [Bool.false_eq_true, if_false] at h ⊢
    have h2 := split_rel (ow := ow) (Rd.mono h1 h)
    have hl := h2.len
    split
    · rename_i l he
      rw [he] at h2
      exact h2.1
    · rename_i hne
      match hq : splitK fr p.2 x, hl with
      | [l], _ => exact absurd hq (hne l)

theorem argFr_mem {ok : Nat → Prop} {okA : Nat → Prop} {fr : Bool} (h1 : ∀ b, okA b → okf ok may fr b) : ∀ {ps : List (Bool × K)} {i : Nat} {x : argT ps} {vs : List Value} {q : Nat × SV}, RdArgs w okA ps x vs → q ∈ argFr fr ps i x → ∃ v, vs[q.1 - i]? = some v ∧ i ≤ q.1 ∧ SVRel w ok may ow m q.2 v
  | [], i, x, vs, q, h, hq => by simp [argFr] at hq
  | p :: ps, i, x, vs, q, ⟨v, vr, e, hv, hr⟩, hq => by
    subst e
    rcases List.mem_cons.1 hq with rfl | hq
    · exact ⟨v, by simp, Nat.le_refl _, argC_rel h1 hv⟩
    · obtain ⟨u, h2, h3, h4⟩ := argFr_mem h1 hr hq
      refine ⟨u, ?_, by omega, h4⟩
      rw [show q.1 - i = (q.1 - (i + 1)) + 1 by omega]
      simpa using h2

theorem RdArgs.len {okA : Nat → Prop} : ∀ {ps : List (Bool × K)} {x : argT ps} {vs : List Value}, RdArgs w okA ps x vs → vs.length = ps.length
  | [], x, vs, h => by obtain rfl := h; rfl
  | p :: ps, x, vs, ⟨v, vr, e, _, hr⟩ => by subst e; simp [hr.len]

/-! ### the results -/
theorem ofCs_rel {ok : Nat → Prop} {cs : List Cmp} {us : List Value} (h : F2 (CmpRel w ok may ow) cs us) : SVRel w ok may ow m (ofCs cs) (if h : us.toArray.size = 1 then us.toArray[0] else .tuple us.toArray) := by
  match cs, us, h with
  | [], [], h => exact ⟨[], rfl, trivial⟩
  | [c], [u], h => exact h.1
  | c :: d :: cs, u :: v :: us, h => exact ⟨_, rfl, h⟩
  | [], _ :: _, h => exact h.elim
  | [c], [], h => exact h.elim
  | [c], u :: v :: us, h => exact h.2.elim
  | c :: d :: cs, [], h => exact h.elim
  | c :: d :: cs, [u], h => exact h.2.elim

theorem thaw_rd {okR ok : Nat → Prop} (H : ∀ b, okR b → ok b) : ∀ {rs : List (Bool × K)} {y : argT rs} {us : List Value} {n : Nat}, RdArgs w okR rs y us → ∃ cs', thaw false false n rs y = some (cs', []) ∧ F2 (CmpRel w ok may ow) cs' us
  | [], y, us, n, h => ⟨[], rfl, by obtain rfl := h; trivial⟩
  | p :: rs, y, us, n, ⟨v, vr, e, hv, hr⟩ => by
    subst e
    obtain ⟨cs', h1, h2⟩ := thaw_rd (n := n) H hr
    unfold RdV at hv
    cases hp : p.1 with
    | true =>
      rw [hp] at hv
      simp only [if_true] at hv
      obtain ⟨es, rfl, hv⟩ := hv
      refine ⟨.agg (splitK false p.2 y.1) :: cs', by simp [thaw, hp, mkC, h1], ⟨es, rfl, split_rel (Rd.mono (fun b hb => ⟨H b hb, fun e => by cases e⟩) hv)⟩, h2⟩
    | false =>
      rw [hp] at hv
      simp only [Bool.false_eq_true, if_false] at hv
      have h3 := split_rel (fr := false) (may := may) (ow := ow) (ok := ok) (Rd.mono (fun b hb => ⟨H b hb, fun e => by cases e⟩) hv)
      have hl := h3.len
      match hq : splitK false p.2 y.1, hl with
      | [l], _ =>
        rw [hq] at h3
        exact ⟨.lf l :: cs', by simp [thaw, hp, mkC, h1, hq], h3.1, h2⟩

/-! ### results in rows of nobody else -/
theorem thawL_append : ∀ (x y : List Leaf) (n : Nat), thawL n (x ++ y) = ((thawL n x).1 ++ (thawL (n + (thawL n x).2.length) y).1, (thawL n x).2 ++ (thawL (n + (thawL n x).2.length) y).2)
  | [], y, n => rfl
  | l :: x, y, n => by
    have ih := fun n => thawL_append x y n
    match l with
    | .val fr (.sl e k) xs => simp only [List.cons_append, thawL, ih, List.length_cons]; simp [Nat.add_assoc, Nat.add_comm 1]
    | .val fr (.int q) xs => simp only [List.cons_append, thawL, ih]
    | .val fr .bool xs => simp only [List.cons_append, thawL, ih]
    | .val fr .str xs => simp only [List.cons_append, thawL, ih]
    | .val fr .unit xs => simp only [List.cons_append, thawL, ih]
    | .val fr (.prod a b) xs => simp only [List.cons_append, thawL, ih]
    | .nil => simp only [List.cons_append, thawL, ih]
    | .own q => simp only [List.cons_append, thawL, ih]

/-- Rows that are made of results: their values, and the old rows they are. -/
structure Made (w : World) (may : Nat → Prop) (ow : Ow) (m : Mem) (rows : List (Option Row)) (rv : List Value) (ids : List (Option Nat)) : Prop where
  len : rv.length = rows.length
  leni : ids.length = rows.length
  row : ∀ i row, (⟨rows, []⟩ : Mem).row? i = some row → ∃ v, rv[i]? = some v ∧ RowRel w (okOf ow m) may row v ∧ ∀ b, v.ownBlock = some b → ∃ r, ids[i]? = some (some r) ∧ blk ow m (.row r) = some b

theorem Made.nil : Made w may ow m [] [] [] := ⟨rfl, rfl, fun i row h => by simp [Mem.row?] at h⟩
theorem Made.append {rows rows' : List (Option Row)} {rv rv' : List Value} {ids ids' : List (Option Nat)} (h : Made w may ow m rows rv ids) (h' : Made w may ow m rows' rv' ids') : Made w may ow m (rows ++ rows') (rv ++ rv') (ids ++ ids') := by
  refine ⟨by simp [h.len, h'.len], by simp [h.leni, h'.leni], fun i row e => ?_⟩
  simp only [Mem.row?] at e
  by_cases hi : i < rows.length
  · rw [List.getElem?_append_left hi] at e
    obtain ⟨v, h1, h2, h3⟩ := h.row i row e
    refine ⟨v, by rw [List.getElem?_append_left (by rw [h.len]; exact hi)]; exact h1, h2, fun b hb => ?_⟩
    obtain ⟨r, h4, h5⟩ := h3 b hb
    exact ⟨r, by rw [List.getElem?_append_left (by rw [h.leni]; exact hi)]; exact h4, h5⟩
  · rw [List.getElem?_append_right (by omega)] at e
    obtain ⟨v, h1, h2, h3⟩ := h'.row _ row e
    refine ⟨v, by rw [List.getElem?_append_right (by rw [h.len]; omega), h.len]; exact h1, h2, fun b hb => ?_⟩
    obtain ⟨r, h4, h5⟩ := h3 b hb
    exact ⟨r, by rw [List.getElem?_append_right (by rw [h.leni]; omega), h.leni]; exact h4, h5⟩

def RvAt (n : Nat) (rv : List Value) (big : List Value) : Prop := ∀ (i : Nat) (v : Value), rv[i]? = some v → big[n + i]? = some v
theorem RvAt.left {n : Nat} {rv rv' big : List Value} (h : RvAt n (rv ++ rv') big) : RvAt n rv big := fun i v e => h i v (by rw [List.getElem?_append_left (List.getElem?_eq_some_iff.1 e).1]; exact e)
theorem RvAt.right {n : Nat} {rv rv' big : List Value} (h : RvAt n (rv ++ rv') big) : RvAt (n + rv.length) rv' big := fun i v e => by
  rw [Nat.add_assoc]
  exact h _ v (by rw [List.getElem?_append_right (by omega), Nat.add_sub_cancel_left]; exact e)

theorem ownIds_append (x y : List Leaf) : ownIds (x ++ y) = ownIds x ++ ownIds y := by simp [ownIds]

theorem thawL_own (M : MemRel w may ow m) : ∀ {k : K} {ls : List Leaf} {x : k.T} {es : List Value} (n : Nat), ls.all (ownLf m) = true → F2 (LfRel w (okOf ow m) may ow) ls es → packK m k ls = some x →
    ∃ rv ids, Made w may ow m (thawL n (splitK true k x)).2 rv ids ∧ ids.filterMap id = ownIds ls ∧ ∀ (ok' may' : Nat → Prop) (o' : Ow), RvAt n rv o'.rv → F2 (LfRel w ok' may' o') (thawL n (splitK true k x)).1 es
  | .prod p q, ls, x, es, n, ha, h, e => by
    simp only [packK] at e
    cases h1 : packK m p (ls.take p.n) with
    | none => simp [h1] at e
    | some y =>
      cases h2 : packK m q (ls.drop p.n) with
      | none => simp [h1, h2] at e
      | some z =>
        simp only [h1, h2] at e
        obtain rfl := Option.some.inj e
        have ha' : ∀ l ∈ ls, ownLf m l = true := List.all_eq_true.1 ha
        obtain ⟨rv1, ids1, m1, i1, f1⟩ := thawL_own M (k := p) n (List.all_eq_true.2 fun l hl => ha' l (List.mem_of_mem_take hl)) (h.take p.n) h1
        obtain ⟨rv2, ids2, m2, i2, f2⟩ := thawL_own M (k := q) (n + (thawL n (splitK true p y)).2.length) (List.all_eq_true.2 fun l hl => ha' l (List.mem_of_mem_drop hl)) (h.drop p.n) h2
        refine ⟨rv1 ++ rv2, ids1 ++ ids2, ?_, ?_, fun ok' may' o' hr => ?_⟩
        · simp only [splitK]; rw [thawL_append]; exact m1.append m2
        · rw [List.filterMap_append, i1, i2, ← ownIds_append, List.take_append_drop]
        · simp only [splitK]
          rw [thawL_append]
          have := (f1 ok' may' o' hr.left).append (f2 ok' may' o' (by rw [← m1.len]; exact hr.right))
          rwa [List.take_append_drop] at this
  | .unit, ls, x, es, n, ha, h, e => by
    cases ls with
    | nil => exact ⟨[], [], Made.nil, rfl, fun _ _ _ _ => by obtain rfl := h.nil_left; trivial⟩
    | cons => simp [packK] at e
  | .int q, ls, x, es, n, ha, h, e => by
    match ls, es, h with
    | [], _, _ => simp [packK] at e
    | [l], [v], h =>
      cases l with
      | val fr k y =>
        obtain ⟨rfl, rfl⟩ := cast_some (show K.cast k (.int q) y = some x from e)
        exact ⟨[], [], Made.nil, rfl, fun _ _ _ _ => ⟨h.1, trivial⟩⟩
      | nil => simp [packK, leafData] at e
      | own r =>
        simp only [packK, leafData] at e
        split at e
        · cases e
        · obtain ⟨e', _⟩ := cast_some e; cases e'
    | _ :: _ :: _, _, _ => simp [packK] at e
  | .bool, ls, x, es, n, ha, h, e => by
    match ls, es, h with
    | [], _, _ => simp [packK] at e
    | [l], [v], h =>
      cases l with
      | val fr k y =>
        obtain ⟨rfl, rfl⟩ := cast_some (show K.cast k .bool y = some x from e)
        exact ⟨[], [], Made.nil, rfl, fun _ _ _ _ => ⟨h.1, trivial⟩⟩
      | nil => simp [packK, leafData] at e
      | own r =>
        simp only [packK, leafData] at e
        split at e
        · cases e
        · obtain ⟨e', _⟩ := cast_some e; cases e'
    | _ :: _ :: _, _, _ => simp [packK] at e
  | .str, ls, x, es, n, ha, h, e => by
    match ls, es, h with
    | [], _, _ => simp [packK] at e
    | [l], [v], h =>
      cases l with
      | val fr k y =>
        obtain ⟨rfl, rfl⟩ := cast_some (show K.cast k .str y = some x from e)
        exact ⟨[], [], Made.nil, rfl, fun _ _ _ _ => ⟨h.1, trivial⟩⟩
      | nil => simp [packK, leafData] at e
      | own r =>
        simp only [packK, leafData] at e
        split at e
        · cases e
        · obtain ⟨e', _⟩ := cast_some e; cases e'
    | _ :: _ :: _, _, _ => simp [packK] at e
  | .sl t k, ls, x, es, n, ha, h, e => by
    match ls, es, h with
    | [], _, _ => simp [packK] at e
    | [l], [v], h =>
      cases l with
      | val fr k' y =>
        obtain ⟨rfl, rfl⟩ := cast_some (show K.cast k' (.sl t k) y = some x from e)
        simp [ownLf] at ha
      | nil =>
        have e : some [] = some x := e
        obtain rfl := Option.some.inj e
        obtain rfl : v = .slice none 0 0 := h.1
        refine ⟨[.slice none 0 0], [none], ⟨rfl, rfl, fun i row hr => ?_⟩, rfl, fun _ _ o' hr => ⟨⟨hr 0 _ rfl, _, _, _, rfl⟩, trivial⟩⟩
        cases i with
        | succ i => simp [Mem.row?, splitK, thawL] at hr
        | zero =>
          simp [Mem.row?, splitK, thawL] at hr
          subst hr
          exact ⟨_, rfl, ⟨⟨_, _, _, rfl⟩, by simp only [if_true]; exact ⟨[], World.ownsRow_nil w 0 _ _, rfl⟩⟩, fun b hb => by simp [Value.ownBlock] at hb⟩
      | own r =>
        simp only [packK, leafData] at e
        cases hr : m.row? r with
        | none => simp [hr] at e
        | some row =>
          simp only [hr] at e
          obtain ⟨e1, e2⟩ := cast_some e
          obtain ⟨re, rk, rf, rw', rx⟩ := row
          injection e1 with e3 e4
          subst e3 e4
          obtain rfl : rx = x := e2
          simp [ownLf, hr] at ha
          obtain ⟨rfl, rfl⟩ := ha
          obtain ⟨v1, hv1, RR⟩ := M.rows r _ hr
          obtain rfl : v = v1 := Option.some.inj (h.1.1.symm.trans hv1)
          refine ⟨[v], [some r], ⟨rfl, rfl, fun i row hr' => ?_⟩, rfl, fun _ _ o' hr => ⟨⟨hr 0 _ rfl, h.1.2⟩, trivial⟩⟩
          cases i with
          | succ i => simp [Mem.row?, splitK, thawL] at hr'
          | zero =>
            simp [Mem.row?, splitK, thawL] at hr'
            subst hr'
            exact ⟨v, rfl, RR, fun b hb => ⟨r, rfl, by rw [blk_row hr hv1 rfl]; exact hb⟩⟩
    | _ :: _ :: _, _, _ => simp [packK] at e
end
end Go.Fx
