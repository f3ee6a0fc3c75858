/- How the state changes: a row frozen, made, taken over, written; a variable made, written. -/
import Derived.Test.YtjhbcpnliiegoaaEv2
namespace Go.Fx
open Go Go.RowKit
set_option linter.unusedVariables false
section
variable {m : Mem}
theorem row?_lt {r : Nat} {row : Row} (h : m.row? r = some row) : r < m.rows.length := by
  unfold Mem.row? at h
  rcases Nat.lt_or_ge r m.rows.length with h' | h'
  · exact h'
  · rw [List.getElem?_eq_none h'] at h; cases h
theorem box?_lt {r : Nat} {bx : Box} (h : m.box? r = some bx) : r < m.boxes.length := by
  unfold Mem.box? at h
  rcases Nat.lt_or_ge r m.boxes.length with h' | h'
  · exact h'
  · rw [List.getElem?_eq_none h'] at h; cases h
theorem row?_set (r i : Nat) (x : Option Row) (b : List (Option Box)) : (⟨m.rows.set r x, b⟩ : Mem).row? i = if i = r ∧ r < m.rows.length then x else m.row? i := by
  unfold Mem.row?
  simp only [List.getElem?_set]
  by_cases h : r = i
  · subst h
    by_cases h' : r < m.rows.length
    · simp [h']
    · simp [h', List.getElem?_eq_none (Nat.le_of_not_lt h')]
  · rw [if_neg h, if_neg (by omega)]
theorem row?_app (l : List (Option Row)) (i : Nat) (b : List (Option Box)) : (⟨m.rows ++ l, b⟩ : Mem).row? i = if i < m.rows.length then m.row? i else (l[i - m.rows.length]?).bind id := by
  unfold Mem.row?
  by_cases h : i < m.rows.length
  · simp [h, List.getElem?_append_left h]
  · simp [h, List.getElem?_append_right (Nat.le_of_not_lt h)]
theorem box?_set (r i : Nat) (x : Option Box) (l : List (Option Row)) : (⟨l, m.boxes.set r x⟩ : Mem).box? i = if i = r ∧ r < m.boxes.length then x else m.box? i := by
  unfold Mem.box?
  simp only [List.getElem?_set]
  by_cases h : r = i
  · subst h
    by_cases h' : r < m.boxes.length
    · simp [h']
    · simp [h', List.getElem?_eq_none (Nat.le_of_not_lt h')]
  · rw [if_neg h, if_neg (by omega)]
theorem box?_app (l : List (Option Box)) (i : Nat) (q : List (Option Row)) : (⟨q, m.boxes ++ l⟩ : Mem).box? i = if i < m.boxes.length then m.box? i else (l[i - m.boxes.length]?).bind id := by
  unfold Mem.box?
  by_cases h : i < m.boxes.length
  · simp [h, List.getElem?_append_left h]
  · simp [h, List.getElem?_append_right (Nat.le_of_not_lt h)]
end
section
variable {w w' : World} {may : Nat → Prop} {o : Ow} {m : Mem}
/-- A row that nothing touches. -/
theorem SlRel.keep {ok ok' : Nat → Prop} {row : Row} {v : Value} (h : SlRel w ok may row v) (H : Stay w ok w' ok')
    (hb : row.rw = true → ∀ b, oblk v = some b → w'.heap[b]? = w.heap[b]?) : SlRel w' ok' may row v := by
  obtain ⟨hs, h⟩ := h
  refine ⟨hs, ?_⟩
  cases hr : row.rw with
  | false => rw [hr] at h; simp only [Bool.false_eq_true, if_false] at h ⊢; exact Rd.keep H.okf h
  | true =>
    rw [hr] at h
    simp only [if_true] at h ⊢
    obtain ⟨cs, h1, h2⟩ := h
    refine ⟨cs, ⟨h1.1, ?_⟩, h2.keep H.okf⟩
    rcases h1.2 with h1 | ⟨g, cap, cur, rfl, hg, hh, rest⟩
    · exact .inl h1
    · exact .inr ⟨g, cap, cur, rfl, hg, by rw [hb hr g rfl]; exact hh, rest⟩
theorem MpRel.keep {ok ok' : Nat → Prop} {row : Row} {v : Value} (h : MpRel w ok may row v) (H : Stay w ok w' ok')
    (hb : row.rw = true → ∀ b, oblk v = some b → w'.heap[b]? = w.heap[b]?) : MpRel w' ok' may row v := by
  obtain ⟨g, xs, rfl, hx, h⟩ := h
  refine ⟨g, xs, rfl, hx, ?_⟩
  cases hr : row.rw with
  | false => rw [hr] at h; simp only [Bool.false_eq_true, if_false] at h ⊢; exact h.keep H.okf
  | true => rw [hr] at h; simp only [if_true] at h ⊢; rw [hb hr g rfl]; exact h
theorem RowRel.keep {ok ok' : Nat → Prop} {row : Row} {v : Value} (h : RowRel w ok may row v) (H : Stay w ok w' ok')
    (hb : row.rw = true → ∀ b, oblk v = some b → w'.heap[b]? = w.heap[b]?) : RowRel w' ok' may row v :=
  h.imp (·.keep H hb) (·.keep H hb)
theorem BoxRel.keep {ok ok' : Nat → Prop} {o' : Ow} {bx : Box} {g : Nat} (h : BoxRel w ok may o bx g) (H : Stay w ok w' ok') (R : ∀ (i : Nat) (v : Value), o.rv[i]? = some v → o'.rv[i]? = some v)
    (hb : w'.heap[g]? = w.heap[g]?) : BoxRel w' ok' may o' bx g := by
  obtain ⟨vs, h1, h2⟩ := h
  exact ⟨vs, by rw [hb]; exact h1, h2.imp fun _ _ h => LfRel.keep H R h⟩
theorem ownsRow.slice {e : TypeId} {n size : Nat} {v : Value} {cs : List Value} (h : w.ownsRow 0 e size v n cs) : ∃ A c, v = .slice A n c := by
  rcases h.2 with ⟨rfl, rfl⟩ | ⟨g, cap, cur, rfl, _⟩
  · exact ⟨none, 0, rfl⟩
  · exact ⟨_, _, rfl⟩
/-- A row of the call's own, read. -/
theorem MpRel.read {ok ok' : Nat → Prop} {row : Row} {v : Value} (h : MpRel w ok may row v) (hok : ∀ b, ok b → ok' b)
    (hb : row.rw = true → ∀ b, oblk v = some b → ok' b ∧ may b) : ∃ xs, row.mp? = some xs ∧ (∃ g, v = .map (some g)) ∧ RdMp w (okf ok' may row.fr) xs v := by
  obtain ⟨g, xs, rfl, hx, h⟩ := h
  refine ⟨xs, hx, ⟨g, rfl⟩, ?_⟩
  cases hr : row.rw with
  | false => rw [hr] at h; simp only [Bool.false_eq_true, if_false] at h; exact h.keep (Stay.mono fun b _ => okf.mono hok b)
  | true =>
    rw [hr] at h
    simp only [if_true] at h
    obtain ⟨es, clk, h1, h2⟩ := h
    obtain ⟨h3, h4⟩ := hb hr g rfl
    exact .inr ⟨g, es, clk, rfl, (Array.getElem?_eq_some_iff.1 h1).1, ⟨h3, fun _ => h4⟩, h1, h2⟩
theorem SlRel.read {ok ok' : Nat → Prop} {row : Row} {v : Value} (h : SlRel w ok may row v) (hok : ∀ b, ok b → ok' b)
    (hb : row.rw = true → ∀ b, oblk v = some b → ok' b ∧ may b) : Rd w (okf ok' may row.fr) (.sl row.e row.k) row.xs [v] := by
  obtain ⟨hs, h⟩ := h
  cases hr : row.rw with
  | false => rw [hr] at h; simp only [Bool.false_eq_true, if_false] at h; exact Rd.mono (okf.mono hok) h
  | true =>
    rw [hr] at h
    simp only [if_true] at h
    obtain ⟨cs, h1, h2⟩ := h
    have h3 : RdEach w (okf ok' may row.fr) row.k row.xs cs := h2.keep (Stay.mono fun b _ => okf.mono hok b)
    obtain ⟨A, c, rfl⟩ := ownsRow.slice h1
    refine h3.toSl ?_ fun hne => ?_
    · rcases h1.2 with ⟨h4, h5⟩ | ⟨g, cap, cur, h4, hg, hh, hn, rest⟩
      · omega
      · injection h4 with _ _ h4; omega
    · rcases h1.2 with ⟨h4, h5⟩ | ⟨g, cap, cur, h4, hg, hh, hn, rest⟩
      · exact absurd (List.eq_nil_of_length_eq_zero h5) hne
      · injection h4 with h4 _ h6
        subst h4
        obtain ⟨a, b⟩ := hb hr g rfl
        exact ⟨_, rfl, (Array.getElem?_eq_some_iff.1 hh).1, ⟨a, fun _ => b⟩, fun j u hu => World.ownsRow.cells h1 (g := g) rfl j u hu⟩
theorem blk_row {r : Nat} {row : Row} {v : Value} (h : m.row? r = some row) (hv : o.rv[r]? = some v) (hr : row.rw = true) : blk o m (.row r) = oblk v := by
  simp [blk, h, hr, hv]
theorem blk_row_none {r : Nat} (h : m.row? r = none) : blk o m (.row r) = none := by simp [blk, h]
theorem blk_row_froz {r : Nat} {row : Row} (h : m.row? r = some row) (hr : row.rw = false) : blk o m (.row r) = none := by simp [blk, h, hr]
theorem blk_box {b g : Nat} {bx : Box} (h : m.box? b = some bx) (hv : o.bb[b]? = some (some g)) : blk o m (.box b) = some g := by simp [blk, h, hv]
/-- The same memory, rows of it weaker: frozen, dead, less fresh. -/
theorem MemRel.weaken {m' : Mem} (M : MemRel w may o m) (hb : m'.boxes = m.boxes) (hl : m'.rows.length = m.rows.length)
    (hr : ∀ i row', m'.row? i = some row' → ∃ row, m.row? i = some row ∧ row'.e = row.e ∧ (∃ e : row'.k = row.k, e ▸ row'.xs = row.xs) ∧ (row'.rw = true → row.rw = true) ∧ (row'.fr = true → row.fr = true)) :
    MemRel w may o m' ∧ Keep may w o m w o m' := by
  have hbx : ∀ i, m'.box? i = m.box? i := fun i => by unfold Mem.box?; rw [hb]
  have hsub : ∀ x b, blk o m' x = some b → blk o m x = some b := by
    intro x b h
    cases x with
    | box i => simpa [blk, hbx] using h
    | row i =>
      cases e : m'.row? i with
      | none => rw [blk_row_none e] at h; cases h
      | some row' =>
        obtain ⟨row, e1, _, _, e2, _⟩ := hr i row' e
        cases hrw : row'.rw with
        | false => rw [blk_row_froz e hrw] at h; cases h
        | true =>
          simp only [blk, e, hrw, if_true] at h
          simp only [blk, e1, e2 hrw, if_true]
          exact h
  have hok : ∀ b, okOf o m b → okOf o m' b := fun b h x e => h x (hsub x b e)
  have S : Stay w (okOf o m) w (okOf o m') := Stay.mono fun b _ => hok b
  refine ⟨⟨by rw [hl]; exact M.rlen, by rw [hb]; exact M.blen, fun i row' e => ?_, fun i bx e => ?_, fun x y b h k => M.dis x y b (hsub _ _ h) (hsub _ _ k), fun x b h => M.may_ x b (hsub x b h), fun i hi e => M.free i (by rw [← hb]; exact hi) (by rw [← hbx]; exact e)⟩,
    ⟨S, fun _ _ h => h, fun _ _ h => h, fun r row' hlt e => ?_, by omega, Nat.le_refl _, fun _ _ _ => rfl, rfl, rfl, rfl⟩⟩
  · obtain ⟨row, e1, e2, ⟨e3, e4⟩, e5, e6⟩ := hr i row' e
    obtain ⟨v, hv, R⟩ := M.rows i row e1
    refine ⟨v, hv, ?_⟩
    obtain ⟨te, tk, tfr, trw, txs⟩ := row'
    obtain ⟨ue, uk, ufr, urw, uxs⟩ := row
    simp only at e2 e3 e4 e5 e6
    subst e2 e3
    simp only at e4
    subst e4
    have hfr : ∀ b, okf (okOf o m) may ufr b → okf (okOf o m') may tfr b := fun b h => ⟨hok b h.1, fun z => h.2 (e6 z)⟩
    cases trw with
    | true =>
      have hu := e5 rfl
      subst hu
      rcases R with ⟨hs, cs, h1, h2⟩ | ⟨g, xs, h1, h2, h3⟩
      · exact .inl ⟨hs, by simp only [if_true]; exact ⟨cs, h1, h2.keep (Stay.mono fun b _ => hfr b)⟩⟩
      · refine .inr ⟨g, xs, h1, ?_, h3⟩
        unfold Row.mp? at h2 ⊢
        split at h2
        · rename_i he; cases he; exact h2
        · cases h2
    | false =>
      have hbl : urw = true → ∀ b, oblk v = some b → okOf o m' b ∧ may b := fun hrw b hvb => by
        have hb1 : blk o m (.row i) = some b := by rw [blk_row e1 hv hrw]; exact hvb
        refine ⟨fun x hx => ?_, (M.may_ _ _ hb1).1⟩
        have := M.dis x (.row i) b (hsub x b hx) hb1
        subst this
        rw [blk_row_froz e rfl] at hx
        cases hx
      rcases R with R | R
      · refine .inl ⟨R.1, ?_⟩
        simp only [Bool.false_eq_true, if_false]
        exact Rd.mono (fun b h => ⟨h.1, fun z => h.2 (e6 z)⟩) (R.read (ok' := okOf o m') hok hbl)
      · obtain ⟨xs, h2, ⟨g, h1⟩, h3⟩ := R.read (ok' := okOf o m') hok hbl
        refine .inr ⟨g, xs, h1, ?_, ?_⟩
        · unfold Row.mp? at h2 ⊢
          split at h2
          · rename_i he; cases he; exact h2
          · cases h2
        · simp only [Bool.false_eq_true, if_false]
          exact h3.keep (Stay.mono fun b _ h => ⟨h.1, fun z => h.2 (e6 z)⟩)
  · rw [hbx] at e
    obtain ⟨g, hg, B⟩ := M.boxes i bx e
    exact ⟨g, hg, B.keep S (fun _ _ h => h) rfl⟩
  · obtain ⟨row, e1, _, ⟨e3, e4⟩, _⟩ := hr r row' e
    refine ⟨row, e1, e3, ?_⟩
    obtain ⟨te, tk, tfr, trw, txs⟩ := row'
    obtain ⟨ue, uk, ufr, urw, uxs⟩ := row
    simp only at e3 e4
    subst e3
    simp only at e4
    subst e4
    exact fun _ => rfl
theorem row?_freeze (r i : Nat) : (m.freeze (.own r)).row? i = if i = r then (m.row? r).map (fun row => { row with rw := false }) else m.row? i := by
  unfold Mem.freeze Mem.row?
  simp only [List.getElem?_modify]
  by_cases h : r = i
  · subst h
    simp only [if_true]
    cases m.rows[r]? with
    | none => rfl
    | some x => cases x <;> rfl
  · simp only [if_neg h, if_neg (show ¬ i = r by omega)]
    cases m.rows[i]? <;> rfl
theorem MemRel.freeze (M : MemRel w may o m) (l : Leaf) : MemRel w may o (m.freeze l) ∧ Keep may w o m w o (m.freeze l) := by
  cases l with
  | val fr k x => exact ⟨M, Keep.refl _ _ _ _⟩
  | nil => exact ⟨M, Keep.refl _ _ _ _⟩
  | own r =>
    refine M.weaken rfl (by simp [Mem.freeze]) fun i row' e => ?_
    rw [row?_freeze] at e
    by_cases h : i = r
    · subst h
      rw [if_pos rfl] at e
      obtain ⟨row, e1, rfl⟩ := Option.map_eq_some_iff.1 e
      exact ⟨row, e1, rfl, ⟨rfl, rfl⟩, fun h => (by cases h), id⟩
    · rw [if_neg h] at e
      exact ⟨row', e, rfl, ⟨rfl, rfl⟩, id, id⟩
theorem MemRel.freezeAll (M : MemRel w may o m) (ls : List Leaf) : MemRel w may o (m.freezeAll ls) ∧ Keep may w o m w o (m.freezeAll ls) := by
  induction ls generalizing m with
  | nil => exact ⟨M, Keep.refl _ _ _ _⟩
  | cons l r ih =>
    obtain ⟨M1, K1⟩ := M.freeze l
    obtain ⟨M2, K2⟩ := ih M1
    exact ⟨M2, K1.trans K2⟩
/-- One row out (r; none, if it is no row's number), a new one in. -/
theorem MemRel.renewG (M : MemRel w may o m) (r : Nat) (row' : Row) (v' : Value)
    (hsz : w.heap.size ≤ w'.heap.size) (hos : w'.os = w.os) (ht : w'.tape = w.tape) (hout : w'.output = w.output)
    (hframe : ∀ b, b < w.heap.size → blk o m (.row r) ≠ some b → w'.heap[b]? = w.heap[b]?)
    (hrw : row'.rw = true) (hR : ∀ ok', Stay w (okOf o m) w' ok' → RowRel w' ok' may row' v')
    (hblk : ∀ b, oblk v' = some b → may b ∧ b < w'.heap.size ∧ (w.heap.size ≤ b ∨ blk o m (.row r) = some b)) :
    MemRel w' may ⟨o.rv ++ [v'], o.bb⟩ ⟨m.rows.set r none ++ [some row'], m.boxes⟩ ∧ Keep may w o m w' ⟨o.rv ++ [v'], o.bb⟩ ⟨m.rows.set r none ++ [some row'], m.boxes⟩ := by
  have hrow : ∀ i, (⟨m.rows.set r none ++ [some row'], m.boxes⟩ : Mem).row? i = if i < m.rows.length then (if i = r then none else m.row? i) else if i = m.rows.length then some row' else none := by
    intro i
    have h1 := row?_app (m := ⟨m.rows.set r none, m.boxes⟩) [some row'] i m.boxes
    simp only [List.length_set] at h1
    rw [h1, row?_set]
    by_cases h : i < m.rows.length
    · simp only [h, if_true]
      by_cases h2 : i = r
      · subst h2; simp [h]
      · simp [h2]
    · simp only [h, if_false]
      by_cases h2 : i = m.rows.length
      · subst h2; simp
      · rw [if_neg h2]
        have : ([some row'] : List (Option Row))[i - m.rows.length]? = none := List.getElem?_eq_none (by simp; omega)
        rw [this]; rfl
  have hrvl : ∀ i v, o.rv[i]? = some v → (o.rv ++ [v'])[i]? = some v := fun i v h => by
    rw [List.getElem?_append_left (List.getElem?_eq_some_iff.1 h).1]; exact h
  have hnew : (o.rv ++ [v'])[m.rows.length]? = some v' := by rw [← M.rlen]; simp
  -- whose block is whose
  have hsub : ∀ x b, blk ⟨o.rv ++ [v'], o.bb⟩ ⟨m.rows.set r none ++ [some row'], m.boxes⟩ x = some b → (x = .row m.rows.length ∧ oblk v' = some b) ∨ (blk o m x = some b ∧ x ≠ .row r ∧ x ≠ .row m.rows.length) := by
    intro x b h
    cases x with
    | box i => exact .inr ⟨h, by simp, by simp⟩
    | row i =>
      simp only [blk, hrow] at h
      by_cases h1 : i < m.rows.length
      · simp only [h1, if_true] at h
        by_cases h2 : i = r
        · simp [h2] at h
        · simp only [h2, if_false] at h
          refine .inr ⟨?_, by simpa using h2, by simp; omega⟩
          simp only [blk]
          cases e : m.row? i with
          | none => rw [e] at h; cases h
          | some row =>
            rw [e] at h
            simp only at h ⊢
            cases hw : row.rw with
            | false => rw [hw] at h; cases h
            | true =>
              rw [hw] at h
              rw [List.getElem?_append_left (by rw [M.rlen]; exact h1)] at h
              exact h
      · simp only [h1, if_false] at h
        by_cases h2 : i = m.rows.length
        · subst h2
          simp only [if_true, hrw, hnew] at h
          exact .inl ⟨rfl, h⟩
        · simp [h2] at h
  have hok : ∀ b, b < w.heap.size → okOf o m b → okOf ⟨o.rv ++ [v'], o.bb⟩ ⟨m.rows.set r none ++ [some row'], m.boxes⟩ b := by
    intro b hb h x hx
    rcases hsub x b hx with ⟨_, h1⟩ | ⟨h1, _⟩
    · rcases (hblk b h1).2.2 with h2 | h2
      · omega
      · exact h _ h2
    · exact h _ h1
  have S : Stay w (okOf o m) w' (okOf ⟨o.rv ++ [v'], o.bb⟩ ⟨m.rows.set r none ++ [some row'], m.boxes⟩) :=
    fun b hb h => ⟨hok b hb h, by omega, hframe b hb (h _)⟩
  refine ⟨⟨by simp [M.rlen], M.blen, fun i row e => ?_, fun i bx e => ?_, fun x y b h k => ?_, fun x b h => ?_, M.free⟩, ⟨S, hrvl, fun _ _ h => h, fun q row q1 e => ?_, by simp, hsz, fun b hb hm => ?_, hos, ht, hout⟩⟩
  · rw [hrow] at e
    by_cases h1 : i < m.rows.length
    · simp only [h1, if_true] at e
      by_cases h2 : i = r
      · simp [h2] at e
      · simp only [h2, if_false] at e
        obtain ⟨v, hv, R⟩ := M.rows i row e
        refine ⟨v, hrvl i v hv, R.keep S fun hw b hb => ?_⟩
        have hb1 : blk o m (.row i) = some b := by rw [blk_row e hv hw]; exact hb
        refine hframe b (M.may_ _ _ hb1).2 fun h => h2 ?_
        have := M.dis _ _ b hb1 h
        simpa using this
    · simp only [h1, if_false] at e
      by_cases h2 : i = m.rows.length
      · subst h2
        simp only [if_true] at e
        obtain rfl := Option.some.inj e
        exact ⟨v', hnew, hR _ S⟩
      · simp [h2] at e
  · obtain ⟨g, hg, B⟩ := M.boxes i bx e
    have hb1 : blk o m (.box i) = some g := blk_box e hg
    exact ⟨g, hg, B.keep S hrvl (hframe g (M.may_ _ _ hb1).2 fun h => (by have := M.dis _ _ g hb1 h; simp at this))⟩
  · rcases hsub x b h with ⟨h1, h2⟩ | ⟨h1, h2, h3⟩ <;> rcases hsub y b k with ⟨k1, k2⟩ | ⟨k1, k2, k3⟩
    · rw [h1, k1]
    · rcases (hblk b h2).2.2 with h4 | h4
      · have := (M.may_ _ _ k1).2; omega
      · exact absurd (M.dis _ _ b k1 h4) k2
    · rcases (hblk b k2).2.2 with h4 | h4
      · have := (M.may_ _ _ h1).2; omega
      · exact absurd (M.dis _ _ b h1 h4) h2
    · exact M.dis _ _ b h1 k1
  · rcases hsub x b h with ⟨h1, h2⟩ | ⟨h1, h2, h3⟩
    · exact ⟨(hblk b h2).1, (hblk b h2).2.1⟩
    · have := M.may_ _ _ h1; exact ⟨this.1, by omega⟩
  · rw [hrow] at e
    simp only [q1, if_true] at e
    by_cases h2 : q = r
    · simp [h2] at e
    · simp only [h2, if_false] at e
      exact ⟨row, e, rfl, fun _ => rfl⟩
  · exact hframe b hb fun h => hm (M.may_ _ _ h).1
theorem SlRel.of {row' : Row} {v' : Value} (hrw : row'.rw = true) {cs : List Value} (hown : w'.ownsRow 0 row'.e row'.k.n v' row'.xs.length cs) {ok ok' : Nat → Prop} (hrd : RdEach w (okf ok may row'.fr) row'.k row'.xs cs) (S : Stay w ok w' ok') : RowRel w' ok' may row' v' :=
  .inl ⟨ownsRow.slice hown |> fun ⟨A, c, h⟩ => ⟨A, _, c, h⟩, by rw [hrw]; simp only [if_true]; exact ⟨cs, hown, hrd.keep S.okf⟩⟩
theorem MemRel.renew (M : MemRel w may o m) (r : Nat) (row' : Row) (v' : Value)
    (hsz : w.heap.size ≤ w'.heap.size) (hos : w'.os = w.os) (ht : w'.tape = w.tape) (hout : w'.output = w.output)
    (hframe : ∀ b, b < w.heap.size → blk o m (.row r) ≠ some b → w'.heap[b]? = w.heap[b]?)
    (hrw : row'.rw = true) (cs : List Value) (hown : w'.ownsRow 0 row'.e row'.k.n v' row'.xs.length cs) (hrd : RdEach w (okf (okOf o m) may row'.fr) row'.k row'.xs cs)
    (hblk : ∀ b, v'.ownBlock = some b → may b ∧ b < w'.heap.size ∧ (w.heap.size ≤ b ∨ blk o m (.row r) = some b)) :
    MemRel w' may ⟨o.rv ++ [v'], o.bb⟩ ⟨m.rows.set r none ++ [some row'], m.boxes⟩ ∧ Keep may w o m w' ⟨o.rv ++ [v'], o.bb⟩ ⟨m.rows.set r none ++ [some row'], m.boxes⟩ :=
  M.renewG r row' v' hsz hos ht hout hframe hrw (fun _ S => SlRel.of hrw hown hrd S) fun b hb => hblk b (by rw [← hb, oblk_own (ownsRow.slice hown |> fun ⟨A, c, h⟩ => ⟨A, _, c, h⟩)])
/-- A new row. -/
theorem MemRel.add (M : MemRel w may o m) (row' : Row) (v' : Value)
    (hsz : w.heap.size ≤ w'.heap.size) (hos : w'.os = w.os) (ht : w'.tape = w.tape) (hout : w'.output = w.output)
    (hframe : ∀ b, b < w.heap.size → w'.heap[b]? = w.heap[b]?)
    (hrw : row'.rw = true) (cs : List Value) (hown : w'.ownsRow 0 row'.e row'.k.n v' row'.xs.length cs) (hrd : RdEach w (okf (okOf o m) may row'.fr) row'.k row'.xs cs)
    (hblk : ∀ b, v'.ownBlock = some b → may b ∧ b < w'.heap.size ∧ w.heap.size ≤ b) :
    MemRel w' may ⟨o.rv ++ [v'], o.bb⟩ ⟨m.rows ++ [some row'], m.boxes⟩ ∧ Keep may w o m w' ⟨o.rv ++ [v'], o.bb⟩ ⟨m.rows ++ [some row'], m.boxes⟩ := by
  have := M.renew (w' := w') m.rows.length row' v' hsz hos ht hout (fun b hb _ => hframe b hb) hrw cs hown hrd (fun b hb => ⟨(hblk b hb).1, (hblk b hb).2.1, .inl (hblk b hb).2.2⟩)
  rwa [List.set_eq_of_length_le (Nat.le_refl _)] at this
/-- A row's elements, written anew in its own block. -/
theorem MemRel.writeR (M : MemRel w may o m) (r : Nat) (row row' : Row) (v : Value) (hr : m.row? r = some row) (hv : o.rv[r]? = some v) (hrw : row.rw = true)
    (hk : row'.k = row.k) (hl : (∃ A n c, v = .slice A n c) → row'.xs.length = row.xs.length) (hrw' : row'.rw = true)
    (hsz : w.heap.size ≤ w'.heap.size) (hos : w'.os = w.os) (ht : w'.tape = w.tape) (hout : w'.output = w.output)
    (hframe : ∀ b, b < w.heap.size → oblk v ≠ some b → w'.heap[b]? = w.heap[b]?)
    (hR : ∀ ok', Stay w (okOf o m) w' ok' → RowRel w' ok' may row' v) :
    MemRel w' may o ⟨m.rows.set r (some row'), m.boxes⟩ ∧ Keep may w o m w' o ⟨m.rows.set r (some row'), m.boxes⟩ := by
  have hlt := row?_lt hr
  have hrow : ∀ i, (⟨m.rows.set r (some row'), m.boxes⟩ : Mem).row? i = if i = r then some row' else m.row? i := fun i => by
    rw [row?_set]; simp [hlt]
  have hbr : blk o m (.row r) = oblk v := blk_row hr hv hrw
  have heq : ∀ x, blk o ⟨m.rows.set r (some row'), m.boxes⟩ x = blk o m x := by
    intro x
    cases x with
    | box i => rfl
    | row i =>
      by_cases h : i = r
      · subst h; rw [hbr]; exact blk_row (by rw [hrow, if_pos rfl]) hv hrw'
      · simp only [blk, hrow, if_neg h]
  have hok : ∀ b, okOf o m b → okOf o ⟨m.rows.set r (some row'), m.boxes⟩ b := fun b h x => by rw [heq]; exact h x
  have S : Stay w (okOf o m) w' (okOf o ⟨m.rows.set r (some row'), m.boxes⟩) := fun b hb h => ⟨hok b h, by omega, hframe b hb (by rw [← hbr]; exact h _)⟩
  refine ⟨⟨by simpa using M.rlen, M.blen, fun i row1 e => ?_, fun i bx e => ?_, fun x y b h k => M.dis x y b (by rwa [heq] at h) (by rwa [heq] at k), fun x b h => by rw [heq] at h; have := M.may_ x b h; exact ⟨this.1, by omega⟩, M.free⟩,
    ⟨S, fun _ _ h => h, fun _ _ h => h, fun q row1 q1 e => ?_, by simp, by omega, fun b hb hm => ?_, hos, ht, hout⟩⟩
  · rw [hrow] at e
    by_cases h : i = r
    · subst h
      rw [if_pos rfl] at e
      obtain rfl := Option.some.inj e
      exact ⟨v, hv, hR _ S⟩
    · rw [if_neg h] at e
      obtain ⟨u, hu, R⟩ := M.rows i row1 e
      refine ⟨u, hu, R.keep S fun hw b hb => ?_⟩
      have hb1 : blk o m (.row i) = some b := by rw [blk_row e hu hw]; exact hb
      refine hframe b (M.may_ _ _ hb1).2 fun h' => h ?_
      have := M.dis _ _ b hb1 (hbr.trans h')
      simpa using this
  · obtain ⟨g, hg, B⟩ := M.boxes i bx e
    have hb1 : blk o m (.box i) = some g := blk_box e hg
    exact ⟨g, hg, B.keep S (fun _ _ h => h) (hframe g (M.may_ _ _ hb1).2 fun h => (by have := M.dis _ _ g hb1 (hbr.trans h); simp at this))⟩
  · rw [hrow] at e
    by_cases h : q = r
    · subst h
      rw [if_pos rfl] at e
      obtain rfl := Option.some.inj e
      exact ⟨row, hr, hk, fun ⟨A, n, c, h⟩ => hl ⟨A, n, c, Option.some.inj (hv.symm.trans h)⟩⟩
    · rw [if_neg h] at e; exact ⟨row1, e, rfl, fun _ => rfl⟩
  · exact hframe b hb fun h => hm (M.may_ _ _ (hbr.trans h)).1
theorem MemRel.writeG (M : MemRel w may o m) (r : Nat) (row row' : Row) (v : Value) (hr : m.row? r = some row) (hv : o.rv[r]? = some v) (hrw : row.rw = true)
    (hk : row'.k = row.k) (hl : row'.xs.length = row.xs.length) (hrw' : row'.rw = true)
    (hsz : w.heap.size ≤ w'.heap.size) (hos : w'.os = w.os) (ht : w'.tape = w.tape) (hout : w'.output = w.output)
    (hframe : ∀ b, b < w.heap.size → v.ownBlock ≠ some b → w'.heap[b]? = w.heap[b]?)
    (cs : List Value) (hown : w'.ownsRow 0 row'.e row'.k.n v row'.xs.length cs) (hrd : RdEach w (okf (okOf o m) may row'.fr) row'.k row'.xs cs) :
    MemRel w' may o ⟨m.rows.set r (some row'), m.boxes⟩ ∧ Keep may w o m w' o ⟨m.rows.set r (some row'), m.boxes⟩ :=
  M.writeR r row row' v hr hv hrw hk (fun _ => hl) hrw' hsz hos ht hout (fun b hb h => hframe b hb fun e => h (by rw [← e, oblk_own (ownsRow.slice hown |> fun ⟨A, c, h⟩ => ⟨A, _, c, h⟩)])) (fun _ S => SlRel.of hrw' hown hrd S)
/-- A row's elements, written anew in its own block. -/
theorem MemRel.write (M : MemRel w may o m) (r : Nat) (row row' : Row) (v : Value) (hr : m.row? r = some row) (hv : o.rv[r]? = some v) (hrw : row.rw = true)
    (hk : row'.k = row.k) (hl : row'.xs.length = row.xs.length) (hrw' : row'.rw = true)
    (hsz : w'.heap.size = w.heap.size) (hos : w'.os = w.os) (ht : w'.tape = w.tape) (hout : w'.output = w.output)
    (hframe : ∀ b, b < w.heap.size → v.ownBlock ≠ some b → w'.heap[b]? = w.heap[b]?)
    (cs : List Value) (hown : w'.ownsRow 0 row'.e row'.k.n v row'.xs.length cs) (hrd : RdEach w (okf (okOf o m) may row'.fr) row'.k row'.xs cs) :
    MemRel w' may o ⟨m.rows.set r (some row'), m.boxes⟩ ∧ Keep may w o m w' o ⟨m.rows.set r (some row'), m.boxes⟩ :=
  M.writeG r row row' v hr hv hrw hk hl hrw' (Nat.le_of_eq hsz.symm) hos ht hout hframe cs hown hrd
/-- A new variable. -/
theorem MemRel.addBox (M : MemRel w may o m) (bx : Box) (vs : List Value) (hm : may w.heap.size) (h : F2 (LfRel w (okOf o m) may o) bx.ls vs) :
    MemRel (w.alloc (.cells vs.toArray bx.t)) may ⟨o.rv, o.bb ++ [some w.heap.size]⟩ ⟨m.rows, m.boxes ++ [some bx]⟩ ∧
    Keep may w o m (w.alloc (.cells vs.toArray bx.t)) ⟨o.rv, o.bb ++ [some w.heap.size]⟩ ⟨m.rows, m.boxes ++ [some bx]⟩ := by
  have hsz : (w.alloc (.cells vs.toArray bx.t)).heap.size = w.heap.size + 1 := by simp
  have hframe : ∀ b, b < w.heap.size → (w.alloc (.cells vs.toArray bx.t)).heap[b]? = w.heap[b]? := fun b hb => heap_alloc_old w _ b hb
  have hbox : ∀ i, (⟨m.rows, m.boxes ++ [some bx]⟩ : Mem).box? i = if i < m.boxes.length then m.box? i else if i = m.boxes.length then some bx else none := by
    intro i
    rw [box?_app]
    by_cases h : i < m.boxes.length
    · simp [h]
    · simp only [h, if_false]
      by_cases h2 : i = m.boxes.length
      · subst h2; simp
      · rw [if_neg h2]
        have : ([some bx] : List (Option Box))[i - m.boxes.length]? = none := List.getElem?_eq_none (by simp; omega)
        rw [this]; rfl
  have hbbl : ∀ (i : Nat) (v : Nat), o.bb[i]? = some (some v) → (o.bb ++ [some w.heap.size])[i]? = some (some v) := fun i v h => by
    rw [List.getElem?_append_left (List.getElem?_eq_some_iff.1 h).1]; exact h
  have hnew : (o.bb ++ [some w.heap.size])[m.boxes.length]? = some (some w.heap.size) := by rw [← M.blen]; simp
  have hsub : ∀ x b, blk ⟨o.rv, o.bb ++ [some w.heap.size]⟩ ⟨m.rows, m.boxes ++ [some bx]⟩ x = some b → (x = .box m.boxes.length ∧ b = w.heap.size) ∨ (blk o m x = some b) := by
    intro x b h
    cases x with
    | row i => exact .inr h
    | box i =>
      simp only [blk, hbox] at h
      by_cases h1 : i < m.boxes.length
      · simp only [h1, if_true] at h
        refine .inr ?_
        simp only [blk]
        cases e : m.box? i with
        | none => rw [e] at h; cases h
        | some bx' =>
          rw [e] at h
          simp only at h ⊢
          rwa [List.getElem?_append_left (by rw [M.blen]; exact h1)] at h
      · simp only [h1, if_false] at h
        by_cases h2 : i = m.boxes.length
        · subst h2
          simp only [if_true, hnew] at h
          exact .inl ⟨rfl, (Option.some.inj h).symm⟩
        · simp [h2] at h
  have hok : ∀ b, b < w.heap.size → okOf o m b → okOf ⟨o.rv, o.bb ++ [some w.heap.size]⟩ ⟨m.rows, m.boxes ++ [some bx]⟩ b := by
    intro b hb h x hx
    rcases hsub x b hx with ⟨_, h1⟩ | h1
    · omega
    · exact h _ h1
  have S : Stay w (okOf o m) (w.alloc (.cells vs.toArray bx.t)) (okOf ⟨o.rv, o.bb ++ [some w.heap.size]⟩ ⟨m.rows, m.boxes ++ [some bx]⟩) :=
    fun b hb h => ⟨hok b hb h, by omega, hframe b hb⟩
  refine ⟨⟨M.rlen, by simp [M.blen], fun i row e => ?_, fun i bx' e => ?_, fun x y b h1 k1 => ?_, fun x b h1 => ?_, fun i hi e => ?_⟩, ⟨S, fun _ _ h => h, hbbl, fun q row q1 e => ⟨row, e, rfl, fun _ => rfl⟩, Nat.le_refl _, by omega, fun b hb _ => hframe b hb, rfl, rfl, rfl⟩⟩
  · obtain ⟨v, hv, R⟩ := M.rows i row e
    refine ⟨v, hv, R.keep S fun hw b hb => hframe b ?_⟩
    exact (M.may_ (.row i) b (by rw [blk_row (m := m) e hv hw]; exact hb)).2
  · rw [hbox] at e
    by_cases h1 : i < m.boxes.length
    · simp only [h1, if_true] at e
      obtain ⟨g, hg, B⟩ := M.boxes i bx' e
      exact ⟨g, hbbl _ _ hg, B.keep S (fun _ _ h => h) (hframe g (M.may_ _ _ (blk_box e hg)).2)⟩
    · simp only [h1, if_false] at e
      by_cases h2 : i = m.boxes.length
      · subst h2
        simp only [if_true] at e
        obtain rfl := Option.some.inj e
        exact ⟨_, hnew, vs, heap_alloc_new w _, h.imp fun _ _ h => LfRel.keep S (fun _ _ h => h) h⟩
      · simp [h2] at e
  · rcases hsub x b h1 with ⟨h2, h3⟩ | h2 <;> rcases hsub y b k1 with ⟨k2, k3⟩ | k2
    · rw [h2, k2]
    · have := (M.may_ _ _ k2).2; omega
    · have := (M.may_ _ _ h2).2; omega
    · exact M.dis _ _ b h2 k2
  · rcases hsub x b h1 with ⟨h2, h3⟩ | h2
    · subst h3; exact ⟨hm, by omega⟩
    · have := M.may_ _ _ h2; exact ⟨this.1, by omega⟩
  · rw [hbox] at e
    by_cases h1 : i < m.boxes.length
    · rw [if_pos h1] at e
      rw [List.getElem?_append_left (by rw [M.blen]; exact h1)]
      exact M.free i h1 e
    · rw [if_neg h1] at e
      have : i = m.boxes.length := by simp at hi; omega
      rw [if_pos this] at e; cases e
/-- Places made ready, with nothing in them. -/
theorem MemRel.pad (M : MemRel w may o m) (n : Nat) :
    MemRel w may ⟨o.rv, o.bb ++ List.replicate n none⟩ ⟨m.rows, m.boxes ++ List.replicate n none⟩ ∧ Keep may w o m w ⟨o.rv, o.bb ++ List.replicate n none⟩ ⟨m.rows, m.boxes ++ List.replicate n none⟩ := by
  have hbox : ∀ i, (⟨m.rows, m.boxes ++ List.replicate n none⟩ : Mem).box? i = m.box? i := by
    intro i
    rw [box?_app]
    by_cases h : i < m.boxes.length
    · rw [if_pos h]
    · rw [if_neg h]
      have : m.box? i = none := by simp [Mem.box?, List.getElem?_eq_none (Nat.le_of_not_lt h)]
      rw [this, List.getElem?_replicate]
      split <;> rfl
  have hbbl : ∀ (i : Nat) (v : Nat), o.bb[i]? = some (some v) → (o.bb ++ List.replicate n none)[i]? = some (some v) := fun i v h => by
    rw [List.getElem?_append_left (List.getElem?_eq_some_iff.1 h).1]; exact h
  have heq : ∀ x, blk ⟨o.rv, o.bb ++ List.replicate n none⟩ ⟨m.rows, m.boxes ++ List.replicate n none⟩ x = blk o m x := by
    intro x
    cases x with
    | row i => rfl
    | box i =>
      simp only [blk, hbox]
      cases e : m.box? i with
      | none => rfl
      | some bx => simp only; rw [List.getElem?_append_left (by rw [M.blen]; exact box?_lt e)]
  have hok : okOf ⟨o.rv, o.bb ++ List.replicate n none⟩ ⟨m.rows, m.boxes ++ List.replicate n none⟩ = okOf o m := by
    funext b; simp only [okOf, heq]
  have S : Stay w (okOf o m) w (okOf ⟨o.rv, o.bb ++ List.replicate n none⟩ ⟨m.rows, m.boxes ++ List.replicate n none⟩) := fun b hb h => ⟨by rw [hok]; exact h, hb, rfl⟩
  refine ⟨⟨M.rlen, by simp [M.blen], fun i row e => ?_, fun i bx' e => ?_, fun x y b h k => M.dis x y b (by rwa [heq] at h) (by rwa [heq] at k), fun x b h => M.may_ x b (by rwa [heq] at h), fun i hi e => ?_⟩, ⟨S, fun _ _ h => h, hbbl, fun q row q1 e => ⟨row, e, rfl, fun _ => rfl⟩, Nat.le_refl _, Nat.le_refl _, fun _ _ _ => rfl, rfl, rfl, rfl⟩⟩
  · obtain ⟨v, hv, R⟩ := M.rows i row e
    exact ⟨v, hv, R.keep S fun hw b hb => rfl⟩
  · rw [hbox] at e
    obtain ⟨g, hg, B⟩ := M.boxes i bx' e
    exact ⟨g, hbbl _ _ hg, B.keep S (fun _ _ h => h) rfl⟩
  · rw [hbox] at e
    by_cases h1 : i < m.boxes.length
    · rw [List.getElem?_append_left (by rw [M.blen]; exact h1)]
      exact M.free i h1 e
    · rw [List.getElem?_append_right (by rw [M.blen]; omega), List.getElem?_replicate, M.blen, if_pos (by simp at hi; omega)]
/-- A variable made in a place that stood ready. -/
theorem MemRel.fillBox (M : MemRel w may o m) (b0 : Nat) (bx : Box) (vs : List Value) (hm : may w.heap.size) (h : F2 (LfRel w (okOf o m) may o) bx.ls vs) (hb : m.box? b0 = none) (hl : b0 < m.boxes.length) (hn : o.bb[b0]? = some none) :
    MemRel (w.alloc (.cells vs.toArray bx.t)) may ⟨o.rv, o.bb.set b0 (some w.heap.size)⟩ ⟨m.rows, m.boxes.set b0 (some bx)⟩ ∧
    Keep may w o m (w.alloc (.cells vs.toArray bx.t)) ⟨o.rv, o.bb.set b0 (some w.heap.size)⟩ ⟨m.rows, m.boxes.set b0 (some bx)⟩ := by
  have hsz : (w.alloc (.cells vs.toArray bx.t)).heap.size = w.heap.size + 1 := by simp
  have hframe : ∀ b, b < w.heap.size → (w.alloc (.cells vs.toArray bx.t)).heap[b]? = w.heap[b]? := fun b hb => heap_alloc_old w _ b hb
  have hbox : ∀ i, (⟨m.rows, m.boxes.set b0 (some bx)⟩ : Mem).box? i = if i = b0 then some bx else m.box? i := fun i => by
    rw [box?_set]; simp [hl]
  have hget : ∀ i, i ≠ b0 → (o.bb.set b0 (some w.heap.size))[i]? = o.bb[i]? := fun i hi => by rw [List.getElem?_set_ne (Ne.symm hi)]
  have hbbl : ∀ (i : Nat) (v : Nat), o.bb[i]? = some (some v) → (o.bb.set b0 (some w.heap.size))[i]? = some (some v) := fun i v h => by
    rw [hget i (fun e => by subst e; rw [hn] at h; cases h)]; exact h
  have hnew : (o.bb.set b0 (some w.heap.size))[b0]? = some (some w.heap.size) := by
    rw [List.getElem?_set_self]; rw [M.blen]; exact hl
  have hsub : ∀ x b, blk ⟨o.rv, o.bb.set b0 (some w.heap.size)⟩ ⟨m.rows, m.boxes.set b0 (some bx)⟩ x = some b → (x = .box b0 ∧ b = w.heap.size) ∨ (blk o m x = some b) := by
    intro x b h
    cases x with
    | row i => exact .inr h
    | box i =>
      simp only [blk, hbox] at h
      by_cases h1 : i = b0
      · subst h1
        simp only [if_true, hnew] at h
        exact .inl ⟨rfl, (Option.some.inj h).symm⟩
      · simp only [h1, if_false] at h
        refine .inr ?_
        simp only [blk]
        cases e : m.box? i with
        | none => rw [e] at h; cases h
        | some bx' => rw [e] at h; simp only [hget i h1] at h ⊢; exact h
  have hok : ∀ b, b < w.heap.size → okOf o m b → okOf ⟨o.rv, o.bb.set b0 (some w.heap.size)⟩ ⟨m.rows, m.boxes.set b0 (some bx)⟩ b := by
    intro b hb h x hx
    rcases hsub x b hx with ⟨_, h1⟩ | h1
    · omega
    · exact h _ h1
  have S : Stay w (okOf o m) (w.alloc (.cells vs.toArray bx.t)) (okOf ⟨o.rv, o.bb.set b0 (some w.heap.size)⟩ ⟨m.rows, m.boxes.set b0 (some bx)⟩) :=
    fun b hb h => ⟨hok b hb h, by omega, hframe b hb⟩
  refine ⟨⟨M.rlen, by simp [M.blen], fun i row e => ?_, fun i bx' e => ?_, fun x y b h1 k1 => ?_, fun x b h1 => ?_, fun i hi e => ?_⟩, ⟨S, fun _ _ h => h, hbbl, fun q row q1 e => ⟨row, e, rfl, fun _ => rfl⟩, Nat.le_refl _, by omega, fun b hb _ => hframe b hb, rfl, rfl, rfl⟩⟩
  · obtain ⟨v, hv, R⟩ := M.rows i row e
    refine ⟨v, hv, R.keep S fun hw b hb => hframe b ?_⟩
    exact (M.may_ (.row i) b (by rw [blk_row (m := m) e hv hw]; exact hb)).2
  · rw [hbox] at e
    by_cases h1 : i = b0
    · subst h1
      rw [if_pos rfl] at e
      obtain rfl := Option.some.inj e
      exact ⟨_, hnew, vs, heap_alloc_new w _, h.imp fun _ _ h => LfRel.keep S (fun _ _ h => h) h⟩
    · rw [if_neg h1] at e
      obtain ⟨g, hg, B⟩ := M.boxes i bx' e
      exact ⟨g, hbbl _ _ hg, B.keep S (fun _ _ h => h) (hframe g (M.may_ _ _ (blk_box e hg)).2)⟩
  · rcases hsub x b h1 with ⟨h2, h3⟩ | h2 <;> rcases hsub y b k1 with ⟨k2, k3⟩ | k2
    · rw [h2, k2]
    · have := (M.may_ _ _ k2).2; omega
    · have := (M.may_ _ _ h2).2; omega
    · exact M.dis _ _ b h2 k2
  · rcases hsub x b h1 with ⟨h2, h3⟩ | h2
    · subst h3; exact ⟨hm, by omega⟩
    · have := M.may_ _ _ h2; exact ⟨this.1, by omega⟩
  · rw [hbox] at e
    by_cases h1 : i = b0
    · rw [if_pos h1] at e; cases e
    · rw [if_neg h1] at e
      rw [hget i h1]
      exact M.free i (by simpa using hi) e
/-- A variable, written anew. -/
theorem MemRel.writeBox (M : MemRel w may o m) (b : Nat) (bx bx' : Box) (g : Nat) (hb : m.box? b = some bx) (hg : o.bb[b]? = some (some g)) (ht' : bx'.t = bx.t)
    (hsz : w'.heap.size = w.heap.size) (hos : w'.os = w.os) (ht : w'.tape = w.tape) (hout : w'.output = w.output)
    (hframe : ∀ b, b < w.heap.size → b ≠ g → w'.heap[b]? = w.heap[b]?)
    (vs : List Value) (hcell : w'.heap[g]? = some (.cells vs.toArray bx'.t (0, 0))) (h : F2 (LfRel w (okOf o m) may o) bx'.ls vs) :
    MemRel w' may o ⟨m.rows, m.boxes.set b (some bx')⟩ ∧ Keep may w o m w' o ⟨m.rows, m.boxes.set b (some bx')⟩ := by
  have hlt := box?_lt hb
  have hbox : ∀ i, (⟨m.rows, m.boxes.set b (some bx')⟩ : Mem).box? i = if i = b then some bx' else m.box? i := fun i => by
    rw [box?_set]; simp [hlt]
  have hbr : blk o m (.box b) = some g := blk_box hb hg
  have heq : ∀ x, blk o ⟨m.rows, m.boxes.set b (some bx')⟩ x = blk o m x := by
    intro x
    cases x with
    | row i => rfl
    | box i =>
      by_cases h : i = b
      · subst h; rw [hbr]; exact blk_box (by rw [hbox, if_pos rfl]) hg
      · simp only [blk, hbox, if_neg h]
  have hok : ∀ c, okOf o m c → okOf o ⟨m.rows, m.boxes.set b (some bx')⟩ c := fun c h x => by rw [heq]; exact h x
  have S : Stay w (okOf o m) w' (okOf o ⟨m.rows, m.boxes.set b (some bx')⟩) := fun c hc h => ⟨hok c h, by omega, hframe c hc (fun e => h (.box b) (by rw [hbr, e]))⟩
  refine ⟨⟨M.rlen, by simpa using M.blen, fun i row1 e => ?_, fun i bx1 e => ?_, fun x y c h k => M.dis x y c (by rwa [heq] at h) (by rwa [heq] at k), fun x c h => by rw [heq] at h; rw [hsz]; exact M.may_ x c h, fun i hi e => ?_⟩,
    ⟨S, fun _ _ h => h, fun _ _ h => h, fun q row1 q1 e => ⟨row1, e, rfl, fun _ => rfl⟩, Nat.le_refl _, by omega, fun c hc hm => hframe c hc fun e => hm (by subst e; exact (M.may_ _ _ hbr).1), hos, ht, hout⟩⟩
  · obtain ⟨v, hv, R⟩ := M.rows i row1 e
    refine ⟨v, hv, R.keep S fun hw c hc => ?_⟩
    have hb1 : blk o m (.row i) = some c := by rw [blk_row (m := m) e hv hw]; exact hc
    exact hframe c (M.may_ _ _ hb1).2 fun e1 => (by subst e1; have := M.dis _ _ _ hb1 hbr; simp at this)
  · rw [hbox] at e
    by_cases h1 : i = b
    · subst h1
      rw [if_pos rfl] at e
      obtain rfl := Option.some.inj e
      exact ⟨g, hg, vs, hcell, h.imp fun _ _ h => LfRel.keep S (fun _ _ h => h) h⟩
    · rw [if_neg h1] at e
      obtain ⟨g1, hg1, B⟩ := M.boxes i bx1 e
      have hb1 : blk o m (.box i) = some g1 := blk_box e hg1
      exact ⟨g1, hg1, B.keep S (fun _ _ h => h) (hframe g1 (M.may_ _ _ hb1).2 fun e1 => h1 (by subst e1; have := M.dis _ _ _ hb1 hbr; simpa using this))⟩
  · rw [hbox] at e
    by_cases h1 : i = b
    · rw [if_pos h1] at e; cases e
    · rw [if_neg h1] at e
      exact M.free i (by simpa using hi) e
end
end Go.Fx
