/- A call that is lent a variable, or given rows: what the caller's memory is afterwards. -/
import Derived.Test.YtjhbcpnliiegoaaEvE
namespace Go.Fx
open Go Go.RowKit
set_option linter.unusedVariables false
set_option linter.unusedSimpArgs false
section
variable {P : Program} {T : Tab} {C : Cals} {w w' : World} {may : Nat → Prop} {ow : Ow} {m : Mem} {s : S} {a : Act}
theorem nd_inj : ∀ {l : List Nat} {i j x : Nat}, noDup l = true → l[i]? = some x → l[j]? = some x → i = j
  | [], i, j, x, h, hi, hj => by simp at hi
  | y :: r, i, j, x, h, hi, hj => by
    simp only [noDup, Bool.and_eq_true, Bool.not_eq_true', List.any_eq_false] at h
    have no : ∀ k, r[k]? = some y → False := fun k hk => h.1 y (List.mem_of_getElem? hk) (Nat.beq_refl y)
    cases i with
    | zero =>
      cases j with
      | zero => rfl
      | succ j => simp at hi hj; subst hi; exact (no _ hj).elim
    | succ i =>
      cases j with
      | zero => simp at hi hj; subst hj; exact (no _ hi).elim
      | succ j => simp at hi hj; rw [nd_inj h.2 hi hj]
theorem SlRel.re {ok ok' may may' : Nat → Prop} {row : Row} {v : Value} (hfr : row.fr = true) (H : ∀ b, ok b → may b → ok' b ∧ may' b) (h : SlRel w ok may row v) : RowRel w ok' may' row v := by
  have st : Stay w (okf ok may row.fr) w (okf ok' may' row.fr) := Stay.mono fun b _ hb => by
    rw [hfr] at hb ⊢
    obtain ⟨h1, h2⟩ := H b hb.1 (hb.2 rfl)
    exact ⟨h1, fun _ => h2⟩
  refine .inl ⟨h.1, ?_⟩
  have h2 := h.2
  cases hw : row.rw with
  | true =>
    rw [hw] at h2
    simp only [if_true] at h2 ⊢
    obtain ⟨cs, h3, h4⟩ := h2
    exact ⟨cs, h3, h4.keep st⟩
  | false =>
    rw [hw] at h2
    simp only [Bool.false_eq_true, if_false] at h2 ⊢
    exact Rd.keep st h2
/-- Rows and variables that are handed over, alone. -/
theorem assemble {may' : Nat → Prop} (M : MemRel w may ow m) (hm1 : ∀ b, okOf ow m b → may b → may' b) {rows : List (Option Row)} {rv : List Value} {ids : List (Option Nat)} (h : Made w may ow m rows rv ids) (hfr : ∀ (i : Nat) (row : Row), (⟨rows, []⟩ : Mem).row? i = some row → row.fr = true) (hd : noDup (ids.filterMap id) = true)
    {boxes : List Box} {bb bids : List Nat} (hbd : noDup bids = true) (hl1 : bb.length = boxes.length)
    (hb : ∀ (i : Nat) (bx : Box), boxes[i]? = some bx → ∃ g b vs, bb[i]? = some g ∧ bids[i]? = some b ∧ blk ow m (.box b) = some g ∧ w.heap[g]? = some (.cells vs.toArray bx.t (0, 0)) ∧
      ∀ ok' : Nat → Prop, (∀ b, okOf ow m b → ok' b) → F2 (LfRel w ok' may' ⟨rv, bb.map some⟩) bx.ls vs)
    (hm2 : ∀ b, ((∃ r, r ∈ ids.filterMap id ∧ blk ow m (.row r) = some b) ∨ ∃ q, q ∈ bids ∧ blk ow m (.box q) = some b) → may' b) :
    MemRel w may' ⟨rv, bb.map some⟩ ⟨rows, boxes.map some⟩ ∧ (∀ b, okOf ow m b → okOf ⟨rv, bb.map some⟩ ⟨rows, boxes.map some⟩ b) ∧
      ∀ x b, blk ⟨rv, bb.map some⟩ ⟨rows, boxes.map some⟩ x = some b → (∃ r, r ∈ ids.filterMap id ∧ blk ow m (.row r) = some b) ∨ ∃ q, q ∈ bids ∧ blk ow m (.box q) = some b := by
  have hbox : ∀ i b', (⟨rows, boxes.map some⟩ : Mem).box? i = some b' → boxes[i]? = some b' := by
    intro i b' e
    cases hq : boxes[i]? <;> simp [Mem.box?, hq] at e ⊢; exact e
  have hsub : ∀ x b, blk ⟨rv, bb.map some⟩ ⟨rows, boxes.map some⟩ x = some b →
      (∃ i r, x = .row i ∧ ids[i]? = some (some r) ∧ blk ow m (.row r) = some b) ∨ (∃ i q, x = .box i ∧ bids[i]? = some q ∧ blk ow m (.box q) = some b) := by
    intro x b hx
    cases x with
    | row i =>
      unfold blk at hx
      simp only at hx
      split at hx
      · rename_i row hr
        obtain ⟨v, h1, h2, h3⟩ := h.row i row hr
        split at hx
        · rw [h1] at hx
          obtain ⟨r, h4, h5⟩ := h3 b hx
          exact .inl ⟨i, r, rfl, h4, h5⟩
        · cases hx
      · cases hx
    | box i =>
      unfold blk at hx
      simp only at hx
      split at hx
      · rename_i b' hb'
        obtain ⟨g, q, vs, h1, h2, h3, _⟩ := hb i b' (hbox i b' hb')
        simp [h1] at hx
        subst hx
        exact .inr ⟨i, q, rfl, h2, h3⟩
      · cases hx
  have hok : ∀ b, okOf ow m b → okOf ⟨rv, bb.map some⟩ ⟨rows, boxes.map some⟩ b := by
    intro b hb x hx
    rcases hsub x b hx with ⟨i, r, _, _, h1⟩ | ⟨i, r, _, _, h1⟩
    · exact hb _ h1
    · exact hb _ h1
  refine ⟨⟨h.len, by simp [hl1], fun i row e => ?_, fun i b' e => ?_, fun x y b h1 k1 => ?_, fun x b h1 => ?_, fun i hi e => ?_⟩, hok, fun x b hx => ?_⟩
  · obtain ⟨v, h1, h2, _⟩ := h.row i row e
    exact ⟨v, h1, h2.re (hfr i row e) fun b k1 k2 => ⟨hok b k1, hm1 b k1 k2⟩⟩
  · obtain ⟨g, q, vs, h1, h2, h3, h4, h5⟩ := hb i b' (hbox i b' e)
    exact ⟨g, by simp [h1], vs, h4, h5 _ hok⟩
  · rcases hsub x b h1 with ⟨i, r, rfl, h2, h3⟩ | ⟨i, r, rfl, h2, h3⟩ <;> rcases hsub y b k1 with ⟨j, q, rfl, k2, k3⟩ | ⟨j, q, rfl, k2, k3⟩
    · have := M.dis _ _ b h3 k3
      injection this with this
      subst this
      rw [ids_inj hd h2 k2]
    · cases M.dis _ _ b h3 k3
    · cases M.dis _ _ b h3 k3
    · have := M.dis _ _ b h3 k3
      injection this with this
      subst this
      rw [nd_inj hbd h2 k2]
  · rcases hsub x b h1 with ⟨i, r, rfl, h2, h3⟩ | ⟨i, r, rfl, h2, h3⟩
    · exact ⟨hm2 b (.inl ⟨r, List.mem_filterMap.2 ⟨some r, List.mem_of_getElem? h2, rfl⟩, h3⟩), (M.may_ _ _ h3).2⟩
    · exact ⟨hm2 b (.inr ⟨r, List.mem_of_getElem? h2, h3⟩), (M.may_ _ _ h3).2⟩
  · simp at hi
    simp [Mem.box?, hi] at e
  · rcases hsub x b hx with ⟨i, r, _, h2, h3⟩ | ⟨i, q, _, h2, h3⟩
    · exact .inl ⟨r, List.mem_filterMap.2 ⟨some r, List.mem_of_getElem? h2, rfl⟩, h3⟩
    · exact .inr ⟨q, List.mem_of_getElem? h2, h3⟩
theorem dropRows_row (rs : List Nat) : ∀ (m : Mem) (i : Nat), (dropRows m rs).row? i = if i ∈ rs then none else m.row? i := by
  have key : ∀ (rs : List Nat) (l : List (Option Row)) (i : Nat), ((rs.foldl (fun l r => l.set r none) l)[i]?).bind id = if i ∈ rs then none else (l[i]?).bind id := by
    intro rs
    induction rs with
    | nil => intro l i; simp
    | cons r rs ih =>
      intro l i
      rw [List.foldl_cons, ih]
      by_cases h1 : i ∈ rs
      · simp [h1]
      · simp only [h1, if_false, List.mem_cons, or_false]
        by_cases h2 : i = r
        · subst h2
          simp only [if_true]
          rw [List.getElem?_set]
          split
          · split <;> rfl
          · rename_i h; exact absurd rfl h
        · rw [List.getElem?_set_ne (fun e => h2 e.symm)]
          simp [h2]
  intro m i
  exact key rs m.rows i
theorem dropRows_len (rs : List Nat) : ∀ (m : Mem), (dropRows m rs).rows.length = m.rows.length := by
  have key : ∀ (rs : List Nat) (l : List (Option Row)), (rs.foldl (fun l r => l.set r none) l).length = l.length := by
    intro rs
    induction rs with
    | nil => intro l; rfl
    | cons r rs ih => intro l; rw [List.foldl_cons, ih]; simp
  exact fun m => key rs m.rows
/-- What is given away or lent. -/
def Gone (rs : List Nat) (bo : Option Nat) : Th → Prop
  | .row r => r ∈ rs
  | .box b => bo = some b
def setBo (bs : List (Option Box)) (bxN : Box) : Option Nat → List (Option Box)
  | some b => bs.set b (some bxN)
  | none => bs
theorem setBo_len (bs : List (Option Box)) (bxN : Box) (bo : Option Nat) : (setBo bs bxN bo).length = bs.length := by cases bo <;> simp [setBo]
/-- Memory that a call gives back. -/
theorem rejoin {may' : Nat → Prop} {rs : List Nat} {bo : Option Nat} {ext : Mem} {ow1 : Ow} {bxN : Box} {nb : List Box} {nbb : List Nat} {sh : Nat}
    (M : MemRel w may ow m) (M1 : MemRel w' may' ow1 ext) (hmay : ∀ b, may' b → may b) (hmay2 : ∀ b x, may' b → b < w.heap.size → blk ow m x = some b → Gone rs bo x)
    (hst : ∀ b, b < w.heap.size → (∀ x, blk ow m x = some b → ¬ Gone rs bo x) → okOf ow1 ext b ∧ w'.heap[b]? = w.heap[b]?)
    (hsz : w.heap.size ≤ w'.heap.size) (hos : w'.os = w.os) (htp : w'.tape = w.tape) (hout : w'.output = w.output)
    (hrow : ∀ i row, ext.row? i = some row → row.fr = true)
    (hnl : nbb.length = nb.length)
    (hbo : ∀ b, bo = some b → 0 < sh ∧ ∃ g vs, ow.bb[b]? = some (some g) ∧ blk ow m (.box b) = some g ∧ blk ow1 ext (.box 0) = some g ∧ w'.heap[g]? = some (.cells vs.toArray bxN.t (0, 0)) ∧
      ∀ ok' : Nat → Prop, (∀ b, okOf ow1 ext b ∧ (may' b ∨ (b < w.heap.size ∧ okOf ow m b)) → ok' b) → F2 (LfRel w' ok' may ⟨ow.rv ++ ow1.rv, ow.bb ++ nbb.map some⟩) bxN.ls vs)
    (hnb : ∀ i bx, nb[i]? = some bx → ∃ g vs, nbb[i]? = some g ∧ blk ow1 ext (.box (sh + i)) = some g ∧ w'.heap[g]? = some (.cells vs.toArray bx.t (0, 0)) ∧
      ∀ ok' : Nat → Prop, (∀ b, okOf ow1 ext b ∧ (may' b ∨ (b < w.heap.size ∧ okOf ow m b)) → ok' b) → F2 (LfRel w' ok' may ⟨ow.rv ++ ow1.rv, ow.bb ++ nbb.map some⟩) bx.ls vs) :
    MemRel w' may ⟨ow.rv ++ ow1.rv, ow.bb ++ nbb.map some⟩ ⟨(dropRows m rs).rows ++ ext.rows, setBo m.boxes bxN bo ++ nb.map some⟩ ∧
    Keep may w ow m w' ⟨ow.rv ++ ow1.rv, ow.bb ++ nbb.map some⟩ ⟨(dropRows m rs).rows ++ ext.rows, setBo m.boxes bxN bo ++ nb.map some⟩ ∧
    ∀ b, okOf ow1 ext b → (may' b ∨ (b < w.heap.size ∧ okOf ow m b)) → okOf ⟨ow.rv ++ ow1.rv, ow.bb ++ nbb.map some⟩ ⟨(dropRows m rs).rows ++ ext.rows, setBo m.boxes bxN bo ++ nb.map some⟩ b := by
  have hdl : (dropRows m rs).rows.length = m.rows.length := dropRows_len rs m
  generalize hm' : (⟨(dropRows m rs).rows ++ ext.rows, setBo m.boxes bxN bo ++ nb.map some⟩ : Mem) = m'
  generalize how' : (⟨ow.rv ++ ow1.rv, ow.bb ++ nbb.map some⟩ : Ow) = ow' at hbo hnb ⊢
  have hr1 : ∀ i, i < m.rows.length → m'.row? i = if i ∈ rs then none else m.row? i := by
    intro i hi
    rw [← hm', show (⟨(dropRows m rs).rows ++ ext.rows, setBo m.boxes bxN bo ++ nb.map some⟩ : Mem).row? i = (⟨(dropRows m rs).rows ++ ext.rows, m.boxes⟩ : Mem).row? i from rfl]
    have := row?_app (m := dropRows m rs) ext.rows i m.boxes
    rw [this, if_pos (by rw [hdl]; exact hi), dropRows_row]
  have hr2 : ∀ i, m.rows.length ≤ i → m'.row? i = ext.row? (i - m.rows.length) := by
    intro i hi
    rw [← hm', show (⟨(dropRows m rs).rows ++ ext.rows, setBo m.boxes bxN bo ++ nb.map some⟩ : Mem).row? i = (⟨(dropRows m rs).rows ++ ext.rows, m.boxes⟩ : Mem).row? i from rfl]
    have := row?_app (m := dropRows m rs) ext.rows i m.boxes
    rw [this, if_neg (by rw [hdl]; omega), hdl]
    rfl
  have hb1 : ∀ i, i < m.boxes.length → m'.box? i = if bo = some i then some bxN else m.box? i := by
    intro i hi
    rw [← hm']
    show ((setBo m.boxes bxN bo ++ nb.map some)[i]?).bind id = _
    rw [List.getElem?_append_left (by rw [setBo_len]; exact hi)]
    cases bo with
    | none => simp [setBo]; rfl
    | some b =>
      simp only [setBo, List.getElem?_set, Option.some.injEq]
      by_cases e : b = i
      · subst e; simp [hi]
      · simp [e]; rfl
  have hb2 : ∀ i, m.boxes.length ≤ i → m'.box? i = nb[i - m.boxes.length]? := by
    intro i hi
    rw [← hm']
    show ((setBo m.boxes bxN bo ++ nb.map some)[i]?).bind id = _
    rw [List.getElem?_append_right (by rw [setBo_len]; exact hi), setBo_len]
    cases h : nb[i - m.boxes.length]? <;> simp [h]
  have hrv1 : ∀ i, i < m.rows.length → ow'.rv[i]? = ow.rv[i]? := fun i hi => by
    rw [← how']; exact List.getElem?_append_left (by rw [M.rlen]; exact hi)
  have hrv2 : ∀ i, m.rows.length ≤ i → ow'.rv[i]? = ow1.rv[i - m.rows.length]? := fun i hi => by
    rw [← how', ← M.rlen]; exact List.getElem?_append_right (by rw [M.rlen]; exact hi)
  have hbb1 : ∀ i, i < m.boxes.length → ow'.bb[i]? = ow.bb[i]? := fun i hi => by
    rw [← how']; exact List.getElem?_append_left (by rw [M.blen]; exact hi)
  have hbb2 : ∀ i, m.boxes.length ≤ i → ow'.bb[i]? = (nbb.map some)[i - m.boxes.length]? := fun i hi => by
    rw [← how', ← M.blen]; exact List.getElem?_append_right (by rw [M.blen]; exact hi)
  -- whose is a block
  have hsub : ∀ x b, blk ow' m' x = some b → (blk ow m x = some b ∧ ¬ Gone rs bo x) ∨
      ∃ y, blk ow1 ext y = some b ∧ ((∃ i, x = .row (m.rows.length + i) ∧ y = .row i) ∨ (∃ i, x = .box (m.boxes.length + i) ∧ y = .box (sh + i)) ∨ (∃ q, bo = some q ∧ x = .box q ∧ y = .box 0 ∧ 0 < sh)) := by
    intro x b h
    cases x with
    | row i =>
      rcases Nat.lt_or_ge i m.rows.length with h1 | h1
      · left
        unfold blk at h
        simp only [hr1 i h1, hrv1 i h1] at h
        by_cases h2 : i ∈ rs
        · simp [h2] at h
        · simp only [h2, if_false] at h
          exact ⟨h, h2⟩
      · right
        obtain ⟨j, rfl⟩ : ∃ j, i = m.rows.length + j := ⟨i - m.rows.length, by omega⟩
        unfold blk at h
        simp only [hr2 _ h1, hrv2 _ h1, Nat.add_sub_cancel_left] at h
        exact ⟨.row j, h, .inl ⟨j, rfl, rfl⟩⟩
    | box i =>
      rcases Nat.lt_or_ge i m.boxes.length with h1 | h1
      · by_cases h2 : bo = some i
        · obtain ⟨hs, g, vs, h3, h4, h5, _⟩ := hbo i h2
          unfold blk at h
          simp only [hb1 i h1, h2, if_true, hbb1 i h1, h3] at h
          obtain rfl : g = b := by simpa using h
          exact .inr ⟨.box 0, h5, .inr (.inr ⟨i, h2, rfl, rfl, hs⟩)⟩
        · unfold blk at h
          simp only [hb1 i h1, h2, if_false, hbb1 i h1] at h
          exact .inl ⟨h, h2⟩
      · obtain ⟨j, rfl⟩ : ∃ j, i = m.boxes.length + j := ⟨i - m.boxes.length, by omega⟩
        unfold blk at h
        simp only [hb2 _ h1, hbb2 _ h1, Nat.add_sub_cancel_left] at h
        split at h
        · rename_i bx hbx
          obtain ⟨g, vs, h3, h4, _⟩ := hnb j bx hbx
          obtain rfl : g = b := by simpa [h3] using h
          exact .inr ⟨.box (sh + j), h4, .inr (.inl ⟨j, rfl, rfl⟩)⟩
        · cases h
  have hokN : ∀ b, okOf ow1 ext b → (may' b ∨ (b < w.heap.size ∧ okOf ow m b)) → okOf ow' m' b := by
    intro b h1 h2 x hx
    rcases hsub x b hx with ⟨h3, h4⟩ | ⟨y, h3, _⟩
    · rcases h2 with h2 | ⟨_, h2⟩
      · exact h4 (hmay2 b x h2 (M.may_ _ _ h3).2 h3)
      · exact h2 _ h3
    · exact h1 _ h3
  have hokO : ∀ b, b < w.heap.size → okOf ow m b → okOf ow' m' b := fun b hb h => hokN b (hst b hb fun x hx => absurd hx (h x)).1 (.inr ⟨hb, h⟩)
  have S : Stay w (okOf ow m) w' (okOf ow' m') := fun b hlt h => ⟨hokO b hlt h, Nat.lt_of_lt_of_le hlt hsz, (hst b hlt fun x hx => absurd hx (h x)).2⟩
  have hrvk : ∀ (i : Nat) (v : Value), ow.rv[i]? = some v → ow'.rv[i]? = some v := fun i v h => by rw [hrv1 i (by rw [← M.rlen]; exact (List.getElem?_eq_some_iff.1 h).1)]; exact h
  have hbbk : ∀ (i : Nat) (v : Nat), ow.bb[i]? = some (some v) → ow'.bb[i]? = some (some v) := fun i v h => by rw [hbb1 i (by rw [← M.blen]; exact (List.getElem?_eq_some_iff.1 h).1)]; exact h
  refine ⟨⟨?_, ?_, fun i row e => ?_, fun i bx e => ?_, fun x y b h k => ?_, fun x b h => ?_, fun i hi e => ?_⟩, ⟨S, hrvk, hbbk, fun q row' q1 e => ?_, ?_, hsz, fun b hlt hn => (hst b hlt fun x hx => absurd (M.may_ _ _ hx).1 hn).2, hos, htp, hout⟩, hokN⟩
  · rw [← how', ← hm']; simp [M.rlen, M1.rlen, hdl]
  · rw [← how', ← hm']; simp [M.blen, setBo_len, hnl]
  · rcases Nat.lt_or_ge i m.rows.length with h1 | h1
    · rw [hr1 i h1] at e
      by_cases h2 : i ∈ rs
      · simp [h2] at e
      · simp only [h2, if_false] at e
        obtain ⟨v, hv, RR⟩ := M.rows i row e
        refine ⟨v, by rw [hrv1 i h1]; exact hv, RR.keep S fun hw b hb' => ?_⟩
        have hbl : blk ow m (.row i) = some b := by rw [blk_row e hv hw]; exact hb'
        refine (hst b (M.may_ _ _ hbl).2 fun x hx hg => ?_).2
        obtain rfl := M.dis _ _ b hbl hx
        exact h2 hg
    · rw [hr2 i h1] at e
      obtain ⟨v, hv, RR⟩ := M1.rows _ row e
      refine ⟨v, by rw [hrv2 i h1]; exact hv, ?_⟩
      have hfr := hrow _ row e
      have st : Stay w' (okf (okOf ow1 ext) may' row.fr) w' (okf (okOf ow' m') may row.fr) := Stay.mono fun b _ hb' => by
        rw [hfr] at hb' ⊢
        exact ⟨hokN b hb'.1 (.inl (hb'.2 rfl)), fun _ => hmay b (hb'.2 rfl)⟩
      rcases RR with ⟨hs, RR⟩ | ⟨g, xs, e1, e2, RR⟩
      case inr =>
        refine .inr ⟨g, xs, e1, e2, ?_⟩
        cases hw : row.rw with
        | true =>
          rw [hw] at RR
          simp only [if_true] at RR ⊢
          exact RR
        | false =>
          rw [hw] at RR
          simp only [Bool.false_eq_true, if_false] at RR ⊢
          exact RR.keep st
      refine .inl ⟨hs, ?_⟩
      cases hw : row.rw with
      | true =>
        rw [hw] at RR
        simp only [if_true] at RR ⊢
        obtain ⟨cs, hown, hrd⟩ := RR
        exact ⟨cs, hown, hrd.keep st⟩
      | false =>
        rw [hw] at RR
        simp only [Bool.false_eq_true, if_false] at RR ⊢
        exact Rd.keep st RR
  · rcases Nat.lt_or_ge i m.boxes.length with h1 | h1
    · rw [hb1 i h1] at e
      by_cases h2 : bo = some i
      · simp only [h2, if_true] at e
        obtain rfl := Option.some.inj e
        obtain ⟨_, g, vs, h3, h4, h5, h6, h7⟩ := hbo i h2
        exact ⟨g, by rw [hbb1 i h1]; exact h3, vs, h6, h7 _ fun b hb => hokN b hb.1 hb.2⟩
      · simp only [h2, if_false] at e
        obtain ⟨g, hg, B⟩ := M.boxes i bx e
        refine ⟨g, hbbk _ _ hg, B.keep S hrvk ?_⟩
        have hbl : blk ow m (.box i) = some g := blk_box e hg
        refine (hst g (M.may_ _ _ hbl).2 fun x hx hgx => ?_).2
        obtain rfl := M.dis _ _ g hbl hx
        exact h2 hgx
    · rw [hb2 i h1] at e
      obtain ⟨g, vs, h3, h4, h5, h6⟩ := hnb _ bx e
      exact ⟨g, by rw [hbb2 i h1]; simp [h3], vs, h5, h6 _ fun b hb => hokN b hb.1 hb.2⟩
  · rcases hsub x b h with ⟨h1, h2⟩ | ⟨x1, h1, h2⟩ <;> rcases hsub y b k with ⟨k1, k2⟩ | ⟨y1, k1, k2⟩
    · exact M.dis x y b h1 k1
    · exact absurd (hmay2 b x (M1.may_ _ _ k1).1 (M.may_ _ _ h1).2 h1) h2
    · exact absurd (hmay2 b y (M1.may_ _ _ h1).1 (M.may_ _ _ k1).2 k1) k2
    · have := M1.dis _ _ b h1 k1
      subst this
      rcases h2 with ⟨i, rfl, e1⟩ | ⟨i, rfl, e1⟩ | ⟨i, hi, rfl, e1, hs⟩ <;> rcases k2 with ⟨j, rfl, e2⟩ | ⟨j, rfl, e2⟩ | ⟨j, hj, rfl, e2, hs'⟩ <;> subst e1 <;> simp only [Th.row.injEq, Th.box.injEq, reduceCtorEq] at e2
      · rw [e2]
      · rw [show i = j by omega]
      · omega
      · omega
      · rw [hi] at hj; injection hj with hj; rw [hj]
  · rcases hsub x b h with ⟨h1, _⟩ | ⟨x1, h1, _⟩
    · have := M.may_ _ _ h1; exact ⟨this.1, Nat.lt_of_lt_of_le this.2 hsz⟩
    · have := M1.may_ _ _ h1; exact ⟨hmay b this.1, this.2⟩
  · rcases Nat.lt_or_ge i m.boxes.length with h1 | h1
    · rw [hb1 i h1] at e
      by_cases h2 : bo = some i
      · simp [h2] at e
      · simp only [h2, if_false] at e
        rw [hbb1 i h1]; exact M.free i h1 e
    · rw [hb2 i h1] at e
      rw [← hm'] at hi
      simp [setBo_len] at hi
      have : i - m.boxes.length < nb.length := by omega
      rw [List.getElem?_eq_getElem this] at e
      cases e
  · rw [hr1 q q1] at e
    by_cases h2 : q ∈ rs
    · simp [h2] at e
    · simp only [h2, if_false] at e
      exact ⟨row', e, rfl, fun _ => rfl⟩
  · rw [← hm']; simp [hdl]
def UpL : Leaf → Prop
  | .val fr _ _ => fr = true
  | _ => True
theorem split_up_all : ∀ (k : K) (x : k.T), ∀ l ∈ splitK true k x, UpL l := by
  intro k
  induction k with
  | prod a b iha ihb =>
    intro x l hl
    rcases List.mem_append.1 hl with h | h
    · exact iha _ _ h
    · exact ihb _ _ h
  | unit => intro x l hl; simp [splitK] at hl
  | _ => intro x l hl; simp [splitK] at hl; subst hl; exact rfl
theorem thawL_up : ∀ (ls : List Leaf) (n : Nat), (∀ l ∈ ls, UpL l) → ∀ l ∈ (thawL n ls).1, UpL l
  | [], n, h, l, hl => by simp [thawL] at hl
  | l0 :: ls, n, h, l, hl => by
    have ih := fun n => thawL_up ls n fun l hl => h l (List.mem_cons_of_mem _ hl)
    have h0 := h l0 (by simp)
    match l0, h0 with
    | .val fr (.sl e k) xs, h0 =>
      simp only [thawL, List.mem_cons] at hl
      rcases hl with rfl | hl
      · trivial
      · exact ih _ l hl
    | .val fr (.int q) xs, h0 => simp only [thawL, List.mem_cons] at hl; rcases hl with rfl | hl; exact h0; exact ih _ l hl
    | .val fr .bool xs, h0 => simp only [thawL, List.mem_cons] at hl; rcases hl with rfl | hl; exact h0; exact ih _ l hl
    | .val fr .hd xs, h0 => simp only [thawL, List.mem_cons] at hl; rcases hl with rfl | hl; exact h0; exact ih _ l hl
    | .val fr .raw xs, h0 => simp only [thawL, List.mem_cons] at hl; rcases hl with rfl | hl; exact h0; exact ih _ l hl
    | .val fr (.fnc g) xs, h0 => simp only [thawL, List.mem_cons] at hl; rcases hl with rfl | hl; exact h0; exact ih _ l hl
    | .val fr .mp xs, h0 => simp only [thawL, List.mem_cons] at hl; rcases hl with rfl | hl; exact h0; exact ih _ l hl
    | .val fr (.rp k) xs, h0 => simp only [thawL, List.mem_cons] at hl; rcases hl with rfl | hl; exact h0; exact ih _ l hl
    | .val fr (.clo g k) xs, h0 => simp only [thawL, List.mem_cons] at hl; rcases hl with rfl | hl; exact h0; exact ih _ l hl
    | .val fr .str xs, h0 => simp only [thawL, List.mem_cons] at hl; rcases hl with rfl | hl; exact h0; exact ih _ l hl
    | .val fr .unit xs, h0 => simp only [thawL, List.mem_cons] at hl; rcases hl with rfl | hl; exact h0; exact ih _ l hl
    | .val fr (.prod a b) xs, h0 => simp only [thawL, List.mem_cons] at hl; rcases hl with rfl | hl; exact h0; exact ih _ l hl
    | .nil, h0 => simp only [thawL, List.mem_cons] at hl; rcases hl with rfl | hl; trivial; exact ih _ l hl
    | .own q, h0 => simp only [thawL, List.mem_cons] at hl; rcases hl with rfl | hl; trivial; exact ih _ l hl
theorem rcvL_up : ∀ (rcv : Option Rcv) (d : rcvT rcv), ∀ l ∈ rcvL rcv d, UpL l
  | none, d, l, h => by simp [rcvL] at h
  | some r, d, l, h => split_up_all _ _ l h
theorem newL_up : ∀ (nw : Option New) (d : newT nw), ∀ l ∈ newL nw d, UpL l
  | none, d, l, h => by simp [newL] at h
  | some r, none, l, h => by simp [newL] at h
  | some r, some d, l, h => split_up_all _ _ l h
theorem rcvL_shift (d : Nat) : ∀ (rcv : Option Rcv) (x : rcvT rcv) (n : Nat), thawL (n + d) (rcvL rcv x) = ((thawL n (rcvL rcv x)).1.map (shL true d), (thawL n (rcvL rcv x)).2)
  | none, x, n => rfl
  | some r, x, n => thawL_shift true d r.k x n trivial
theorem newL_shift (d : Nat) : ∀ (nw : Option New) (x : newT nw) (n : Nat), thawL (n + d) (newL nw x) = ((thawL n (newL nw x)).1.map (shL true d), (thawL n (newL nw x)).2)
  | none, x, n => rfl
  | some r, none, n => rfl
  | some r, some x, n => thawL_shift true d r.k x n trivial
theorem LfRel.shiftT {ok ok' may may' : Nat → Prop} {ow' : Ow} {rv : List Value} {bb : List (Option Nat)} (H : ∀ b, ok b → may' b → ok' b ∧ may b) : ∀ {l : Leaf} {v : Value}, UpL l → LfRel w ok may' ow' l v → LfRel w ok' may ⟨rv ++ ow'.rv, bb⟩ (shL true rv.length l) v
  | .val f k x, v, hu, h => by
    obtain rfl : f = true := hu
    exact Rd.mono (fun b hb => ⟨(H b hb.1 (hb.2 rfl)).1, fun _ => (H b hb.1 (hb.2 rfl)).2⟩) (h : Rd _ _ _ _ _)
  | .nil, v, _, h => h
  | .own q, v, _, h => ⟨by
      show (rv ++ ow'.rv)[q + rv.length]? = some v
      rw [List.getElem?_append_right (by omega), Nat.add_sub_cancel]; exact h.1, h.2⟩
theorem LfsRel.shiftT {ok ok' may may' : Nat → Prop} {ow' : Ow} {rv : List Value} {bb : List (Option Nat)} (H : ∀ b, ok b → may' b → ok' b ∧ may b) {ls : List Leaf} {vs : List Value} (hu : ∀ l ∈ ls, UpL l) (h : F2 (LfRel w ok may' ow') ls vs) : F2 (LfRel w ok' may ⟨rv ++ ow'.rv, bb⟩) (ls.map (shL true rv.length)) vs :=
  F2.map_left.2 (h.imp_mem fun l v hl h => LfRel.shiftT H (hu l hl) h)
theorem thaw_base (own : Bool) {rs : List (Bool × K)} {y : argT rs} {n : Nat} {q : List Cmp × List (Option Row)} (h : thaw own true n rs y = some q) : ∃ q0, thaw own false 0 rs y = some q0 ∧ q = (q0.1.map (shC true n), q0.2) := by
  have := thaw_shift own true n rs y 0
  rw [Nat.zero_add, h] at this
  obtain ⟨q0, h1, h2⟩ := Option.map_eq_some_iff.1 this.symm
  exact ⟨q0, h1, h2.symm⟩
theorem shL_shL (a b : Nat) (l : Leaf) : shL true b (shL true a l) = shL true (a + b) l := by
  cases l with
  | val f k x => simp [shL]
  | nil => rfl
  | own r => simp [shL, Nat.add_assoc]
theorem shC_shC (a b : Nat) (c : Cmp) : shC true b (shC true a c) = shC true (a + b) c := by
  cases c with
  | lf l => simp [shC, shL_shL]
  | agg ls => simp only [shC, List.map_map]; congr 1; exact List.map_congr_left fun l _ => shL_shL a b l
theorem thaw_more (own : Bool) {rs : List (Bool × K)} {y : argT rs} {n d : Nat} {q : List Cmp × List (Option Row)} (h : thaw own true n rs y = some q) : thaw own true (n + d) rs y = some (q.1.map (shC true d), q.2) := by
  obtain ⟨q0, h1, rfl⟩ := thaw_base own h
  have := thaw_shift own true (n + d) rs y 0
  rw [Nat.zero_add, h1] at this
  rw [this]
  simp only [Option.map_some, List.map_map]
  congr 2
  exact List.map_congr_left fun c _ => (shC_shC n d c).symm
def UpC : Cmp → Prop
  | .lf l => UpL l
  | .agg ls => ∀ l ∈ ls, UpL l
theorem shC_up (n : Nat) (c : Cmp) : UpC (shC true n c) := by
  have one : ∀ l, UpL (shL true n l) := fun l => by cases l <;> simp [shL, UpL]
  cases c with
  | lf l => exact one l
  | agg ls => intro l hl; obtain ⟨l', _, rfl⟩ := List.mem_map.1 hl; exact one l'
theorem thaw_up (own : Bool) {rs : List (Bool × K)} {y : argT rs} {n : Nat} {q : List Cmp × List (Option Row)} (h : thaw own true n rs y = some q) : ∀ c ∈ q.1, UpC c := by
  obtain ⟨q0, h1, rfl⟩ := thaw_base own h
  intro c hc
  obtain ⟨c', _, rfl⟩ := List.mem_map.1 hc
  exact shC_up n c'
theorem CmpRel.shiftT {ok ok' may may' : Nat → Prop} {ow' : Ow} {rv : List Value} {bb : List (Option Nat)} (H : ∀ b, ok b → may' b → ok' b ∧ may b) : ∀ {c : Cmp} {v : Value}, UpC c → CmpRel w ok may' ow' c v → CmpRel w ok' may ⟨rv ++ ow'.rv, bb⟩ (shC true rv.length c) v
  | .lf l, v, hu, h => LfRel.shiftT H hu h
  | .agg ls, v, hu, ⟨vs, e, h⟩ => ⟨vs, e, LfsRel.shiftT H hu h⟩
theorem thaw_rdT {may' : Nat → Prop} {okR ok : Nat → Prop} (H : ∀ b, okR b → okf ok may' true b) : ∀ {rs : List (Bool × K)} {y : argT rs} {us : List Value} {n : Nat}, RdArgs w okR rs y us → ∃ cs', thaw false true n rs y = some (cs', []) ∧ F2 (CmpRel w ok may' ow) cs' us
  | [], y, us, n, h => ⟨[], rfl, by obtain rfl := h; trivial⟩
  | p :: rs, y, us, n, ⟨v, vr, e, hv, hr⟩ => by
    subst e
    obtain ⟨cs', h1, h2⟩ := thaw_rdT (n := n) H hr
    unfold RdV at hv
    cases hp : p.1 with
    | true =>
      rw [hp] at hv
      simp only [if_true] at hv
      obtain ⟨es, rfl, hv⟩ := hv
      refine ⟨.agg (splitK true p.2 y.1) :: cs', by simp [thaw, hp, mkC, h1], ⟨es, rfl, split_rel (Rd.mono H hv)⟩, h2⟩
    | false =>
      rw [hp] at hv
      simp only [Bool.false_eq_true, if_false] at hv
      have h3 := split_rel (fr := true) (may := may') (ow := ow) (ok := ok) (Rd.mono H hv)
      have hl := h3.len
      match hq : splitK true p.2 y.1, hl with
      | [l], _ =>
        rw [hq] at h3
        exact ⟨.lf l :: cs', by simp [thaw, hp, mkC, h1, hq], h3.1, h2⟩
theorem raws_rel {ok : Nat → Prop} {G : Gh} {i : Nat} : ∀ {n : Nat} {us : List Value}, us.length = n → (∀ (j : Nat) (u : Value), us[j]? = some u → G.v (i + j) = u ∧ u.oneCell' = true) → F2 (LfRel w ok may ow) (raws G i n) us := by
  intro n us hl h
  have key : ∀ (us : List Value) (j0 : Nat), (∀ (j : Nat) (u : Value), us[j]? = some u → G.v (i + (j0 + j)) = u ∧ u.oneCell' = true) → F2 (LfRel w ok may ow) ((List.range' j0 us.length).map fun j => .val true .raw (G.v (i + j))) us := by
    intro us
    induction us with
    | nil => intro j0 _; trivial
    | cons u us ih =>
      intro j0 h
      rw [List.length_cons, List.range'_succ, List.map_cons]
      have h0 := h 0 u rfl
      refine ⟨⟨?_, by rw [Nat.add_zero] at h0; rw [h0.1]; exact h0.2⟩, ih (j0 + 1) fun j u' hu => ?_⟩
      · rw [Nat.add_zero] at h0; exact congrArg (fun z => [z]) h0.1.symm
      · have := h (j + 1) u' (by simpa using hu)
        rw [show j0 + (j + 1) = j0 + 1 + j by omega] at this
        exact this
  subst hl
  have := key us 0 fun j u hu => by rw [Nat.zero_add]; exact h j u hu
  rw [← List.range_eq_range'] at this
  exact this
theorem raws_val {ok : Nat → Prop} {G : Gh} {i n : Nat} {us : List Value} (h : F2 (LfRel w ok may ow) (raws G i n) us) : us = (List.range n).map fun j => G.v (i + j) := by
  have key : ∀ (l : List Nat) (us : List Value), F2 (LfRel w ok may ow) (l.map fun j => .val true .raw (G.v (i + j))) us → us = l.map fun j => G.v (i + j) := by
    intro l
    induction l with
    | nil => intro us h; exact h.nil_left
    | cons j l ih =>
      intro us h
      match us, h with
      | u :: us, h =>
        rw [List.map_cons, ← ih us h.2]
        obtain ⟨h1, _⟩ := (h.1 : Rd _ _ _ _ _)
        have h2 : u = G.v (i + j) := by injection h1
        rw [h2]
  exact key _ _ h
theorem numFrom_mem {R : Cmp → Value → Prop} : ∀ {cs : List Cmp} {us : List Value} {i : Nat} {q : Nat × SV}, F2 R cs us → q ∈ numFrom i cs → ∃ c v, us[q.1 - i]? = some v ∧ i ≤ q.1 ∧ q.2 = .one c ∧ R c v
  | [], us, i, q, h, hq => by simp [numFrom] at hq
  | c :: cs, [], i, q, h, hq => h.elim
  | c :: cs, u :: us, i, q, h, hq => by
    rcases List.mem_cons.1 hq with rfl | hq
    · exact ⟨c, u, by simp, Nat.le_refl _, rfl, h.1⟩
    · obtain ⟨c', v, h1, h2, h3, h4⟩ := numFrom_mem h.2 hq
      refine ⟨c', v, ?_, by omega, h3, h4⟩
      rw [show q.1 - i = (q.1 - (i + 1)) + 1 by omega]
      simpa using h1
theorem numFrom_len : ∀ (cs : List Cmp) (i : Nat), (numFrom i cs).length = cs.length
  | [], i => rfl
  | c :: cs, i => by simp [numFrom, numFrom_len cs]
/-- The arguments, given or not. -/
theorem args_piece (M : MemRel w may ow m) {pown : Bool} {ps : List (Bool × K)} {cs : List Cmp} {us : List Value} {x : argT ps} (n : Nat) (hagg : aggOk ps cs = true) (hF : F2 (CmpRel w (okOf ow m) may ow) cs us) (hx : packArgs m ps cs = some x)
    (ho : pown = true → (allLeaves cs).all (ownLf m) = true) (hv : pown = false → (∀ l ∈ allLeaves cs, Froz m l) ∧ (allLeaves cs).all (leafFr m) = true) :
    ∃ cs' rows rv ids, thaw pown true n ps x = some (cs', rows) ∧ Made w may ow m rows rv ids ∧ ids.filterMap id = (bif pown then ownIds (allLeaves cs) else []) ∧
      ∀ (ok' may' : Nat → Prop) (o' : Ow), (∀ b, okOf ow m b → may b → ok' b ∧ may' b) → RvAt n rv o'.rv → F2 (CmpRel w ok' may' o') cs' us := by
  cases pown with
  | true =>
    obtain ⟨cs', rows, rv, ids, h1, h2, h3, h4⟩ := thaw_own M n (ho rfl) hagg hF hx
    have hfr : ∀ (rs : List (Bool × K)) (y : argT rs) (n : Nat), thaw true true n rs y = thaw true false n rs y := by
      intro rs
      induction rs with
      | nil => intro y n; rfl
      | cons p rs ih => intro y n; simp only [thaw, ih, if_true]
    exact ⟨cs', rows, rv, ids, by rw [hfr]; exact h1, h2, h3, fun ok' may' o' _ hr => h4 ok' may' o' hr⟩
  | false =>
    obtain ⟨hz, hfr⟩ := hv rfl
    have hrd := packArgs_rel M hz hF hx hagg true fun _ => hfr
    obtain ⟨cs', h1, _⟩ := thaw_rdT (ow := ow) (may' := may) (ok := okOf ow m) (n := n) (fun b hb => hb) hrd
    refine ⟨cs', [], [], [], h1, Made.nil, rfl, fun ok' may' o' H _ => ?_⟩
    obtain ⟨cs2, h2, h3⟩ := thaw_rdT (ow := o') (may' := may') (ok := ok') (n := n) (fun b hb => ⟨(H b hb.1 (hb.2 rfl)).1, fun _ => (H b hb.1 (hb.2 rfl)).2⟩) hrd
    rw [h1] at h2
    obtain ⟨rfl, _⟩ := Prod.mk.inj (Option.some.inj h2)
    exact h3
theorem made_fr {rows rows' : List (Option Row)} (h : ∀ (i : Nat) (row : Row), (⟨rows, []⟩ : Mem).row? i = some row → row.fr = true) (h' : ∀ (i : Nat) (row : Row), (⟨rows', []⟩ : Mem).row? i = some row → row.fr = true) :
    ∀ (i : Nat) (row : Row), (⟨rows ++ rows', []⟩ : Mem).row? i = some row → row.fr = true := by
  intro i row e
  simp only [Mem.row?] at e
  by_cases hi : i < rows.length
  · rw [List.getElem?_append_left hi] at e
    exact h i row e
  · rw [List.getElem?_append_right (by omega)] at e
    exact h' _ row e
theorem xres_rel {w' : World} {ok ok' may may' : Nat → Prop} {m' : Mem} {ow' : Ow} {rv : List Value} {bb : List (Option Nat)} {mm : Mem} {h h' : Option Hd} {cs : List Cmp} {v : Value} (H : ∀ b, ok b → may' b → ok' b ∧ may b) (hu : ∀ c ∈ cs, UpC c)
    (hh : match h, h' with | none, none => True | some z, some z' => ∀ u, HdRel ow' z u → HdRel ⟨rv ++ ow'.rv, bb⟩ z' u | _, _ => False)
    (hs : SVRel w' ok may' ow' mm (xres h cs) v) : SVRel w' ok' may ⟨rv ++ ow'.rv, bb⟩ m' (xres h' (cs.map (shC true rv.length))) v := by
  have many : ∀ (us : List Value), F2 (CmpRel w' ok may' ow') cs us → F2 (CmpRel w' ok' may ⟨rv ++ ow'.rv, bb⟩) (cs.map (shC true rv.length)) us := fun us hF => F2.map_left.2 (hF.imp_mem fun c v hc h => CmpRel.shiftT H (hu c hc) h)
  cases h with
  | none =>
    cases h' with
    | some => exact hh.elim
    | none =>
      match cs, hs, hu, many with
      | [], hs, _, _ => obtain ⟨vs, e, h⟩ := hs; exact ⟨vs, e, by obtain rfl := h.nil_left; trivial⟩
      | [c], hs, hu, _ => exact CmpRel.shiftT H (hu c (by simp)) hs
      | c :: d :: cs, hs, hu, many => obtain ⟨vs, e, h⟩ := hs; exact ⟨vs, e, many vs h⟩
  | some z =>
    cases h' with
    | none => exact hh.elim
    | some z' =>
      match cs, hs, hu, many with
      | [], hs, _, _ =>
        have h1 : HdRel ow' z v := by
          cases z with
          | nilp => exact hs
          | box b => obtain ⟨g, h1, h2⟩ := hs; exact ⟨g, h1, by rw [h2, Addr.add_zero_off]⟩
        have h2 := hh v h1
        cases z' with
        | nilp => exact h2
        | box b => obtain ⟨g, h1, h3⟩ := h2; exact ⟨g, h1, by rw [h3, Addr.add_zero_off]⟩
      | c :: cs, hs, hu, many =>
        obtain ⟨u, vs, e, h1, h2⟩ := hs
        exact ⟨u, vs, e, hh u h1, many vs h2⟩
end
end Go.Fx
