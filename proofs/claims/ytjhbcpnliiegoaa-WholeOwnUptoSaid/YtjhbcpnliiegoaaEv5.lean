/- The operations on memory: addresses, loads, stores, what is made. -/
import Derived.Test.YtjhbcpnliiegoaaEv4
namespace Go.Fx
open Go Go.RowKit
set_option linter.unusedVariables false
set_option linter.unusedSimpArgs false
section
variable {w : World} {ok may : Nat → Prop} {ow : Ow} {m : Mem}
theorem split_rel : ∀ {fr : Bool} {k : K} {x : k.T} {es : List Value}, Rd w (okf ok may fr) k x es → F2 (LfRel w ok may ow) (splitK fr k x) es
  | fr, .int q, x, es, h => by simp only [Rd] at h; subst h; exact ⟨rfl, trivial⟩
  | fr, .bool, x, es, h => by simp only [Rd] at h; subst h; exact ⟨rfl, trivial⟩
  | fr, .str, x, es, h => by simp only [Rd] at h; subst h; exact ⟨rfl, trivial⟩
  | fr, .unit, x, es, h => by simp only [Rd] at h; subst h; trivial
  | fr, .raw, x, es, h => by obtain ⟨rfl, h⟩ := h; exact ⟨⟨rfl, h⟩, trivial⟩
  | fr, .hd, x, es, h => by obtain ⟨rfl, h⟩ := h; exact ⟨⟨rfl, h⟩, trivial⟩
  | fr, .fnc g, x, es, h => by simp only [Rd] at h; subst h; exact ⟨rfl, trivial⟩
  | fr, .mp, x, es, h => by obtain ⟨u, rfl, h⟩ := h; exact ⟨⟨u, rfl, h⟩, trivial⟩
  | fr, .rp k, y, es, h => by obtain ⟨u, rfl, h⟩ := h; exact ⟨⟨u, rfl, h⟩, trivial⟩
  | fr, .clo g k, y, es, h => by obtain ⟨u, rfl, h⟩ := h; exact ⟨⟨u, rfl, h⟩, trivial⟩
  | fr, .sl e k, x, es, h => by
    obtain ⟨A, c, rfl, hx⟩ := h
    exact ⟨⟨A, c, rfl, hx⟩, trivial⟩
  | fr, .prod a b, x, es, h => by
    obtain ⟨c1, c2, rfl, h1, h2⟩ := h
    exact (split_rel h1).append (split_rel h2)
theorem split_len : ∀ (fr : Bool) (k : K) (x : k.T), (splitK fr k x).length = k.n
  | _, .int _, _ | _, .bool, _ | _, .str, _ | _, .unit, _ | _, .sl _ _, _ | _, .raw, _ | _, .hd, _ | _, .fnc _, _ | _, .mp, _ | _, .rp _, _ | _, .clo _ _, _ => rfl
  | fr, .prod a b, x => by simp [splitK, K.n, split_len fr a, split_len fr b]
theorem split_no_own : ∀ (fr : Bool) (k : K) (x : k.T) (r : Nat), Leaf.own r ∉ splitK fr k x
  | _, .int _, _, _ | _, .bool, _, _ | _, .str, _, _ | _, .unit, _, _ | _, .sl _ _, _, _ | _, .raw, _, _ | _, .hd, _, _ | _, .fnc _, _, _ | _, .mp, _, _ | _, .rp _, _, _ | _, .clo _ _, _, _ => by simp [splitK]
  | fr, .prod a b, x, r => by simp [splitK, split_no_own fr a, split_no_own fr b]
theorem split_fr {m : Mem} : ∀ (k : K) (x : k.T) (l : Leaf), l ∈ splitK true k x → leafFr m l = true
  | .int _, _, l, h | .bool, _, l, h | .str, _, l, h | .unit, _, l, h | .sl _ _, _, l, h | .raw, _, l, h | .hd, _, l, h | .fnc _, _, l, h | .mp, _, l, h | .rp _, _, l, h | .clo _ _, _, l, h => by simp [splitK] at h; try (subst h; rfl)
  | .prod a b, x, l, h => by
    simp only [splitK, List.mem_append] at h
    rcases h with h | h
    · exact split_fr a _ l h
    · exact split_fr b _ l h
/-- No own leaf that may be written. -/
def Froz (m : Mem) (l : Leaf) : Prop := ∀ r, l = .own r → ∀ row, m.row? r = some row → row.rw = false
theorem cast_some {a b : K} {x : a.T} {y : b.T} (h : K.cast a b x = some y) : ∃ e : a = b, e ▸ x = y := by
  unfold K.cast at h
  split at h
  · rename_i e; exact ⟨e, Option.some.inj h⟩
  · cases h
theorem Rd.up {f g : Bool} {k : K} {x : k.T} {es : List Value} (h : Rd w (okf ok may f) k x es) (e : g = true → f = true) : Rd w (okf ok may g) k x es :=
  Rd.mono (fun b h => ⟨h.1, fun z => h.2 (e z)⟩) h
theorem leafData_rel (M : MemRel w may ow m) {l : Leaf} {k : K} {x : k.T} {v : Value} (hf : Froz m l) (h : LfRel w (okOf ow m) may ow l v) (e : leafData m k l = some x) :
    Rd w (okf (okOf ow m) may (leafFr m l)) k x [v] := by
  cases l with
  | val fr k' y =>
    simp only [leafData] at e
    obtain ⟨rfl, rfl⟩ := cast_some e
    simp only [leafFr]
    cases fr with
    | true => exact h
    | false =>
      cases hk : k'.flat with
      | false => exact h
      | true => exact Rd.flat hk h
  | nil =>
    obtain rfl : v = .slice none 0 0 := h
    cases k <;> simp only [leafData] at e <;> try (cases e; done)
    case hd => obtain rfl := Option.some.inj e; exact ⟨rfl, _, _, _, rfl⟩
    obtain rfl := Option.some.inj e
    exact ⟨none, 0, rfl, Nat.le_refl _, fun i x hi => by simp at hi⟩
  | own r =>
    simp only [leafData] at e
    cases hr : m.row? r with
    | none => simp [hr] at e
    | some row =>
      simp only [hr] at e
      obtain ⟨e1, e2⟩ := cast_some e
      subst e1
      simp only at e2
      subst e2
      obtain ⟨u, hu, R⟩ := M.sl r row hr h.1 h.2
      obtain rfl : v = u := Option.some.inj (h.1.symm.trans hu)
      have := R.2
      rw [hf r rfl row hr] at this
      simpa only [Bool.false_eq_true, if_false, leafFr, hr] using this
theorem packK_rel (M : MemRel w may ow m) : ∀ {k : K} {ls : List Leaf} {x : k.T} {es : List Value}, (∀ l ∈ ls, Froz m l) → F2 (LfRel w (okOf ow m) may ow) ls es → packK m k ls = some x →
    Rd w (okf (okOf ow m) may (ls.all (leafFr m))) k x es
  | .prod a b, ls, x, es, hf, h, e => by
    simp only [packK] at e
    cases h1 : packK m a (ls.take a.n) with
    | none => simp [h1] at e
    | some y =>
      cases h2 : packK m b (ls.drop a.n) with
      | none => simp [h1, h2] at e
      | some z =>
        simp only [h1, h2] at e
        obtain rfl := Option.some.inj e
        have r1 := packK_rel M (fun l hl => hf l (List.mem_of_mem_take hl)) (h.take a.n) h1
        have r2 := packK_rel M (fun l hl => hf l (List.mem_of_mem_drop hl)) (h.drop a.n) h2
        refine ⟨es.take a.n, es.drop a.n, by simp, r1.up fun g => ?_, r2.up fun g => ?_⟩
        · exact List.all_eq_true.2 fun l hl => List.all_eq_true.1 g l (List.mem_of_mem_take hl)
        · exact List.all_eq_true.2 fun l hl => List.all_eq_true.1 g l (List.mem_of_mem_drop hl)
  | .unit, ls, x, es, hf, h, e => by
    cases ls with
    | nil => exact h.nil_left
    | cons => simp [packK] at e
  | .int q, ls, x, es, hf, h, e => by
    match ls, es, h with
    | [], _, _ => simp [packK] at e
    | [l], [v], h => simpa using leafData_rel M (hf l (by simp)) h.1 e
    | _ :: _ :: _, _, _ => simp [packK] at e
  | .bool, ls, x, es, hf, h, e => by
    match ls, es, h with
    | [], _, _ => simp [packK] at e
    | [l], [v], h => simpa using leafData_rel M (hf l (by simp)) h.1 e
    | _ :: _ :: _, _, _ => simp [packK] at e
  | .str, ls, x, es, hf, h, e => by
    match ls, es, h with
    | [], _, _ => simp [packK] at e
    | [l], [v], h => simpa using leafData_rel M (hf l (by simp)) h.1 e
    | _ :: _ :: _, _, _ => simp [packK] at e
  | .raw, ls, x, es, hf, h, e => by
    match ls, es, h with
    | [], _, _ => simp [packK] at e
    | [l], [v], h => simpa using leafData_rel M (hf l (by simp)) h.1 e
    | _ :: _ :: _, _, _ => simp [packK] at e
  | .hd, ls, x, es, hf, h, e => by
    match ls, es, h with
    | [], _, _ => simp [packK] at e
    | [l], [v], h => simpa using leafData_rel M (hf l (by simp)) h.1 e
    | _ :: _ :: _, _, _ => simp [packK] at e
  | .fnc _, ls, x, es, hf, h, e => by
    match ls, es, h with
    | [], _, _ => simp [packK] at e
    | [l], [v], h => simpa using leafData_rel M (hf l (by simp)) h.1 e
    | _ :: _ :: _, _, _ => simp [packK] at e
  | .mp, ls, x, es, hf, h, e => by
    match ls, es, h with
    | [], _, _ => simp [packK] at e
    | [l], [v], h => simpa using leafData_rel M (hf l (by simp)) h.1 e
    | _ :: _ :: _, _, _ => simp [packK] at e
  | .rp _, ls, x, es, hf, h, e => by
    match ls, es, h with
    | [], _, _ => simp [packK] at e
    | [l], [v], h => simpa using leafData_rel M (hf l (by simp)) h.1 e
    | _ :: _ :: _, _, _ => simp [packK] at e
  | .clo _ _, ls, x, es, hf, h, e => by
    match ls, es, h with
    | [], _, _ => simp [packK] at e
    | [l], [v], h => simpa using leafData_rel M (hf l (by simp)) h.1 e
    | _ :: _ :: _, _, _ => simp [packK] at e
  | .sl _ _, ls, x, es, hf, h, e => by
    match ls, es, h with
    | [], _, _ => simp [packK] at e
    | [l], [v], h => simpa using leafData_rel M (hf l (by simp)) h.1 e
    | _ :: _ :: _, _, _ => simp [packK] at e
/-- Data that a call may read: nothing is asked of where they lie. -/
theorem leafData_any (M : MemRel w may ow m) {ok2 may2 : Nat → Prop} {l : Leaf} {k : K} {x : k.T} {v : Value} (h : LfRel w ok2 may2 ow l v) (e : leafData m k l = some x) :
    Rd w (fun _ => True) k x [v] := by
  cases l with
  | val fr k' y =>
    simp only [leafData] at e
    obtain ⟨rfl, rfl⟩ := cast_some e
    exact Rd.mono (fun _ _ => trivial) (h : Rd _ _ _ _ _)
  | nil =>
    obtain rfl : v = .slice none 0 0 := h
    cases k <;> simp only [leafData] at e <;> try (cases e; done)
    case hd => obtain rfl := Option.some.inj e; exact ⟨rfl, _, _, _, rfl⟩
    obtain rfl := Option.some.inj e
    exact ⟨none, 0, rfl, Nat.le_refl _, fun i x hi => by simp at hi⟩
  | own r =>
    simp only [leafData] at e
    cases hr : m.row? r with
    | none => simp [hr] at e
    | some row =>
      simp only [hr] at e
      obtain ⟨e1, e2⟩ := cast_some e
      subst e1
      simp only at e2
      subst e2
      obtain ⟨u, hu, R⟩ := M.sl r row hr h.1 h.2
      obtain rfl : v = u := Option.some.inj (h.1.symm.trans hu)
      exact Rd.mono (fun _ _ => trivial) (R.read (ok' := fun _ => True) (fun _ _ => trivial) fun hrw b hb => ⟨trivial, (M.may_ (.row r) b (by rw [blk_row hr hu hrw]; exact hb)).1⟩)
theorem packK_gen {ok2 may2 Q : Nat → Prop} : ∀ {k : K} {ls : List Leaf} {x : k.T} {es : List Value}, (∀ l ∈ ls, ∀ (k : K) (x : k.T) (v : Value), LfRel w ok2 may2 ow l v → leafData m k l = some x → Rd w Q k x [v]) → F2 (LfRel w ok2 may2 ow) ls es → packK m k ls = some x → Rd w Q k x es
  | .prod a b, ls, x, es, H, h, e => by
    simp only [packK] at e
    cases h1 : packK m a (ls.take a.n) with
    | none => simp [h1] at e
    | some y =>
      cases h2 : packK m b (ls.drop a.n) with
      | none => simp [h1, h2] at e
      | some z =>
        simp only [h1, h2] at e
        obtain rfl := Option.some.inj e
        exact ⟨es.take a.n, es.drop a.n, by simp, packK_gen (fun l hl => H l (List.mem_of_mem_take hl)) (h.take a.n) h1, packK_gen (fun l hl => H l (List.mem_of_mem_drop hl)) (h.drop a.n) h2⟩
  | .unit, ls, x, es, H, h, e => by
    cases ls with
    | nil => exact h.nil_left
    | cons => simp [packK] at e
  | .int q, ls, x, es, H, h, e => by
    match ls, es, H, h with
    | [], _, _, _ => simp [packK] at e
    | [l], [v], H, h => exact H l List.mem_cons_self _ _ _ h.1 e
    | _ :: _ :: _, _, _, _ => simp [packK] at e
  | .bool, ls, x, es, H, h, e => by
    match ls, es, H, h with
    | [], _, _, _ => simp [packK] at e
    | [l], [v], H, h => exact H l List.mem_cons_self _ _ _ h.1 e
    | _ :: _ :: _, _, _, _ => simp [packK] at e
  | .str, ls, x, es, H, h, e => by
    match ls, es, H, h with
    | [], _, _, _ => simp [packK] at e
    | [l], [v], H, h => exact H l List.mem_cons_self _ _ _ h.1 e
    | _ :: _ :: _, _, _, _ => simp [packK] at e
  | .raw, ls, x, es, H, h, e => by
    match ls, es, H, h with
    | [], _, _, _ => simp [packK] at e
    | [l], [v], H, h => exact H l List.mem_cons_self _ _ _ h.1 e
    | _ :: _ :: _, _, _, _ => simp [packK] at e
  | .hd, ls, x, es, H, h, e => by
    match ls, es, H, h with
    | [], _, _, _ => simp [packK] at e
    | [l], [v], H, h => exact H l List.mem_cons_self _ _ _ h.1 e
    | _ :: _ :: _, _, _, _ => simp [packK] at e
  | .fnc _, ls, x, es, H, h, e => by
    match ls, es, H, h with
    | [], _, _, _ => simp [packK] at e
    | [l], [v], H, h => exact H l List.mem_cons_self _ _ _ h.1 e
    | _ :: _ :: _, _, _, _ => simp [packK] at e
  | .mp, ls, x, es, H, h, e => by
    match ls, es, H, h with
    | [], _, _, _ => simp [packK] at e
    | [l], [v], H, h => exact H l List.mem_cons_self _ _ _ h.1 e
    | _ :: _ :: _, _, _, _ => simp [packK] at e
  | .rp _, ls, x, es, H, h, e => by
    match ls, es, H, h with
    | [], _, _, _ => simp [packK] at e
    | [l], [v], H, h => exact H l List.mem_cons_self _ _ _ h.1 e
    | _ :: _ :: _, _, _, _ => simp [packK] at e
  | .clo _ _, ls, x, es, H, h, e => by
    match ls, es, H, h with
    | [], _, _, _ => simp [packK] at e
    | [l], [v], H, h => exact H l List.mem_cons_self _ _ _ h.1 e
    | _ :: _ :: _, _, _, _ => simp [packK] at e
  | .sl _ _, ls, x, es, H, h, e => by
    match ls, es, H, h with
    | [], _, _, _ => simp [packK] at e
    | [l], [v], H, h => exact H l List.mem_cons_self _ _ _ h.1 e
    | _ :: _ :: _, _, _, _ => simp [packK] at e
theorem packK_any (M : MemRel w may ow m) {ok2 may2 : Nat → Prop} {k : K} {ls : List Leaf} {x : k.T} {es : List Value} (h : F2 (LfRel w ok2 may2 ow) ls es) (e : packK m k ls = some x) : Rd w (fun _ => True) k x es :=
  packK_gen (fun l _ k x v h e => leafData_any M h e) h e
/-- What a leaf leads to lies off a row that is another's. -/
theorem leafData_off (M : MemRel w may ow m) {r : Nat} {l : Leaf} {k : K} {x : k.T} {v : Value} (hr : ∀ q, l = .own q → q ≠ r) (h : LfRel w (okOf ow m) may ow l v) (e : leafData m k l = some x) :
    Rd w (fun b => blk ow m (.row r) ≠ some b) k x [v] := by
  cases l with
  | val fr k' y =>
    simp only [leafData] at e
    obtain ⟨rfl, rfl⟩ := cast_some e
    exact Rd.mono (fun _ h => h.1 (.row r)) (h : Rd _ _ _ _ _)
  | nil =>
    obtain rfl : v = .slice none 0 0 := h
    cases k <;> simp only [leafData] at e <;> try (cases e; done)
    case hd => obtain rfl := Option.some.inj e; exact ⟨rfl, _, _, _, rfl⟩
    obtain rfl := Option.some.inj e
    exact ⟨none, 0, rfl, Nat.le_refl _, fun i x hi => by simp at hi⟩
  | own q =>
    simp only [leafData] at e
    cases hq : m.row? q with
    | none => simp [hq] at e
    | some row =>
      simp only [hq] at e
      obtain ⟨e1, e2⟩ := cast_some e
      subst e1
      simp only at e2
      subst e2
      obtain ⟨u, hu, R⟩ := M.sl q row hq h.1 h.2
      obtain rfl : v = u := Option.some.inj (h.1.symm.trans hu)
      refine Rd.mono (fun _ h => h.1) (R.read (ok' := fun b => blk ow m (.row r) ≠ some b) (fun _ h => h (.row r)) fun hrw b hb => ⟨fun hb2 => ?_, (M.may_ (.row q) b (by rw [blk_row hq hu hrw]; exact hb)).1⟩)
      have := M.dis (.row q) (.row r) b (by rw [blk_row hq hu hrw]; exact hb) hb2
      injection this with this
      exact hr q rfl this
theorem froz_mono {m m' : Mem} {l : Leaf} (H : ∀ r row', m'.row? r = some row' → ∃ row, m.row? r = some row ∧ (row'.rw = true → row.rw = true)) (h : Froz m l) : Froz m' l := by
  intro r e row' hr
  obtain ⟨row, h1, h2⟩ := H r row' hr
  have := h r e row h1
  cases hw : row'.rw with
  | false => rfl
  | true => rw [h2 hw] at this; cases this
theorem freeze_weak (m : Mem) (l : Leaf) : ∀ r row', (m.freeze l).row? r = some row' → ∃ row, m.row? r = some row ∧ (row'.rw = true → row.rw = true) := by
  intro r row' h
  cases l with
  | val => exact ⟨row', h, id⟩
  | nil => exact ⟨row', h, id⟩
  | own q =>
    rw [row?_freeze] at h
    by_cases e : r = q
    · subst e
      rw [if_pos rfl] at h
      obtain ⟨row, e1, rfl⟩ := Option.map_eq_some_iff.1 h
      exact ⟨row, e1, fun h => by cases h⟩
    · rw [if_neg e] at h; exact ⟨row', h, id⟩
theorem freezeAll_weak (ls : List Leaf) : ∀ (m : Mem) (r : Nat) (row' : Row), (m.freezeAll ls).row? r = some row' → ∃ row, m.row? r = some row ∧ (row'.rw = true → row.rw = true) := by
  induction ls with
  | nil => exact fun m r row' h => ⟨row', h, id⟩
  | cons l ls ih =>
    intro m r row' h
    obtain ⟨row1, h1, h2⟩ := ih (m.freeze l) r row' h
    obtain ⟨row, h3, h4⟩ := freeze_weak m l r row1 h1
    exact ⟨row, h3, h4 ∘ h2⟩
theorem freeze_froz (m : Mem) (l : Leaf) : Froz (m.freeze l) l := by
  intro r e row h
  subst e
  rw [row?_freeze, if_pos rfl] at h
  obtain ⟨row, _, rfl⟩ := Option.map_eq_some_iff.1 h
  rfl
theorem freezeAll_froz (ls : List Leaf) : ∀ (m : Mem), ∀ l ∈ ls, Froz (m.freezeAll ls) l := by
  induction ls with
  | nil => intro m l hl; cases hl
  | cons x ls ih =>
    intro m l hl
    rcases List.mem_cons.1 hl with rfl | hl
    · exact froz_mono (freezeAll_weak ls _) (freeze_froz m l)
    · exact ih (m.freeze x) l hl
theorem F2.putList {α β : Type} {R : α → β → Prop} {x new : List α} {y nv : List β} {o : Nat} (h : F2 R x y) (hn : F2 R new nv) :
    F2 R (Fx.putList x o new) (y.take o ++ nv ++ y.drop (o + nv.length)) := by
  unfold Fx.putList
  rw [hn.len]
  exact ((h.take o).append hn).append (h.drop _)
theorem Addr.add_zero_off (g n : Nat) : (⟨g, 0, none⟩ : Addr).add n = ⟨g, n, none⟩ := by unfold Addr.add; split <;> simp_all
end
theorem getD_some {α : Type} (xs : List α) (d : α) {i : Nat} (h : i < xs.length) : xs[i]? = some (xs.getD i d) := by
  simp [List.getD, List.getElem?_eq_getElem h]
def OpOk {R : Type} (P : Program) (may : Nat → Prop) (w : World) (ow : Ow) (m : Mem) (x : Sem Next) (c : SV → Mem → Option R) (r : R) : Prop :=
  ∃ sv m' v w' ow', c sv m' = some r ∧ (x.run P w = .ok (.value v) w' ∨ (x.run P w = .ok .skip w' ∧ v = undef)) ∧ MemRel w' may ow' m' ∧ Keep may w ow m w' ow' m' ∧ SVRel w' (okOf ow' m') may ow' m' sv v
section
variable {R : Type} {P : Program} {T : Tab} {w : World} {may : Nat → Prop} {ow : Ow} {m : Mem} {r : R}
theorem OpOk.quiet (M : MemRel w may ow m) {x : Sem Value} {c : SV → Mem → Option R} {sv : SV} {v : Value} (h : c sv m = some r) (hx : x.run P w = .ok v w) (hv : SVRel w (okOf ow m) may ow m sv v) :
    OpOk P may w ow m (do pure (.value (← x))) c r :=
  ⟨sv, m, v, w, ow, h, .inl (by simp [hx]), M, Keep.refl _ _ _ _, hv⟩
theorem OpOk.mono {m1 : Mem} (K : Keep may w ow m w ow m1) {x : Sem Next} {c : SV → Mem → Option R} (h : OpOk P may w ow m1 x c r) : OpOk P may w ow m x c r := by
  obtain ⟨sv, m', v, w', ow', h1, h2, h3, h4, h5⟩ := h
  exact ⟨sv, m', v, w', ow', h1, h2, h3, K.trans h4, h5⟩
/-- A new row, made somehow. -/
theorem OpOk.newRow (M : MemRel w may ow m) (hm : ∀ b, w.heap.size ≤ b → may b) {x : Sem Value} {c : SV → Mem → Option R} {row : Row} (h : newRow m row c = some r) {v : Value} {w' : World} (hx : x.run P w = .ok v w')
    (hb : Below w.heap.size w w') (hrw : row.rw = true) {cs : List Value} (hown : w'.ownsRow 0 row.e row.k.n v row.xs.length cs) (hrd : RdEach w (okf (okOf ow m) may row.fr) row.k row.xs cs)
    (hblk : ∀ b, v.ownBlock = some b → w.heap.size ≤ b) : OpOk P may w ow m (do pure (.value (← x))) c r := by
  obtain ⟨M', K'⟩ := M.add (w' := w') row v hb.size hb.os hb.tape hb.output hb.block hrw cs hown hrd fun b e => ⟨hm b (hblk b e), (World.ownsRow.lt hown b e).2, hblk b e⟩
  obtain ⟨A, q, rfl⟩ := ownsRow.slice hown
  refine ⟨_, _, .slice A row.xs.length q, w', _, h, .inl (by simp [hx]), M', K', ?_⟩
  refine ⟨?_, _, _, _, rfl⟩
  show (ow.rv ++ [_])[m.rows.length]? = _
  rw [← M.rlen]; simp
theorem idxAddr_ok (TK : TabOk P T) (M : MemRel w may ow m) {t : TypeId} {n : Nat} {x : Leaf} {u : Value} {i : Int} {ki : IntKind} {c : SV → Mem → Option R} (hn : elemN T t = some n) (hx : LfRel w (okOf ow m) may ow x u)
    (h : idxAddr m n x i (fun v => c v m) = some r) : OpOk P may w ow m (do pure (.value (← Instr.indexAt t u (.int ki i)))) c r := by
  unfold elemN at hn
  split at hn
  case h_2 => cases hn
  rename_i e e' k' ag by' hT
  obtain rfl := Option.some.inj hn
  obtain ⟨hu, ei, hei, hk', _⟩ := (TK _ _ hT).desc
  injection hk' with h1 h2
  subst h1 h2
  have hsz := fun w => (TK _ _ hei).size (w := w)
  have run : ∀ (A : Option Addr) (len cap : Nat) (ad : Addr), A = some ad → 0 ≤ i → i < len → (Instr.indexAt t (.slice A len cap) (.int ki i)).run P w = .ok (.pointer (some (ad.add (i.toNat * ei.k.n)))) w := by
    intro A len cap ad hA h0 h1
    subst hA
    simp [Instr.indexAt, asIntOf, run_underlying hu, h0, h1, hsz]
  cases x with
  | nil => simp [idxAddr] at h
  | val fr k xs =>
    cases k <;> simp only [idxAddr] at h <;> try (cases h; done)
    rename_i e2 k
    obtain ⟨hk, h⟩ := cond_none h
    have hk := Nat.eq_of_beq_eq_true hk
    obtain ⟨hi, h⟩ := cond_none h
    simp only [Bool.and_eq_true, decide_eq_true_eq] at hi
    obtain ⟨A, cp, hu', hc, hel⟩ := (hx : Rd _ _ _ _ _)
    obtain rfl : u = .slice A (List.length (α := k.T) xs) cp := by simpa using hu'
    obtain ⟨ad, es, rfl, hl, ho, hr, hcell⟩ := hel i.toNat _ (getD_some (α := k.T) xs k.d (by omega))
    refine OpOk.quiet M h (run _ _ _ ad rfl hi.1 hi.2) ?_
    refine ⟨_, es, rfl, split_rel hr, fun j v hv => ?_⟩
    have := hcell j v hv
    rw [Addr.add_add', Addr.add_block]
    rw [hk]
    exact ⟨ho.1, this⟩
  | own q =>
    simp only [idxAddr] at h
    cases hr : m.row? q with
    | none => simp [hr] at h
    | some row =>
      simp only [hr] at h
      obtain ⟨hk, h⟩ := cond_none h
      have hk := Nat.eq_of_beq_eq_true hk
      obtain ⟨hi, h⟩ := cond_none h
      simp only [Bool.and_eq_true, decide_eq_true_eq] at hi
      obtain ⟨v, hv, RR⟩ := M.sl q row hr hx.1 hx.2
      obtain rfl : u = v := Option.some.inj (hx.1.symm.trans hv)
      have hget : row.xs[i.toNat]? = some (row.xs.getD i.toNat row.k.d) := getD_some _ _ (by omega)
      cases hw : row.rw with
      | true =>
        rw [hw] at h
        obtain ⟨_, R2⟩ := RR
        rw [hw] at R2
        simp only [if_true] at R2
        obtain ⟨cs, hown, _⟩ := R2
        obtain ⟨g, cap, rfl, _⟩ := World.ownsRow.form hown (by omega)
        refine OpOk.quiet M h (run _ _ _ _ rfl hi.1 hi.2) ?_
        refine ⟨row?_lt hr, fun row' hr' => ?_⟩
        rw [hr] at hr'
        obtain rfl := Option.some.inj hr'
        exact ⟨by omega, g, _, _, hv, by rw [hk]; rfl⟩
      | false =>
        rw [hw] at h
        obtain ⟨_, R2⟩ := RR
        rw [hw] at R2
        simp only [Bool.false_eq_true, if_false] at R2
        obtain ⟨A, cp, hu', hc, hel⟩ := R2
        obtain rfl : u = .slice A row.xs.length cp := by simpa using hu'
        obtain ⟨ad, es, rfl, hl, ho, hrr, hcell⟩ := hel i.toNat _ hget
        refine OpOk.quiet M h (run _ _ _ ad rfl hi.1 hi.2) ?_
        refine ⟨_, es, rfl, split_rel hrr, fun j v hv => ?_⟩
        have := hcell j v hv
        rw [Addr.add_add', Addr.add_block, hk]
        exact ⟨ho.1, this⟩
theorem part?_rel {x : SV} {q o len : Nat} (h : x.part? = some (q, o, len)) : ∃ g, x = .sub q o len g := by
  cases x <;> simp [SV.part?] at h
  obtain ⟨rfl, rfl, rfl⟩ := h
  exact ⟨_, rfl⟩
theorem idxHsl_ok (TK : TabOk P T) (M : MemRel w may ow m) {t : TypeId} {n : Nat} {x : SV} {u : Value} {i : Int} {ki : IntKind} {c : SV → Mem → Option R} (hn : elemN T t = some n) (hx : SVRel w (okOf ow m) may ow m x u)
    (h : idxHsl n x i (fun v => c v m) = some r) : OpOk P may w ow m (do pure (.value (← Instr.indexAt t u (.int ki i)))) c r := by
  unfold elemN at hn
  split at hn
  case h_2 => cases hn
  rename_i e e' k' ag by' hT
  obtain rfl := Option.some.inj hn
  obtain ⟨hu, ei, hei, hk', _⟩ := (TK _ _ hT).desc
  injection hk' with h1 h2
  subst h1 h2
  have hsz := fun w => (TK _ _ hei).size (w := w)
  unfold idxHsl at h
  split at h
  case h_2 => cases h
  rename_i et vs j q
  obtain ⟨hk', h5⟩ := cond_none h
  clear h
  rw [Bool.and_eq_true, decide_eq_true_eq] at hk'
  obtain ⟨hk1, rfl⟩ := hk'
  have hk := Nat.eq_of_beq_eq_true hk1
  obtain ⟨⟨A, cp, e1, hc, hx⟩, h0, y, h1, h2⟩ := hx
  have e2 := (List.cons.inj e1).1
  subst e2
  obtain ⟨ad, es, rfl, hl, ho, ⟨rfl, h3⟩, hcell⟩ := hx i.toNat y h1
  have hlt : i.toNat < vs.length := (List.getElem?_eq_some_iff.1 h1).1
  refine OpOk.quiet (v := .pointer (some (ad.add i.toNat))) M h5 ?_ ⟨ad.add i.toNat, [y], rfl, ⟨⟨h2, h3⟩, trivial⟩, fun j v hj => ?_⟩
  · have h4 : i < ((List.length (α := K.hd.T) vs : Nat) : Int) := by
      have : i.toNat < List.length (α := K.hd.T) vs := hlt
      omega
    simp [Instr.indexAt, asIntOf, run_underlying hu, h0, h4, hsz, hk]
  · cases j with
    | zero =>
      obtain rfl := Option.some.inj hj
      refine ⟨by rw [Addr.add_block]; exact ho.1, ?_⟩
      have := hcell 0 y rfl
      rw [Addr.add_add']
      simpa [K.n] using this
    | succ j => simp at hj
theorem idxSub_ok (TK : TabOk P T) (M : MemRel w may ow m) {t : TypeId} {n : Nat} {x : SV} {u : Value} {i : Int} {ki : IntKind} {c : SV → Mem → Option R} (hn : elemN T t = some n) (hx : SVRel w (okOf ow m) may ow m x u)
    (h : idxSub m n x i (fun v => c v m) = some r) : OpOk P may w ow m (do pure (.value (← Instr.indexAt t u (.int ki i)))) c r := by
  unfold elemN at hn
  split at hn
  case h_2 => cases hn
  rename_i e e' k' ag by' hT
  obtain rfl := Option.some.inj hn
  obtain ⟨hu, ei, hei, hk', _⟩ := (TK _ _ hT).desc
  injection hk' with h1 h2
  subst h1 h2
  have hsz := fun w => (TK _ _ hei).size (w := w)
  unfold idxSub at h
  split at h
  case h_2 => cases h
  rename_i q o len hp
  obtain ⟨g, rfl⟩ := part?_rel hp
  cases hr : m.row? q with
  | none => simp [hr] at h
  | some row =>
    simp only [hr] at h
    obtain ⟨hk, h⟩ := cond_none h
    rw [Bool.and_eq_true] at hk
    have hk := Nat.eq_of_beq_eq_true hk.1
    obtain ⟨hi, h⟩ := cond_none h
    simp only [Bool.and_eq_true, decide_eq_true_eq] at hi
    obtain ⟨hq, _, hx⟩ := hx
    obtain ⟨hle, _, hx⟩ := hx row hr
    obtain ⟨γ, L, C, cp, hv, rfl, _⟩ := hx (by omega)
    refine OpOk.quiet (v := .pointer (some ((⟨γ, 0, none⟩ : Addr).add ((o + i.toNat) * row.k.n)))) M h ?_ ?_
    · simp [Instr.indexAt, asIntOf, run_underlying hu, hi.1, hi.2, hsz]
      rw [Addr.add_add', hk, Nat.add_mul]
    · refine ⟨hq, fun row' hr' => ?_⟩
      rw [hr] at hr'
      obtain rfl := Option.some.inj hr'
      exact ⟨by omega, γ, _, _, hv, by rw [Nat.add_zero]⟩
end
end Go.Fx
