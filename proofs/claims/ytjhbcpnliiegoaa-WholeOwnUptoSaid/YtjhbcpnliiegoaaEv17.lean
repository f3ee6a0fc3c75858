/- Regions that draw their order: whatever comes up, the end is the text's. -/
import Derived.Test.YtjhbcpnliiegoaaEvD
namespace Go.Fx
open Go Go.RowKit
set_option linter.unusedVariables false
set_option linter.unusedSimpArgs false
section
variable {R : Type} {P : Program} {T : Tab} {C : Cals} {w w' : World} {may : Nat → Prop} {ow ow' : Ow} {r : R} {s : S} {a : Act}
/-- What is listed. -/
def Lst (L : Array Bool) (i : Nat) : Prop := L.getD i false = true
/-- The places of the new variables that are not made yet. -/
def hid (B : Nat) (ops : List Oper) (L : Array Bool) : Nat → Bool := fun i => Nat.ble B i && (((ops[i - B]?).map isNew).getD false && !(L.getD (i - B) false))
theorem hid_iff {B : Nat} {ops : List Oper} {L : Array Bool} {i : Nat} : hid B ops L i = true ↔ ∃ (j : Nat) (o : Oper), i = B + j ∧ ops[j]? = some o ∧ isNew o = true ∧ ¬ Lst L j := by
  unfold hid Lst
  constructor
  · intro h
    simp only [Bool.and_eq_true, Nat.ble_eq, Bool.not_eq_true'] at h
    obtain ⟨h1, h2, h3⟩ := h
    cases ho : ops[i - B]? with
    | none => rw [ho] at h2; cases h2
    | some o =>
      rw [ho] at h2
      exact ⟨i - B, o, by omega, ho, h2, by rw [h3]; decide⟩
  · rintro ⟨j, o, rfl, ho, hn, hl⟩
    have : B + j - B = j := by omega
    simp only [this, ho, Option.map_some, Option.getD_some, hn, Bool.true_and, Bool.and_eq_true, Nat.ble_eq, Bool.not_eq_true']
    exact ⟨by omega, by simpa using hl⟩
/-- The memory when these are listed, and the text's writers done as far as k. -/
def memAt (B : Nat) (ops : List Oper) (es : List Ent) (sf : S) (L : Array Bool) (k : Nat) : Mem := (stAt es sf k).m.hide (hid B ops L)
structure DInv (P : Program) (N B : Nat) (may : Nat → Prop) (w0 : World) (ow0 : Ow) (m0 : Mem) (a0 : Act) (C : Cals) (ops : List Oper) (es : List Ent) (sf : S) (L : Array Bool) (k : Nat) (a : Act) (w : World) (ow : Ow) : Prop where
  size : L.size = ops.length
  closed : Closed ops (Lst L)
  kn : k ≤ ops.length
  kw : ∀ (i : Nat) (o : Oper) (e : Ent), ops[i]? = some o → es[i]? = some e → (logD C B i e.s o e.wt e.m).w = true → (Lst L i ↔ i < k)
  mem : MemRel w may ow (memAt B ops es sf L k)
  keep : Keep may w0 ow0 m0 w ow (memAt B ops es sf L k)
  tsize : a.tmps.size = N
  defers : a.defers = a0.defers
  slots : ∀ (j : Nat), j ≤ ops.length → (j < ops.length → ¬ Lst L j) → ∀ t, (∀ o, ops[j]? = some o → t ∈ looks ops o) → (∀ (i : Nat) (o : Oper), i < j → ops[i]? = some o → o.dst = some t → Lst L i) →
    (∀ (i : Nat) (o : Oper), j < i → ops[i]? = some o → o.dst = some t → ¬ Lst L i) → SVRel w (okOf ow (memAt B ops es sf L k)) may ow (memAt B ops es sf L k) ((stAt es sf j).get t) (a.tmps.getD t undef)
theorem lst_set {L : Array Bool} {i j : Nat} (hi : i < L.size) : Lst (L.setIfInBounds i true) j ↔ j = i ∨ Lst L j := by
  unfold Lst
  by_cases h : i = j
  · subst h; simp [Array.getElem?_setIfInBounds, hi]
  · simp only [Array.getD_eq_getD_getElem?, Array.getElem?_setIfInBounds_ne h]
    constructor
    · exact .inr
    · rintro (rfl | h2)
      · exact absurd rfl h
      · exact h2
theorem listed_getD {L : Array Bool} {i : Nat} (h : L.getD i true = false) : ¬ Lst L i ∧ i < L.size := by
  unfold Lst
  rcases Nat.lt_or_ge i L.size with h1 | h1
  · simp [h1] at h ⊢; exact h
  · simp [Array.getElem?_eq_none h1] at h
/-- The frame, cut to what is looked at. -/
theorem lookup_map (l : List Nat) (f : Nat → SV) (t : Nat) : lookup (l.map fun t => (t, f t)) t = if t ∈ l then f t else .undef := by
  induction l with
  | nil => rfl
  | cons x l ih =>
    simp only [List.map_cons, lookup_cons, ih]
    by_cases h : x = t
    · subst h; simp
    · have : t ≠ x := fun e => h e.symm
      simp [h, this]
structure DEnv (P : Program) (C : Cals) (T : Tab) (N B : Nat) (s0 : S) (ops : List Oper) (es : List Ent) (sf : S) : Prop where
  chain : Chain C T N B ops 0 s0 ops es sf
  pairs : PairsOk ops (ops.zip (logsOf C B 0 ops es)) (befs ops [])
  ready : ∀ (j : Nat) (o : Oper), ops[j]? = some o → isNew o = true → s0.m.box? (B + j) = newBox T o
  room : B + ops.length ≤ s0.m.boxes.length
section
variable {N B : Nat} {w0 : World} {ow0 : Ow} {m0 : Mem} {s0 : S} {a0 : Act} {ops : List Oper} {es : List Ent} {sf : S} {L : Array Bool} {k : Nat}
theorem DEnv.ent (D : DEnv P C T N B s0 ops es sf) {j : Nat} {o : Oper} (h : ops[j]? = some o) : ∃ e, es[j]? = some e := by
  have hlt := (List.getElem?_eq_some_iff.1 h).1
  exact ⟨_, List.getElem?_eq_getElem (by rw [D.chain.len]; exact hlt)⟩
theorem DEnv.log (D : DEnv P C T N B s0 ops es sf) {j : Nat} {o : Oper} {e : Ent} (h : ops[j]? = some o) (k : es[j]? = some e) : (ops.zip (logsOf C B 0 ops es))[j]? = some (o, logD C B j e.s o e.wt e.m) := by
  have := logsOf_get (C := C) (B := B) (n := 0) h k
  rwa [Nat.zero_add] at this
theorem DEnv.step (D : DEnv P C T N B s0 ops es sf) {j : Nat} {o : Oper} {e : Ent} (h : ops[j]? = some o) (k : es[j]? = some e) :
    (∃ s0, StepE C T N B ops j s0 o e) ∧ (stAt es sf (j + 1)).m = e.m ∧ ∀ t, Ref ((e.s.put o.dst e.v e.m).get t) ((stAt es sf (j + 1)).get t) := by
  have := D.chain.at j o e h k
  rwa [Nat.zero_add] at this
theorem DEnv.edges (D : DEnv P C T N B s0 ops es sf) : ∀ (j : Nat) (o : Oper), ops[j]? = some o → edgesOk j o = true := by
  intro j o h
  obtain ⟨e, he⟩ := D.ent h
  exact (D.pairs.one j _ _ (D.log h he)).2.1
/-- Of two operations, one ahead of the other in the text: either it comes first, or they do not touch. -/
theorem DEnv.pair (D : DEnv P C T N B s0 ops es sf) (hc : Closed ops (Lst L)) {i j : Nat} {x y : Oper} {ex ey : Ent} (hij : i < j) (hi : ops[i]? = some x) (hj : ops[j]? = some y) (hei : es[i]? = some ex) (hej : es[j]? = some ey) :
    ((∀ e ∈ y.after.toList, Region.binds .any e = true → Lst L e.on) → Lst L i) ∨ pairOk ops x y (logD C B i ex.s x ex.wt ex.m) (logD C B j ey.s y ey.wt ey.m) = true := by
  obtain ⟨_, _, bj, hb⟩ := D.pairs.one j _ _ (D.log hj hej)
  rcases (D.pairs.two i j _ _ _ _ bj hij (D.log hi hei) (D.log hj hej) hb).1 with h | h
  · exact .inl fun ha => bef_in hc D.edges j y bj hj hb ha i h
  · exact .inr h
/-- What stands ahead of a new variable in the text does not look at its place. -/
theorem DEnv.fresh (D : DEnv P C T N B s0 ops es sf) {i j : Nat} {x y : Oper} {ex ey : Ent} (hij : i < j) (hi : ops[i]? = some x) (hj : ops[j]? = some y) (hei : es[i]? = some ex) (hej : es[j]? = some ey) (hn : isNew y = true) :
    disj (logD C B i ex.s x ex.wt ex.m).rd [2 * (B + j) + 1] = true ∧ disj (logD C B i ex.s x ex.wt ex.m).tc [2 * (B + j) + 1] = true := by
  obtain ⟨_, _, bj, hb⟩ := D.pairs.one j _ _ (D.log hj hej)
  have := (D.pairs.two i j _ _ _ _ bj hij (D.log hi hei) (D.log hj hej) hb).2 hn
  simpa [logD, hn] using this
theorem stAt_ent {j : Nat} {e : Ent} (h : es[j]? = some e) : stAt es sf j = e.s := by simp [stAt, h]
/-- From a place where the memory is the same, on. -/
theorem mem_quiet (D : DEnv P C T N B s0 ops es sf) : ∀ (n i : Nat), i + n ≤ ops.length → (∀ (q : Nat) (o : Oper) (e : Ent), i ≤ q → q < i + n → ops[q]? = some o → es[q]? = some e → (logD C B q e.s o e.wt e.m).w = false) → (stAt es sf (i + n)).m = (stAt es sf i).m
  | 0, i, _, _ => rfl
  | n + 1, i, hn, h => by
    have hlt : i + n < ops.length := by omega
    have ho : ops[i + n]? = some ops[i + n] := List.getElem?_eq_getElem hlt
    obtain ⟨e, he⟩ := D.ent ho
    obtain ⟨⟨sx, hs⟩, h1, _⟩ := D.step ho he
    have h2 := h (i + n) _ _ (by omega) (by omega) ho he
    have ih := mem_quiet D n i (by omega) fun q o e h1 h2 => h q o e h1 (by omega)
    rw [show i + (n + 1) = i + n + 1 by omega, h1, ← ih, stAt_ent he]
    cases hnw : isNew ops[i + n] with
    | true => exact (hs.new hnw).2.2.1
    | false =>
    cases hwt : e.wt with
    | false => exact (hs.no hwt).2.1
    | true =>
      rw [hwt] at h2
      simp only [logD, hnw, logE, cond_true, cond_false] at h2
      cases hw : isW C e.s ops[i + n] with
      | false => exact (quiet_local hw (hs.yes hnw hwt).1).1
      | true => rw [hw] at h2; simp at h2
theorem mem_same (D : DEnv P C T N B s0 ops es sf) {i j : Nat} (hij : i ≤ j) (hj : j ≤ ops.length) (h : ∀ (q : Nat) (o : Oper) (e : Ent), i ≤ q → q < j → ops[q]? = some o → es[q]? = some e → (logD C B q e.s o e.wt e.m).w = false) : (stAt es sf j).m = (stAt es sf i).m := by
  have := mem_quiet D (j - i) i (by omega) fun q o e h1 h2 => h q o e h1 (by omega)
  rwa [show i + (j - i) = j by omega] at this
/-- What is read stands while nobody touches it. -/
theorem agree_step (D : DEnv P C T N B s0 ops es sf) {ids : List Nat} : ∀ (n i : Nat), i + n ≤ ops.length → (∀ (q : Nat) (o : Oper) (e : Ent), i ≤ q → q < i + n → ops[q]? = some o → es[q]? = some e → isNew o = true ∨ disj ids (logD C B q e.s o e.wt e.m).tc = true) →
    Agree ids (stAt es sf i).m (stAt es sf (i + n)).m ∧ (stAt es sf i).m.boxes.length ≤ (stAt es sf (i + n)).m.boxes.length
  | 0, i, _, _ => ⟨⟨fun _ _ => rfl, fun _ _ => rfl⟩, Nat.le_refl _⟩
  | n + 1, i, hn, h => by
    have hlt : i + n < ops.length := by omega
    have ho : ops[i + n]? = some ops[i + n] := List.getElem?_eq_getElem hlt
    obtain ⟨e, he⟩ := D.ent ho
    obtain ⟨⟨sx, hs⟩, h1, _⟩ := D.step ho he
    have h2 := h (i + n) _ _ (by omega) (by omega) ho he
    have ih := agree_step D (ids := ids) n i (by omega) fun q o e h1 h2 => h q o e h1 (by omega)
    rw [show i + (n + 1) = i + n + 1 by omega, h1]
    have hm : e.s.m = (stAt es sf (i + n)).m := by rw [stAt_ent he]
    suffices H : Agree ids e.s.m e.m ∧ e.s.m.boxes.length ≤ e.m.boxes.length by
      rw [hm] at H
      exact ⟨⟨fun q hq => (H.1.1 q hq).trans (ih.1.1 q hq), fun q hq => (H.1.2 q hq).trans (ih.1.2 q hq)⟩, Nat.le_trans ih.2 H.2⟩
    have same : e.m = e.s.m → Agree ids e.s.m e.m ∧ e.s.m.boxes.length ≤ e.m.boxes.length := fun h => by rw [h]; exact ⟨⟨fun _ _ => rfl, fun _ _ => rfl⟩, Nat.le_refl _⟩
    cases hnw : isNew ops[i + n] with
    | true => exact same (hs.new hnw).2.2.1
    | false =>
    have h2 := h2.resolve_left (by rw [hnw]; decide)
    have nin : ∀ x ∈ ids, x ∉ (logD C B (i + n) e.s ops[i + n] e.wt e.m).tc := by
      intro x hx hx2
      have := List.all_eq_true.1 h2 x hx
      simp only [Bool.not_eq_true', List.any_eq_false] at this
      exact this x hx2 (Nat.beq_refl x)
    cases hwt : e.wt with
    | false => exact same (hs.no hwt).2.1
    | true =>
      have hev := (hs.yes hnw hwt).1
      cases hw : isW C e.s ops[i + n] with
      | false => exact same (quiet_local hw hev).1
      | true =>
        have hl := write_leaves hev
        have htc : (logD C B (i + n) e.s ops[i + n] e.wt e.m).tc = writesOf e.s ops[i + n] ++ newIds e.s.m e.m := by simp [logD, hnw, logE, hwt, hw]
        rw [htc] at nin
        refine ⟨⟨fun q hq => ?_, fun q hq => ?_⟩, hl.lb⟩
        · have hn := nin _ hq
          simp only [List.mem_append, not_or] at hn
          rcases Nat.lt_or_ge q e.s.m.rows.length with h3 | h3
          · exact hl.rows q h3 hn.1
          · rcases Nat.lt_or_ge q e.m.rows.length with h4 | h4
            · exfalso
              refine hn.2 (List.mem_append_left _ (List.mem_map.2 ⟨q - e.s.m.rows.length, List.mem_range.2 (by omega), by omega⟩))
            · simp [Mem.row?, List.getElem?_eq_none h3, List.getElem?_eq_none h4]
        · have hn := nin _ hq
          simp only [List.mem_append, not_or] at hn
          rcases Nat.lt_or_ge q e.s.m.boxes.length with h3 | h3
          · exact hl.boxes q h3 hn.1
          · rcases Nat.lt_or_ge q e.m.boxes.length with h4 | h4
            · exfalso
              refine hn.2 (List.mem_append_right _ (List.mem_map.2 ⟨q - e.s.m.boxes.length, List.mem_range.2 (by omega), by omega⟩))
            · simp [Mem.box?, List.getElem?_eq_none h3, List.getElem?_eq_none h4]
theorem disj_symm {x y : List Nat} (h : disj x y = true) : disj y x = true := by
  refine List.all_eq_true.2 fun a ha => ?_
  simp only [Bool.not_eq_true', List.any_eq_false]
  intro b hb e
  have e := Nat.eq_of_beq_eq_true e
  subst e
  have := List.all_eq_true.1 h a hb
  simp only [Bool.not_eq_true', List.any_eq_false] at this
  exact this a ha (Nat.beq_refl a)
theorem disj_not {x y : List Nat} (h : disj x y = true) {a : Nat} (ha : a ∈ x) (hb : a ∈ y) : False := by
  have := List.all_eq_true.1 h a ha
  simp only [Bool.not_eq_true', List.any_eq_false] at this
  exact this a hb (Nat.beq_refl a)
theorem room_at (D : DEnv P C T N B s0 ops es sf) {i : Nat} (hi : i ≤ ops.length) : B + ops.length ≤ (stAt es sf i).m.boxes.length := by
  have h := (agree_step D (ids := []) i 0 (by omega) fun q o e _ _ _ _ => .inr rfl).2
  have h0 := D.chain.first.1
  rw [Nat.zero_add, h0] at h
  exact Nat.le_trans D.room h
theorem Agree.symm {ids : List Nat} {m m' : Mem} (h : Agree ids m m') : Agree ids m' m := ⟨fun i hi => (h.1 i hi).symm, fun i hi => (h.2 i hi).symm⟩
theorem pairOk_spec {all : List Oper} {x y : Oper} {p q : LogE} (h : pairOk all x y p q = true) : ¬ (p.w = true ∧ q.w = true) ∧ disj p.rd q.tc = true ∧ disj q.rd p.tc = true ∧ (∀ t, x.dst = some t → t ∉ looks all y) ∧ (∀ t, y.dst = some t → t ∉ looks all x) ∧ (∀ t, x.dst = some t → y.dst ≠ some t) ∧ disj p.tc q.tc = true := by
  simp only [pairOk, Bool.and_eq_true, Bool.not_eq_true', Bool.and_eq_false_iff] at h
  obtain ⟨⟨h1, h0, _⟩, h2, h3, h4, h5, h6⟩ := h
  refine ⟨fun ⟨a, b⟩ => by rcases h1 with h1 | h1 <;> simp_all, h2, h3, fun t ht hm => ?_, fun t ht hm => ?_, fun t ht ht2 => ?_, h0⟩
  · rw [ht] at h4; simp only [optIn] at h4; rw [mem_hasN hm] at h4; cases h4
  · rw [ht] at h5; simp only [optIn] at h5; rw [mem_hasN hm] at h5; cases h5
  · rw [ht, ht2] at h6; simp [optEq] at h6
theorem guard_look {o : Oper} {g d : Nat} {want : Bool} (h1 : o.guard = some (g, want)) (h2 : (ops[g]?).bind (·.dst) = some d) : d ∈ looks ops o := by
  simp [looks, h1, h2]
theorem opd_look {o : Oper} {t : Nat} (h : Operand.tmp t ∈ o.op.operands) : t ∈ looks ops o := by
  unfold looks
  refine List.mem_append_right _ (List.mem_filterMap.2 ⟨.tmp t, by simpa using h, rfl⟩)
/-- The place of a new variable that is not made yet holds what it is made of. -/
theorem slot_ready (D : DEnv P C T N B s0 ops es sf) (hc : Closed ops (Lst L)) (kn : k ≤ ops.length) (kw : ∀ (i : Nat) (o : Oper) (e : Ent), ops[i]? = some o → es[i]? = some e → (logD C B i e.s o e.wt e.m).w = true → (Lst L i ↔ i < k))
    {j : Nat} {o : Oper} (ho : ops[j]? = some o) (hn : isNew o = true) (hl : ¬ Lst L j) : (stAt es sf k).m.box? (B + j) = newBox T o := by
  obtain ⟨e, he⟩ := D.ent ho
  have hd : ∀ (q : Nat) (x : Oper) (ex : Ent), q < k → ops[q]? = some x → es[q]? = some ex → isNew x = true ∨ disj [2 * (B + j) + 1] (logD C B q ex.s x ex.wt ex.m).tc = true := by
    intro q x ex hq hx hex
    cases hnx : isNew x with
    | true => exact .inl rfl
    | false =>
    refine .inr ?_
    rcases Nat.lt_trichotomy q j with h | h | h
    · exact disj_symm (D.fresh h hx ho hex he hn).2
    · subst h; rw [ho] at hx; obtain rfl := Option.some.inj hx; rw [hn] at hnx; cases hnx
    · cases hwq : (logD C B q ex.s x ex.wt ex.m).w with
      | false =>
        have : (logD C B q ex.s x ex.wt ex.m).tc = [] := by
          revert hwq
          unfold logD logE
          rw [hnx]
          cases ex.wt <;> cases isW C ex.s x <;> simp
        rw [this]
        exact List.all_eq_true.2 fun _ _ => rfl
      | true =>
        have hql := (kw q x ex hx hex hwq).2 hq
        rcases D.pair hc h ho hx he hex with h2 | h2
        · exact absurd (h2 fun e' he' hb => hc q x hx hql e' he' hb) hl
        · have := (pairOk_spec h2).2.2.2.2.2.2
          simpa [logD, hn] using this
  have := (agree_step D (ids := [2 * (B + j) + 1]) k 0 (by omega) fun q x ex _ hq hx hex => hd q x ex (by omega) hx hex).1.2 (B + j) (by simp)
  rw [Nat.zero_add, D.chain.first.1, D.ready j o ho hn] at this
  exact this
theorem hide_eq {H H' : Nat → Bool} {m : Mem} (h : ∀ i, H' i = H i) : m.hide H' = m.hide H := by
  have : H' = H := funext h
  rw [this]
theorem hide_fill {H H' : Nat → Bool} {m : Mem} {b : Nat} {bx : Box} (hb : m.box? b = some bx) (h : ∀ i, H' i = (H i && !(Nat.beq i b))) : m.hide H' = ⟨m.rows, (m.hide H).boxes.set b (some bx)⟩ := by
  simp only [Mem.hide, wb]
  congr 1
  refine List.ext_getElem? fun i => ?_
  simp only [List.getElem?_mapIdx, List.getElem?_set, List.length_mapIdx]
  by_cases hi : b = i
  · subst hi
    have hlt : b < m.boxes.length := box?_lt hb
    have hv : m.boxes[b]? = some (some bx) := by
      unfold Mem.box? at hb
      cases e : m.boxes[b]? with
      | none => rw [e] at hb; cases hb
      | some v => rw [e] at hb; rw [show v = some bx from hb]
    rw [hv]
    simp [h, hlt]
  · have : Nat.beq i b = false := by
      cases e : Nat.beq i b with
      | false => rfl
      | true => exact absurd (Nat.eq_of_beq_eq_true e).symm hi
    simp [h, hi, this]
theorem agree_hide {H : Nat → Bool} {ids : List Nat} {m m' : Mem} (h : Agree ids m m') (hH : ∀ i, H i = true → 2 * i + 1 ∉ ids) : Agree ids m (m'.hide H) :=
  ⟨fun i hi => h.1 i hi, fun i hi => by
    rw [hide_box]
    cases e : H i with
    | true => exact absurd hi (hH i e)
    | false => exact h.2 i hi⟩
theorem hid_set {opsL : List Oper} {j : Nat} {o : Oper} (ho : opsL[j]? = some o) (hj : j < L.size) (hn : isNew o = false) (i : Nat) : hid B opsL (L.setIfInBounds j true) i = hid B opsL L i := by
  rw [Bool.eq_iff_iff, hid_iff, hid_iff]
  constructor
  · rintro ⟨q, x, h1, h2, h3, h4⟩
    exact ⟨q, x, h1, h2, h3, fun h => h4 ((lst_set hj).2 (.inr h))⟩
  · rintro ⟨q, x, h1, h2, h3, h4⟩
    refine ⟨q, x, h1, h2, h3, fun h => ?_⟩
    rcases (lst_set hj).1 h with rfl | h
    · rw [ho] at h2; obtain rfl := Option.some.inj h2; rw [hn] at h3; cases h3
    · exact h4 h
theorem hid_set_new {opsL : List Oper} {j : Nat} {o : Oper} (ho : opsL[j]? = some o) (hj : j < L.size) (i : Nat) : hid B opsL (L.setIfInBounds j true) i = (hid B opsL L i && !(Nat.beq i (B + j))) := by
  rw [Bool.eq_iff_iff, Bool.and_eq_true, hid_iff, hid_iff]
  constructor
  · rintro ⟨q, x, h1, h2, h3, h4⟩
    refine ⟨⟨q, x, h1, h2, h3, fun h => h4 ((lst_set hj).2 (.inr h))⟩, ?_⟩
    cases e : Nat.beq i (B + j) with
    | false => rfl
    | true =>
      have := Nat.eq_of_beq_eq_true e
      obtain rfl : q = j := by omega
      exact absurd ((lst_set hj).2 (.inl rfl)) h4
  · rintro ⟨⟨q, x, h1, h2, h3, h4⟩, h5⟩
    refine ⟨q, x, h1, h2, h3, fun h => ?_⟩
    rcases (lst_set hj).1 h with rfl | h
    · rw [h1, Nat.beq_refl] at h5; cases h5
    · exact h4 h
theorem dstep (TK : TabOk P T) (CK : CalsOk P C) {opsA : Array Oper} {Q : Exit → Act → World → Prop} (D : DEnv P C T N B s0 opsA.toList es sf) (hL : Live C may w ow (memAt B opsA.toList es sf L k))
    (I : DInv P N B may w0 ow0 m0 a0 C opsA.toList es sf L k a w ow) {j : Nat} (hj : j ∈ Region.ready .any opsA L) {K : Act → World → Prop} (hK : ∀ k' a' w' ow', DInv P N B may w0 ow0 m0 a0 C opsA.toList es sf (L.setIfInBounds j true) k' a' w' ow' → K a' w') :
    wpOp P opsA Q j K a w := by
  obtain ⟨hun, o, ho, hall⟩ := mem_ready.1 hj
  have ho' : opsA.toList[j]? = some o := by simpa using ho
  have hjn := (List.getElem?_eq_some_iff.1 ho').1
  obtain ⟨e, he⟩ := D.ent ho'
  obtain ⟨⟨sx, hs⟩, hnm, hnr⟩ := D.step ho' he
  obtain ⟨hnl, hjl⟩ := listed_getD hun
  have pre : ∀ e ∈ o.after.toList, Region.binds .any e = true → Lst L e.on := fun e he hb => hall e (by simpa using he) hb
  have bef : ∀ (i : Nat) (x : Oper) (ex : Ent), i < j → opsA.toList[i]? = some x → es[i]? = some ex → Lst L i ∨ pairOk opsA.toList x o (logD C B i ex.s x ex.wt ex.m) (logD C B j e.s o e.wt e.m) = true := fun i x ex hi hx hex =>
    (D.pair I.closed hi hx ho' hex he).imp (fun h => h pre) id
  have aft : ∀ (i : Nat) (y : Oper) (ey : Ent), j < i → opsA.toList[i]? = some y → es[i]? = some ey → ¬ Lst L i ∨ pairOk opsA.toList o y (logD C B j e.s o e.wt e.m) (logD C B i ey.s y ey.wt ey.m) = true := by
    intro i y ey hi hy hey
    rcases D.pair I.closed hi ho' hy he hey with h | h
    · exact .inl fun hl => hnl (h (I.closed i y hy hl))
    · exact .inr h
  have hlook : ∀ t ∈ looks opsA.toList o, SVRel w (okOf ow (memAt B opsA.toList es sf L k)) may ow (memAt B opsA.toList es sf L k) (e.s.get t) (a.tmps.getD t undef) := by
    intro t ht
    have := I.slots j (Nat.le_of_lt hjn) (fun _ => hnl) t (fun o' h' => by rw [ho'] at h'; obtain rfl := Option.some.inj h'; exact ht) (fun i x hi hx hd => ?_) (fun i y hi hy hd => ?_)
    · rwa [stAt_ent he] at this
    · obtain ⟨ex, hex⟩ := D.ent hx
      rcases bef i x ex hi hx hex with h | h
      · exact h
      · exact absurd ht ((pairOk_spec h).2.2.2.1 t hd)
    · obtain ⟨ey, hey⟩ := D.ent hy
      rcases aft i y ey hi hy hey with h | h
      · exact h
      · exact absurd ht ((pairOk_spec h).2.2.2.2.1 t hd)
  -- places that are not ready are neither read nor written
  have away : isNew o = false → ∀ i, hid B opsA.toList L i = true → 2 * i + 1 ∉ (logD C B j e.s o e.wt e.m).rd ∧ 2 * i + 1 ∉ (logD C B j e.s o e.wt e.m).tc := by
    intro hnj i hi
    obtain ⟨q, x, rfl, hx, hnx, hlq⟩ := hid_iff.1 hi
    obtain ⟨ex, hex⟩ := D.ent hx
    rcases Nat.lt_trichotomy q j with h | h | h
    · rcases bef q x ex h hx hex with h2 | h2
      · exact absurd h2 hlq
      · have h3 := (pairOk_spec h2).2.2.1
        have h4 := (pairOk_spec h2).2.2.2.2.2.2
        have e1 : (logD C B q ex.s x ex.wt ex.m).tc = [2 * (B + q) + 1] := by simp [logD, hnx]
        rw [e1] at h3 h4
        exact ⟨fun hm => disj_not h3 hm (by simp), fun hm => disj_not h4 (by simp) hm⟩
    · subst h; rw [ho'] at hx; obtain rfl := Option.some.inj hx; rw [hnj] at hnx; cases hnx
    · have := D.fresh h ho' hx he hex hnx
      exact ⟨fun hm => disj_not this.1 hm (by simp), fun hm => disj_not this.2 hm (by simp)⟩
  -- what is to be shown of the end
  have fin : ∀ k', k' ≤ opsA.toList.length → ((logD C B j e.s o e.wt e.m).w = true → k' = j + 1) → ((logD C B j e.s o e.wt e.m).w = false → k' = k) → ∀ v w' ow', MemRel w' may ow' (memAt B opsA.toList es sf (L.setIfInBounds j true) k') → Keep may w ow (memAt B opsA.toList es sf L k) w' ow' (memAt B opsA.toList es sf (L.setIfInBounds j true) k') →
      SVRel w' (okOf ow' (memAt B opsA.toList es sf (L.setIfInBounds j true) k')) may ow' (memAt B opsA.toList es sf (L.setIfInBounds j true) k') e.v v → K (a.put o.dst v) w' := by
    intro k' hk' hk1 hk2 v w' ow' M' K' hv
    refine hK k' _ w' ow' ⟨by simpa using I.size, fun i x hx hl e' he' hb => ?_, hk', fun i x ex hx hex hw => ?_, M', I.keep.trans K', by rw [put_size]; exact I.tsize, by rw [put_defers']; exact I.defers, fun q hq hql t hlk hbf haf => ?_⟩
    · rcases (lst_set hjl).1 hl with rfl | hl
      · rw [ho'] at hx; obtain rfl := Option.some.inj hx
        exact (lst_set hjl).2 (.inr (pre e' he' hb))
      · exact (lst_set hjl).2 (.inr (I.closed i x hx hl e' he' hb))
    · rw [lst_set hjl]
      cases hwj : (logD C B j e.s o e.wt e.m).w with
      | true =>
        rw [hk1 hwj]
        constructor
        · rintro (rfl | hl)
          · omega
          · rcases Nat.lt_trichotomy i j with h1 | h1 | h1
            · omega
            · omega
            · rcases aft i x ex h1 hx hex with h2 | h2
              · exact absurd hl h2
              · exact absurd ⟨hwj, hw⟩ (pairOk_spec h2).1
        · intro hlt
          rcases Nat.lt_or_eq_of_le (Nat.le_of_lt_succ hlt) with h1 | h1
          · rcases bef i x ex h1 hx hex with h2 | h2
            · exact .inr h2
            · exact absurd ⟨hw, hwj⟩ (pairOk_spec h2).1
          · exact .inl h1
      | false =>
        rw [hk2 hwj]
        constructor
        · rintro (rfl | hl)
          · rw [ho'] at hx; obtain rfl := Option.some.inj hx
            rw [he] at hex; obtain rfl := Option.some.inj hex
            rw [hwj] at hw; cases hw
          · exact (I.kw i x ex hx hex hw).1 hl
        · exact fun h => .inr ((I.kw i x ex hx hex hw).2 h)
    · -- the slots
      have hd := hs.dst
      by_cases hdt : o.dst = some t
      · have hjq : j < q := by
          rcases Nat.lt_trichotomy q j with h1 | h1 | h1
          · exact absurd ((lst_set hjl).2 (.inl rfl)) (haf j o h1 ho' hdt)
          · subst h1; exact absurd ((lst_set hjl).2 (.inl rfl)) (hql hjn)
          · exact h1
        have hval : (a.put o.dst v).tmps.getD t undef = v := by
          rw [hdt] at hd ⊢
          simp only [dstOk, Nat.blt_eq] at hd
          have := I.tsize
          simp [Act.put, Array.getElem?_setIfInBounds, show t < a.tmps.size by omega]
        rw [hval]
        -- nobody else writes the slot between
        have chain : ∀ n, j + 1 + n ≤ q → Ref e.v ((stAt es sf (j + 1 + n)).get t) := by
          intro n
          induction n with
          | zero =>
            intro _
            have := hnr t
            rwa [get_put, if_pos hdt] at this
          | succ n ih =>
            intro hn
            have ih := ih (by omega)
            have hlt : j + 1 + n < opsA.toList.length := by omega
            have hoi : opsA.toList[j + 1 + n]? = some opsA.toList[j + 1 + n] := List.getElem?_eq_getElem hlt
            obtain ⟨ei, hei⟩ := D.ent hoi
            obtain ⟨_, _, hri⟩ := D.step hoi hei
            have hne : (opsA.toList[j + 1 + n]).dst ≠ some t := by
              intro hdi
              have hl := hbf _ _ (by omega) hoi hdi
              rcases (lst_set hjl).1 hl with h1 | h1
              · omega
              · rcases aft _ _ ei (by omega) hoi hei with h2 | h2
                · exact h2 h1
                · exact (pairOk_spec h2).2.2.2.2.2.1 t hdt hdi
            have := hri t
            rw [get_put, if_neg hne] at this
            rw [stAt_ent hei] at ih
            exact ih.trans this
        have := chain (q - (j + 1)) (by omega)
        rw [show j + 1 + (q - (j + 1)) = q by omega] at this
        exact this.rel hv
      · have hval : (a.put o.dst v).tmps.getD t undef = a.tmps.getD t undef := by
          cases hdd : o.dst with
          | none => rfl
          | some d =>
            have hne : d ≠ t := fun e => hdt (by rw [hdd, e])
            simp [Act.put, Array.getElem?_setIfInBounds_ne hne]
        rw [hval]
        refine SVRel.keep K' (I.slots q hq (fun h hl => hql h ((lst_set hjl).2 (.inr hl))) t hlk (fun i x hi hx hdx => ?_) fun i x hi hx hdx hl => haf i x hi hx hdx ((lst_set hjl).2 (.inr hl)))
        rcases (lst_set hjl).1 (hbf i x hi hx hdx) with rfl | h
        · rw [ho'] at hx; obtain rfl := Option.some.inj hx; exact absurd hdx hdt
        · exact h
  unfold wpOp
  simp only [ho]
  cases hnw : isNew o with
  | true =>
    -- a new variable: its place stood ready
    obtain ⟨hwt, hv, hme, hbs⟩ := hs.new hnw
    obtain ⟨bx, hbx⟩ := Option.isSome_iff_exists.1 hbs
    have hready := slot_ready D I.closed I.kn I.kw ho' hnw hnl
    rw [hbx] at hready
    have hhid : hid B opsA.toList L (B + j) = true := hid_iff.2 ⟨j, o, rfl, ho', hnw, hnl⟩
    have hlw : (logD C B j e.s o e.wt e.m).w = false := by simp [logD, hnw]
    obtain ⟨dst, op, ty, pos, after, guard⟩ := o
    cases op with
    | alloc t =>
      have hg : guard = none := by simpa [isNew] using hnw
      subst hg
      cases hT : T t with
      | none => simp [newBox, hT] at hbx
      | some ti =>
        simp only [newBox, hT, Option.some.injEq] at hbx
        have hnone : (memAt B opsA.toList es sf L k).box? (B + j) = none := by rw [memAt, hide_box, hhid]; rfl
        have hlen : B + j < (memAt B opsA.toList es sf L k).boxes.length := by rw [memAt, hide_len]; have := room_at D I.kn; omega
        obtain ⟨w', ow', hrun, how, M', K'⟩ := place_ok TK I.mem hL.new hT hnone hlen (I.mem.free _ hlen hnone)
        rw [if_pos (by simp [Region.wanted])]
        have hmem : memAt B opsA.toList es sf (L.setIfInBounds j true) k = ⟨(memAt B opsA.toList es sf L k).rows, (memAt B opsA.toList es sf L k).boxes.set (B + j) (some ⟨t, zeroLeaves ti.k⟩)⟩ := by
          rw [hbx]
          exact hide_fill hready (hid_set_new ho' hjl)
        refine .inl ?_
        unfold Oper.wp
        have he2 : execOp a.eval (⟨dst, .alloc t, ty, pos, after, none⟩ : Oper) = (do pure (Next.value (← Instr.alloc t true (.tuple #[]))) : Sem Next) := rfl
        rw [he2, hrun]
        refine fin k I.kn (fun h => by rw [hlw] at h; cases h) (fun _ => rfl) _ w' ow' (by rw [hmem]; exact M') (by rw [hmem]; exact K') ?_
        rw [hv]
        refine ⟨w.heap.size, ?_, by simp [Addr.add]⟩
        rw [how]
        show (ow.bb.set (B + j) (some w.heap.size))[B + j]? = _
        rw [List.getElem?_set_self]
        rw [I.mem.blen]; exact hlen
    | _ => simp [isNew] at hnw
  | false =>
  have hLk : ∀ q, memAt B opsA.toList es sf (L.setIfInBounds j true) q = memAt B opsA.toList es sf L q := fun q => hide_eq (hid_set ho' hjl hnw)
  have hvoid : ∀ (g d : Nat), (opsA.toList[g]?).bind (·.dst) = some d → d ∈ looks opsA.toList o → isVoid (e.s.get d) = true → yielded opsA a.tmps g = none := by
    intro g d h2 h1 h3
    have h4 := void_rel (hlook d h1) h3
    have h2' : (opsA[g]?).bind (·.dst) = some d := by simpa using h2
    cases h : a.tmps[d]? with
    | none => simp [yielded, h2', h]
    | some v =>
      have : v = undef := by simpa [h] using h4
      subst this
      simp [yielded, h2', h, undef]
  have hyield : ∀ (g d : Nat) (want b : Bool), o.guard = some (g, want) → (opsA.toList[g]?).bind (·.dst) = some d → e.s.get d = cb b → yielded opsA a.tmps g = some b := by
    intro g d want b h1 h2 h3
    have h4 := hlook d (guard_look h1 h2)
    rw [h3] at h4
    have h5 : a.tmps.getD d undef = .bool b := bool?_rel h4 rfl
    have h6 : a.tmps[d]? = some (.bool b) := by
      cases h : a.tmps[d]? with
      | none => simp [h, undef] at h5
      | some v => simpa [h] using h5
    have h2' : (opsA[g]?).bind (·.dst) = some d := by simpa using h2
    simp [yielded, h2', h6]
  have hlog : logD C B j e.s o e.wt e.m = logE C e.s o e.wt e.m := by simp [logD, hnw]
  cases hwt : e.wt with
  | false =>
    obtain ⟨hv, hme, g, want, d, h1, h2, h3⟩ := hs.no hwt
    have : Region.wanted o (yielded opsA a.tmps) = false := by
      rcases h3 with h3 | h3
      · simp [Region.wanted, h1, hyield g d want _ h1 h2 h3]
      · simp [Region.wanted, h1, hvoid g d h2 (guard_look h1 h2) h3]
    rw [if_neg (by simp [this])]
    exact fin k I.kn (by rw [hlog]; simp [logE, hwt]) (fun _ => rfl) undef w ow (by rw [hLk]; exact I.mem) (by rw [hLk]; exact Keep.refl _ _ _ _) (by rw [hv]; exact void_undef)
  | true =>
    obtain ⟨hev, hg⟩ := hs.yes hnw hwt
    have hwant : Region.wanted o (yielded opsA a.tmps) = true := by
      rcases hg with hg | ⟨g, want, d, h1, h2, h3⟩
      · simp [Region.wanted, hg]
      · simp [Region.wanted, h1, hyield g d want _ h1 h2 h3]
    rw [if_pos hwant]
    -- the memory at which it comes up
    obtain ⟨k', m1, hev', hk', hk1, hk2, hm1⟩ : ∃ k' m1, evalOp C T ⟨e.s.fr, memAt B opsA.toList es sf L k⟩ o mk = some (e.v, m1) ∧ k' ≤ opsA.toList.length ∧ ((logD C B j e.s o e.wt e.m).w = true → k' = j + 1) ∧ ((logD C B j e.s o e.wt e.m).w = false → k' = k) ∧ m1 = memAt B opsA.toList es sf L k' := by
      cases hw : isW C e.s o with
      | true =>
        have hlw : (logD C B j e.s o e.wt e.m).w = true := by rw [hlog]; simp [logE, hwt, hw]
        have htc : (logD C B j e.s o e.wt e.m).tc = writesOf e.s o ++ newIds e.s.m e.m := by rw [hlog]; simp [logE, hwt, hw]
        have hsame : (stAt es sf k).m = e.s.m := by
          rw [← stAt_ent (sf := sf) he]
          rcases Nat.le_total k j with h1 | h1
          · refine (mem_same D h1 (Nat.le_of_lt hjn) fun q x ex hq1 hq2 hx hex => ?_).symm
            cases hwq : (logD C B q ex.s x ex.wt ex.m).w with
            | false => rfl
            | true =>
              exfalso
              rcases bef q x ex hq2 hx hex with h | h
              · have := (I.kw q x ex hx hex hwq).1 h; omega
              · exact (pairOk_spec h).1 ⟨hwq, hlw⟩
          · refine mem_same D h1 I.kn fun q x ex hq1 hq2 hx hex => ?_
            cases hwq : (logD C B q ex.s x ex.wt ex.m).w with
            | false => rfl
            | true =>
              exfalso
              have hl := (I.kw q x ex hx hex hwq).2 hq2
              rcases Nat.lt_or_eq_of_le hq1 with h3 | h3
              · rcases aft q x ex h3 hx hex with h | h
                · exact h hl
                · exact (pairOk_spec h).1 ⟨hlw, hwq⟩
              · subst h3; exact hnl hl
        refine ⟨j + 1, e.m.hide (hid B opsA.toList L), ?_, by omega, fun _ => rfl, (fun h => by rw [hlw] at h; cases h), by rw [memAt, hnm]⟩
        rw [memAt, hsame]
        refine write_hide hev hw fun i hi => ⟨?_, fun hmem => (away hnw i hi).2 (by rw [htc]; exact List.mem_append_left _ hmem)⟩
        obtain ⟨q, x, rfl, hx, _, _⟩ := hid_iff.1 hi
        have := room_at D (Nat.le_of_lt hjn)
        rw [stAt_ent he] at this
        have := (List.getElem?_eq_some_iff.1 hx).1
        omega
      | false =>
        obtain ⟨hme, hloc⟩ := quiet_local hw hev
        have hlw : (logD C B j e.s o e.wt e.m).w = false := by rw [hlog]; simp [logE, hwt, hw]
        have hrd : (logD C B j e.s o e.wt e.m).rd = readsOf e.s o := by rw [hlog]; simp [logE, hwt, hw]
        refine ⟨k, memAt B opsA.toList es sf L k, hloc _ (agree_hide ?_ fun i hi => by rw [← hrd]; exact (away hnw i hi).1), I.kn, (fun h => by rw [hlw] at h; cases h), fun _ => rfl, rfl⟩
        rw [← stAt_ent (sf := sf) he]
        have clear : ∀ (q : Nat) (x : Oper) (ex : Ent), opsA.toList[q]? = some x → es[q]? = some ex → q ≠ j → ((logD C B q ex.s x ex.wt ex.m).w = true → (q < j → ¬ Lst L q) ∧ (j < q → Lst L q)) → isNew x = true ∨ disj (readsOf e.s o) (logD C B q ex.s x ex.wt ex.m).tc = true := by
          intro q x ex hx hex hne hq
          cases hnx : isNew x with
          | true => exact .inl rfl
          | false =>
          refine .inr ?_
          cases hwq : (logD C B q ex.s x ex.wt ex.m).w with
          | false =>
            have : (logD C B q ex.s x ex.wt ex.m).tc = [] := by
              revert hwq
              unfold logD logE
              rw [hnx]
              cases ex.wt <;> cases isW C ex.s x <;> simp
            rw [this]
            exact List.all_eq_true.2 fun _ _ => rfl
          | true =>
            obtain ⟨h1, h2⟩ := hq hwq
            rcases Nat.lt_or_gt_of_ne hne with h3 | h3
            · rcases bef q x ex h3 hx hex with h | h
              · exact absurd h (h1 h3)
              · rw [← hrd]; exact (pairOk_spec h).2.2.1
            · rcases aft q x ex h3 hx hex with h | h
              · exact absurd (h2 h3) h
              · rw [← hrd]; exact (pairOk_spec h).2.1
        rcases Nat.le_total k j with h1 | h1
        · have := (agree_step D (ids := readsOf e.s o) (j - k) k (by omega) fun q x ex hq1 hq2 hx hex => clear q x ex hx hex (by omega) fun hwq => ⟨fun _ hl => by have := (I.kw q x ex hx hex hwq).1 hl; omega, fun h => by omega⟩).1
          rw [show k + (j - k) = j by omega] at this
          rw [stAt_ent he] at this ⊢
          exact this.symm
        · rcases Nat.eq_or_lt_of_le h1 with h2 | h2
          · subst h2; exact ⟨fun _ _ => rfl, fun _ _ => rfl⟩
          · have h0 : (stAt es sf (j + 1)).m = (stAt es sf j).m := by rw [hnm, stAt_ent he]; exact hme
            have := (agree_step D (ids := readsOf e.s o) (k - (j + 1)) (j + 1) (by have := I.kn; omega) fun q x ex hq1 hq2 hx hex => clear q x ex hx hex (by omega) fun hwq => ⟨fun h => by omega, fun _ => (I.kw q x ex hx hex hwq).2 (by omega)⟩).1
            rw [show j + 1 + (k - (j + 1)) = k by omega, h0] at this
            rw [stAt_ent he] at this ⊢
            exact this
    subst hm1
    let sR : S := ⟨(looks opsA.toList o).map fun t => (t, e.s.get t), memAt B opsA.toList es sf L k⟩
    have hget : ∀ t, sR.get t = if t ∈ looks opsA.toList o then e.s.get t else .undef := fun t => lookup_map _ _ _
    have FR : FrRel w (okOf ow sR.m) may ow sR a := by
      intro t
      rw [hget]
      split
      · rename_i ht; exact hlook t ht
      · trivial
    have hevR : evalOp C T sR o mk = some (e.v, memAt B opsA.toList es sf L k') := by
      rw [← hev']
      refine evalOp_opd C T (s := ⟨e.s.fr, memAt B opsA.toList es sf L k⟩) (s' := sR) rfl (fun x hx => ?_) mk
      cases x with
      | tmp t =>
        show (sR.get t).plain = _
        rw [hget, if_pos (opd_look hx)]
        rfl
      | const v => rfl
      | global g => rfl
      | func f => rfl
    obtain ⟨sv, m', h1, h2⟩ := evalOp_ok (s := sR) TK CK I.mem hL FR hevR
    simp only [mk, Option.some.injEq, Prod.mk.injEq] at h1
    obtain ⟨rfl, rfl⟩ := h1
    exact .inl (h2 K Q fun v w' ow' M' K' hv => fin k' hk' hk1 hk2 v w' ow' (by rw [hLk]; exact M') (by rw [hLk]; exact K') (by rw [hLk]; exact hv))
theorem all_listed {opsA : Array Oper} (D : DEnv P C T N B s0 opsA.toList es sf) (hsz : L.size = opsA.toList.length) (h : Region.ready .any opsA L = []) : ∀ i, i < opsA.toList.length → Lst L i := by
  intro i
  induction i using Nat.strongRecOn with
  | _ i ih =>
    intro hi
    have ho : opsA.toList[i]? = some opsA.toList[i] := List.getElem?_eq_getElem hi
    refine Classical.byContradiction fun hn => ?_
    have hmem : i ∈ Region.ready .any opsA L := by
      refine mem_ready.2 ⟨?_, opsA.toList[i], by simp, fun e he hb => ?_⟩
      · unfold Lst at hn
        have hlt : i < L.size := by omega
        simp [hlt] at hn ⊢; exact hn
      · have hlt : e.on < i := by
          have := List.all_eq_true.1 (D.edges i _ ho) e (by simpa using he)
          rw [hb] at this
          simpa using this
        exact ih e.on hlt (by omega)
    rw [h] at hmem
    cases hmem
theorem dall (TK : TabOk P T) (CK : CalsOk P C) {opsA : Array Oper} {Q : Exit → Act → World → Prop} (D : DEnv P C T N B s0 opsA.toList es sf) (hL : Live C may w0 ow0 m0)
    (hQ : ∀ a' w' ow', At P N may w0 ow0 m0 a0 sf a' w' ow' → Q .normal a' w') : ∀ (fuel : Nat) (L : Array Bool) (k : Nat) (a : Act) (w : World) (ow : Ow), L.toList.count false ≤ fuel → DInv P N B may w0 ow0 m0 a0 C opsA.toList es sf L k a w ow →
    wpAny P .any opsA Q fuel L a w := by
  have done : ∀ (L : Array Bool) (k : Nat) (a : Act) (w : World) (ow : Ow), DInv P N B may w0 ow0 m0 a0 C opsA.toList es sf L k a w ow → Region.ready .any opsA L = [] → Q .normal a w := by
    intro L k a w ow I h
    have hall := all_listed D I.size h
    have hlast : stAt es sf opsA.toList.length = sf := by simp [stAt, ← D.chain.len]
    have hmem : (stAt es sf opsA.toList.length).m = (stAt es sf k).m := mem_same D I.kn (Nat.le_refl _) fun q x ex h1 h2 hx hex => by
      cases hw : (logD C B q ex.s x ex.wt ex.m).w with
      | false => rfl
      | true => have := (I.kw q x ex hx hex hw).1 (hall q h2); omega
    have hno : ∀ i, hid B opsA.toList L i = false := fun i => by
      cases e : hid B opsA.toList L i with
      | false => rfl
      | true =>
        obtain ⟨q, x, _, hx, _, hl⟩ := hid_iff.1 e
        exact absurd (hall q (List.getElem?_eq_some_iff.1 hx).1) hl
    have hm2 : sf.m = memAt B opsA.toList es sf L k := by
      have h1 : sf.m = (stAt es sf k).m := by rw [← hmem, hlast]
      rw [memAt, ← h1]
      have : hid B opsA.toList L = fun _ => false := funext hno
      rw [this]
      have h3 : List.mapIdx (fun _ (b : Option Box) => b) sf.m.boxes = sf.m.boxes := List.ext_getElem? fun i => by simp
      simp [Mem.hide, wb, h3]
    refine hQ a w ow ⟨by rw [hm2]; exact I.mem, fun t => ?_, by rw [hm2]; exact I.keep, I.tsize, I.defers⟩
    have := I.slots opsA.toList.length (Nat.le_refl _) (fun h => absurd h (Nat.lt_irrefl _)) t (fun o ho => by simp at ho) (fun i o hi ho _ => hall i hi) fun i o hi ho _ => by
      have := (List.getElem?_eq_some_iff.1 ho).1
      omega
    rw [hlast, ← hm2] at this
    exact this
  intro fuel
  induction fuel with
  | zero =>
    intro L k a w ow hc I
    have hr : Region.ready .any opsA L = [] := by
      refine List.eq_nil_iff_forall_not_mem.2 fun i hi => ?_
      obtain ⟨hun, _⟩ := mem_ready.1 hi
      obtain ⟨hnl, hlt⟩ := listed_getD hun
      have : false ∈ L.toList := by
        have : L[i] = false := by simpa [hlt] using hun
        rw [← this]; simp
      have := List.count_pos_iff.2 this
      omega
    exact ⟨hr, done L k a w ow I hr⟩
  | succ fuel ih =>
    intro L k a w ow hc I
    refine ⟨fun hr => done L k a w ow I hr, fun i hi => ?_⟩
    refine dstep TK CK D (hL.keep I.keep) I hi fun k' a' w' ow' I' => ih _ _ _ _ _ ?_ I'
    obtain ⟨hun, _⟩ := mem_ready.1 hi
    obtain ⟨hnl, hlt⟩ := listed_getD hun
    have hval : L.toList[i]'(by simpa using hlt) = false := by simpa [hlt] using hun
    have h1 : (L.setIfInBounds i true).toList = L.toList.set i true := by simp
    rw [h1, List.count_set (h := by simpa using hlt)]
    have h2 : 0 < L.toList.count false := List.count_pos_iff.2 (by rw [← hval]; exact List.getElem_mem _)
    simp only [hval]
    simp only [beq_self_eq_true, if_true]
    have h3 : ((true == false) = true) = False := by simp
    simp only [h3, if_false]
    omega
theorem MemRel.drew {m : Mem} (M : MemRel w may ow m) (n : Nat) : MemRel { w with drawn := n } may ow m ∧ Keep may w ow m { w with drawn := n } ow m := by
  have S : Stay w (okOf ow m) { w with drawn := n } (okOf ow m) := fun b hb h => ⟨h, hb, rfl⟩
  refine ⟨⟨M.rlen, M.blen, fun i row e => ?_, fun i bx e => ?_, M.dis, M.may_, M.free⟩, ⟨S, fun _ _ h => h, fun _ _ h => h, fun r row' _ h => ⟨row', h, rfl, fun _ => rfl⟩, Nat.le_refl _, Nat.le_refl _, fun _ _ _ => rfl, rfl, rfl, rfl⟩⟩
  · obtain ⟨v, hv, RR⟩ := M.rows i row e
    exact ⟨v, hv, RR.keep S fun _ _ _ => rfl⟩
  · obtain ⟨g, hg, B⟩ := M.boxes i bx e
    exact ⟨g, hg, B.keep S (fun _ _ h => h) rfl⟩
theorem pad_hide {opsL : List Oper} {L0 : Array Bool} (hl : ∀ i, ¬ Lst L0 i) (s : S) : (s.pad T opsL).m.hide (hid s.m.boxes.length opsL L0) = ⟨s.m.rows, s.m.boxes ++ List.replicate opsL.length none⟩ := by
  simp only [S.pad, Mem.hide, wb]
  congr 1
  refine List.ext_getElem? fun i => ?_
  rw [List.getElem?_mapIdx]
  rcases Nat.lt_or_ge i s.m.boxes.length with h | h
  · rw [List.getElem?_append_left h, List.getElem?_append_left h]
    have : hid s.m.boxes.length opsL L0 i = false := by
      cases e : hid s.m.boxes.length opsL L0 i with
      | false => rfl
      | true => obtain ⟨q, x, rfl, _⟩ := hid_iff.1 e; omega
    rw [this]
    cases s.m.boxes[i]? <;> rfl
  · rw [List.getElem?_append_right h, List.getElem?_append_right h, List.getElem?_replicate]
    simp only [padOf, List.getElem?_map]
    cases ho : opsL[i - s.m.boxes.length]? with
    | none => rw [if_neg (by have := List.getElem?_eq_none_iff.1 ho; omega)]; rfl
    | some o =>
      rw [if_pos (List.getElem?_eq_some_iff.1 ho).1]
      cases hn : isNew o with
      | true =>
        have : hid s.m.boxes.length opsL L0 i = true := hid_iff.2 ⟨i - s.m.boxes.length, o, by omega, ho, hn, hl _⟩
        rw [this]; simp
      | false => cases hid s.m.boxes.length opsL L0 i <;> simp [hn]
theorem regionD_any (TK : TabOk P T) (CK : CalsOk P C) {ops : Array Oper} {N : Nat} {c : S → Option R} {Q : Exit → Act → World → Prop} (hm : Live C may w ow s.m) (M : MemRel w may ow s.m) (F : FrRel w (okOf ow s.m) may ow s a) (hN : a.tmps.size = N)
    (h : evalOpsD C T N s.m.boxes.length ops.toList ops.toList [] (s.pad T ops.toList) (fun lg s' => bif compat ops.toList lg then c s' else none) = some r) (hQ : ∀ s' a' w' ow', c s' = some r → At P N may w ow s.m a s' a' w' ow' → Q .normal a' w') : wpAny P .any ops Q ops.size (Array.replicate ops.size false) a { w with drawn := w.drawn + 1 } := by
  obtain ⟨es, sf, hch, h⟩ := evalOpsD_chain h
  obtain ⟨hc, h⟩ := cond_none h
  have hp := compat_spec hc
  rw [List.nil_append] at hp
  have D : DEnv P C T N s.m.boxes.length (s.pad T ops.toList) ops.toList es sf := ⟨hch, hp, fun j o ho hn => by
    show (⟨s.m.rows, s.m.boxes ++ padOf T ops.toList⟩ : Mem).box? _ = _
    rw [box?_app, if_neg (by omega), show s.m.boxes.length + j - s.m.boxes.length = j by omega]
    simp only [padOf, List.getElem?_map, ho, Option.map_some, hn, cond_true, Option.bind_some]
    rfl, by simp [S.pad, padOf]⟩
  obtain ⟨M0, K0⟩ := M.pad ops.toList.length
  obtain ⟨M1, K1⟩ := M0.drew (w.drawn + 1)
  have K1 := K0.trans K1
  have hf := hch.first
  have hno : ∀ i, ¬ Lst (Array.replicate ops.size false) i := fun i hl => by
    unfold Lst at hl
    by_cases hi : i < ops.size <;> simp [hi] at hl
  have hmem : memAt s.m.boxes.length ops.toList es sf (Array.replicate ops.size false) 0 = ⟨s.m.rows, s.m.boxes ++ List.replicate ops.toList.length none⟩ := by
    rw [memAt, hf.1]; exact pad_hide hno s
  refine dall (w0 := w) (ow0 := ow) (m0 := s.m) (a0 := a) TK CK D hm (fun a' w' ow' hA => hQ sf a' w' ow' h hA) ops.size _ 0 a { w with drawn := w.drawn + 1 } ⟨ow.rv, ow.bb ++ List.replicate ops.toList.length none⟩ ?_ ?_
  · simp
  · refine ⟨by simp, fun i o ho hl => absurd hl (hno i), Nat.zero_le _, fun i o e ho he hw => ⟨fun hl => absurd hl (hno i), fun hlt => by omega⟩, by rw [hmem]; exact M1, by rw [hmem]; exact K1, hN, rfl, fun j hj hl t hlk hbf haf => ?_⟩
    -- nobody ahead writes the slot
    have chain : ∀ n, n ≤ j → Ref (s.get t) ((stAt es sf n).get t) := by
      intro n
      induction n with
      | zero => exact fun _ => hf.2 t
      | succ n ih =>
        intro hn
        have ih := ih (by omega)
        have hlt : n < ops.toList.length := by omega
        have hoi : ops.toList[n]? = some ops.toList[n] := List.getElem?_eq_getElem hlt
        obtain ⟨ei, hei⟩ := D.ent hoi
        obtain ⟨_, _, hri⟩ := D.step hoi hei
        have hne : (ops.toList[n]).dst ≠ some t := fun hdi => absurd (hbf _ _ (by omega) hoi hdi) (hno _)
        have := hri t
        rw [get_put, if_neg hne] at this
        rw [stAt_ent hei] at ih
        exact ih.trans this
    have h1 := SVRel.keep K1 (F t)
    rw [hmem]
    exact (chain j (Nat.le_refl _)).rel h1
theorem regionD_ok (TK : TabOk P T) (CK : CalsOk P C) (hmix : P.follows .mixedOrders = true) {id : Nat} {ops : Array Oper} {N : Nat} {c : S → Option R} {Q : Exit → Act → World → Prop} (hm : Live C may w ow s.m) (M : MemRel w may ow s.m) (F : FrRel w (okOf ow s.m) may ow s a) (hN : a.tmps.size = N)
    (h : evalOpsD C T N s.m.boxes.length ops.toList ops.toList [] (s.pad T ops.toList) (fun lg s' => bif compat ops.toList lg then c s' else none) = some r) (hQ : ∀ s' a' w' ow', c s' = some r → At P N may w ow s.m a s' a' w' ow' → Q .normal a' w') : (Code.region id ops true).wp P Q a w :=
  wp_region_any hmix (regionD_any TK CK hm M F hN h hQ)
end
end
end Go.Fx
