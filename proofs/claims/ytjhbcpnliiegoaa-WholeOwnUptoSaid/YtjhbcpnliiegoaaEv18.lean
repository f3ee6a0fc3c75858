/- A whole function: its code, its loops, its results. -/
import Derived.Test.YtjhbcpnliiegoaaEv17
namespace Go.Fx
open Go Go.RowKit
set_option linter.unusedVariables false
set_option linter.unusedSimpArgs false
def Fits (pts : Nat → List Item) : Code → List Item → Prop
  | .seq a b, r => Fits pts a (.code b :: r) ∧ Fits pts b r
  | .cond _ a b, r => Fits pts a r ∧ Fits pts b r
  | .block id a, r => Fits pts a (.inBlock id :: r)
  | .loop a, r => pts (tag a) = .code a :: .inLoop a :: r ∧ Fits pts a (.inLoop a :: r)
  | _, _ => True
def FitsL (pts : Nat → List Item) : List Item → Prop
  | [] => True
  | .code c :: r => Fits pts c r ∧ FitsL pts r
  | .inLoop a :: r => (pts (tag a) = .code a :: .inLoop a :: r ∧ Fits pts a (.inLoop a :: r)) ∧ FitsL pts r
  | _ :: r => FitsL pts r
theorem FitsL.tail {pts : Nat → List Item} : ∀ {x : Item} {r : List Item}, FitsL pts (x :: r) → FitsL pts r := by
  intro x r h
  cases x <;> first | exact h.2 | exact h
theorem FitsL.exit {pts : Nat → List Item} {id : Nat} : ∀ {k k' : List Item}, FitsL pts k → exitTo id k = some k' → FitsL pts k'
  | [], k', h, e => by simp [exitTo] at e
  | x :: r, k', h, e => by
    have ht := FitsL.tail h
    have : (exitTo id (x :: r) = some r) ∨ exitTo id (x :: r) = exitTo id r := by
      cases x <;> simp only [exitTo] <;> first | exact .inr trivial | (split <;> simp) | exact .inr rfl
    rcases this with h1 | h1
    · rw [h1] at e; obtain rfl := Option.some.inj e; exact ht
    · rw [h1] at e; exact FitsL.exit ht e
def loopTags : Code → List Nat
  | .seq a b => loopTags a ++ loopTags b
  | .cond _ a b => loopTags a ++ loopTags b
  | .block _ a => loopTags a
  | .loop a => tag a :: loopTags a
  | _ => []
theorem noDup_append {x y : List Nat} (h : noDup (x ++ y) = true) : noDup x = true ∧ noDup y = true ∧ ∀ j, j ∈ x → j ∉ y := by
  induction x with
  | nil => exact ⟨rfl, h, fun j hj => by simp at hj⟩
  | cons a x ih =>
    simp only [List.cons_append, noDup, Bool.and_eq_true, Bool.not_eq_true', List.any_eq_false] at h
    obtain ⟨h1, h2, h3⟩ := ih h.2
    refine ⟨?_, h2, fun j hj hy => ?_⟩
    · simp only [noDup, Bool.and_eq_true, Bool.not_eq_true', List.any_eq_false]
      exact ⟨fun b hb => h.1 b (List.mem_append_left _ hb), h1⟩
    · rcases List.mem_cons.1 hj with rfl | hj
      · exact h.1 j (List.mem_append_right _ hy) (Nat.beq_refl j)
      · exact h3 j hj hy
theorem ptsC_none {j : Nat} : ∀ {c : Code} {r : List Item}, j ∉ loopTags c → ptsC j c r = none := by
  intro c
  induction c with
  | seq a b iha ihb => intro r h; simp only [loopTags, List.mem_append, not_or] at h; simp [ptsC, iha h.1, ihb h.2]
  | cond q a b iha ihb => intro r h; simp only [loopTags, List.mem_append, not_or] at h; simp [ptsC, iha h.1, ihb h.2]
  | block id a iha => intro r h; simp only [loopTags] at h; simp [ptsC, iha h]
  | loop a iha =>
    intro r h
    simp only [loopTags, List.mem_cons, not_or] at h
    have : Nat.beq (tag a) j = false := by cases hb : Nat.beq (tag a) j with | false => rfl | true => exact absurd (Nat.eq_of_beq_eq_true hb).symm h.1
    simp [ptsC, this, iha h.2]
  | _ => intro r h; rfl
theorem fits_of {pts : Nat → List Item} : ∀ {c : Code} {r : List Item}, noDup (loopTags c) = true → (∀ j x, ptsC j c r = some x → pts j = x) → Fits pts c r := by
  intro c
  have mem : ∀ {j : Nat} {c : Code} {r x : List Item}, ptsC j c r = some x → j ∈ loopTags c := by
    intro j c r x h
    by_cases hj : j ∈ loopTags c
    · exact hj
    · rw [ptsC_none hj] at h; cases h
  induction c with
  | seq a b iha ihb =>
    intro r hd h
    obtain ⟨h1, h2, h3⟩ := noDup_append hd
    refine ⟨iha h1 fun j x hj => h j x (by simp [ptsC, hj]), ihb h2 fun j x hj => h j x ?_⟩
    have : j ∉ loopTags a := fun ha => h3 j ha (mem hj)
    simp [ptsC, ptsC_none this, hj]
  | cond q a b iha ihb =>
    intro r hd h
    obtain ⟨h1, h2, h3⟩ := noDup_append hd
    refine ⟨iha h1 fun j x hj => h j x (by simp [ptsC, hj]), ihb h2 fun j x hj => h j x ?_⟩
    have : j ∉ loopTags a := fun ha => h3 j ha (mem hj)
    simp [ptsC, ptsC_none this, hj]
  | block id a iha => intro r hd h; exact iha hd fun j x hj => h j x (by simpa [ptsC] using hj)
  | loop a iha =>
    intro r hd h
    simp only [loopTags, noDup, Bool.and_eq_true, Bool.not_eq_true', List.any_eq_false] at hd
    refine ⟨h _ _ (by simp [ptsC]), iha hd.2 fun j x hj => h j x ?_⟩
    have : Nat.beq (tag a) j = false := by
      cases hb : Nat.beq (tag a) j with
      | false => rfl
      | true => exact absurd hb (hd.1 j (mem hj))
    simp [ptsC, this, hj]
  | _ => intro r hd h; trivial
section
variable {R : Type} {P : Program} {T : Tab} {C : Cals} {may : Nat → Prop} {r : R}
/-- What was there is as it was (fz: what must stay). -/
structure Base (fz : Nat → Prop) (w0 w : World) (ok : Nat → Prop) : Prop where
  size : w0.heap.size ≤ w.heap.size
  frame : ∀ b, b < w0.heap.size → fz b → ok b ∧ w.heap[b]? = w0.heap[b]?
  os : w.os = w0.os
  tape : w.tape = w0.tape
  output : w.output = w0.output
theorem Base.keep {fz : Nat → Prop} {w0 w w' : World} {ow ow' : Ow} {m m' : Mem} (h : Base fz w0 w (okOf ow m)) (K : Keep may w ow m w' ow' m') : Base fz w0 w' (okOf ow' m') :=
  ⟨Nat.le_trans h.size K.size, fun b hb hm => by
    obtain ⟨h1, h2⟩ := h.frame b hb hm
    obtain ⟨h3, _, h4⟩ := K.stay b (Nat.lt_of_lt_of_le hb h.size) h1
    exact ⟨h3, h4.trans h2⟩, K.os.trans h.os, K.tape.trans h.tape, K.output.trans h.output⟩
structure Inv (fz may : Nat → Prop) (N : Nat) (w0 : World) (s : S) (a : Act) (w : World) (ow : Ow) : Prop where
  mem : MemRel w may ow s.m
  fr : FrRel w (okOf ow s.m) may ow s a
  size : a.tmps.size = N
  defers : a.defers = []
  base : Base fz w0 w (okOf ow s.m)
theorem Inv.at {fz : Nat → Prop} {N : Nat} {w0 w w' : World} {s s' : S} {a a' : Act} {ow ow' : Ow} (h : Inv fz may N w0 s a w ow) (k : At P N may w ow s.m a s' a' w' ow') : Inv fz may N w0 s' a' w' ow' :=
  ⟨k.mem, k.fr, k.size, k.defers.trans h.defers, h.base.keep k.keep⟩
/-- What holds of the world in which a call begins. -/
structure Live0 (C : Cals) (may fz : Nat → Prop) (w : World) : Prop where
  new : ∀ b, w.heap.size ≤ b → may b
  tab : ∀ g tb, C.tabs g = some tb → Laid w g tb ∧ fz g
theorem Inv.new {fz : Nat → Prop} {N : Nat} {w0 w : World} {s : S} {a : Act} {ow : Ow} (h : Inv fz may N w0 s a w ow) (hm : Live0 C may fz w0) : Live C may w ow s.m :=
  ⟨fun b hb => hm.new b (Nat.le_trans h.base.size hb), fun g tb e => by
    obtain ⟨h1, h2⟩ := hm.tab g tb e
    refine ⟨Nat.lt_of_lt_of_le h1.1 h.base.size, fun j x hx => ?_⟩
    have := h1.2 j x hx
    exact (World.cell?_of_block (by rw [Addr.add_block]; exact (h.base.frame g h1.1 h2).2)).trans this, fun g tb e => (h.base.frame g (hm.tab g tb e).1.1 (hm.tab g tb e).2).1⟩
def Ends (P : Program) (b : Frame) (cs : List Frame) (Post : Act → World → Prop) (items : List Item) (a : Act) (w : World) : Prop :=
  ∃ todo a' w', Steps P (lone (b.at a items) cs w) (lone { b.at a' todo with mode := .returning } cs w') ∧ Post a' w'
theorem Ends.step {b : Frame} {cs : List Frame} {Post : Act → World → Prop} {i i' : List Item} {a a' : Act} {w w' : World} (h : Steps P (lone (b.at a i) cs w) (lone (b.at a' i') cs w')) (k : Ends P b cs Post i' a' w') : Ends P b cs Post i a w := by
  obtain ⟨todo, a2, w2, h1, h2⟩ := k
  exact ⟨todo, a2, w2, h.trans h1, h2⟩
theorem go_ok (TK : TabOk P T) (CK : CalsOk P C) (hmix : P.follows .mixedOrders = true) {b : Frame} {cs : List Frame} {Post : Act → World → Prop} {N : Nat} {w0 : World} {fz : Nat → Prop} (hm : Live0 C may fz w0) {sh : Nat → List (Nat × CS)} {fin : S → Option R} {pts : Nat → List Item}
    {A : Nat → S → Option R} (hA : ∀ j s a w ow, FitsL pts (pts j) → A j s = some r → Inv fz may N w0 s a w ow → Ends P b cs Post (pts j) a w) (hfin : ∀ s a w ow, fin s = some r → Inv fz may N w0 s a w ow → Post a w) :
    ∀ (n : Nat) (items : List Item) (s : S) (a : Act) (w : World) (ow : Ow), FitsL pts items → go ⟨C, T, N, sh, fin⟩ A n items s = some r → Inv fz may N w0 s a w ow → Ends P b cs Post items a w := by
  have hcross : ∀ (c : Code) (k : List Item) (s : S) (a : Act) (w : World) (ow : Ow), pts (tag c) = .code c :: .inLoop c :: k → FitsL pts (.code c :: .inLoop c :: k) → cross ⟨C, T, N, sh, fin⟩ A (tag c) s = some r → Inv fz may N w0 s a w ow →
      Ends P b cs Post (.code c :: .inLoop c :: k) a w := by
    intro c k s a w ow hp hf h I
    unfold cross at h
    split at h
    case h_2 => cases h
    rename_i s' hs
    obtain ⟨ow', M', F', hk⟩ := restr_ok I.mem I.fr hs
    rw [← hp]
    exact hA _ s' a w ow' (by rw [hp]; exact hf) h ⟨M', F', I.size, I.defers, I.base.size, fun b hb hz => ⟨hk b (Nat.lt_of_lt_of_le hb I.base.size) (I.base.frame b hb hz).1, (I.base.frame b hb hz).2⟩, I.base.os, I.base.tape, I.base.output⟩
  intro n
  induction n with
  | zero => intro items s a w ow _ h; simp [go] at h
  | succ n ih =>
    intro items s a w ow hf h I
    cases items with
    | nil =>
      simp only [go] at h
      exact ⟨[], a, w, .one step_end, hfin s a w ow h I⟩
    | cons x k =>
      cases x <;> simp only [go] at h <;> try (cases h; done)
      case code c =>
        cases c <;> simp only [] at h <;> try (cases h; done)
        case skip => exact .step (.one step_skip) (ih _ _ _ _ _ hf.2 h I)
        case seq x y => exact .step (.one step_seq) (ih _ _ _ _ _ ⟨hf.1.1, hf.1.2, hf.2⟩ h I)
        case region id ops d =>
          cases d with
          | false =>
            simp only [cond_false] at h
            obtain ⟨e, a', w', ⟨rfl, s', ow', h1, I'⟩, harr⟩ := region_ok (P := P) (id := id) (c := fun s' => go ⟨C, T, N, sh, fin⟩ A n k s') (Q := fun e a' w' => e = .normal ∧ ∃ s' ow', go ⟨C, T, N, sh, fin⟩ A n k s' = some r ∧ Inv fz may N w0 s' a' w' ow')
              TK CK (I.new hm) I.mem I.fr I.size h (fun s' a' w' ow' h1 h2 => ⟨rfl, s', ow', h1, I.at h2⟩) b k cs
            exact .step harr (ih _ _ _ _ _ hf.2 h1 I')
          | true =>
            simp only [cond_true] at h
            obtain ⟨e, a', w', ⟨rfl, s', ow', h1, I'⟩, harr⟩ := regionD_ok (P := P) (id := id) (c := fun s' => go ⟨C, T, N, sh, fin⟩ A n k s') (Q := fun e a' w' => e = .normal ∧ ∃ s' ow', go ⟨C, T, N, sh, fin⟩ A n k s' = some r ∧ Inv fz may N w0 s' a' w' ow')
              TK CK hmix (I.new hm) I.mem I.fr I.size h (fun s' a' w' ow' h1 h2 => ⟨rfl, s', ow', h1, I.at h2⟩) b k cs
            exact .step harr (ih _ _ _ _ _ hf.2 h1 I')
        case cond x y z =>
          cases hb : (s.opd x).bool? with
          | none => simp [hb] at h
          | some t =>
            simp only [hb] at h
            have hv := bool?_rel (opd_rel I.fr x) hb
            have I' : ∀ t', t = t' → Inv fz may N w0 (s.refine x t') a w ow := by
              rintro _ rfl
              exact ⟨by rw [refine_m]; exact I.mem, by rw [refine_m]; exact FrRel.refine (m := s.m) I.fr hb, I.size, I.defers, by rw [refine_m]; exact I.base⟩
            cases t with
            | true => exact .step (.one (step_cond hv)) (ih _ _ _ _ _ ⟨hf.1.1, hf.2⟩ h (I' true rfl))
            | false => exact .step (.one (step_cond hv)) (ih _ _ _ _ _ ⟨hf.1.2, hf.2⟩ h (I' false rfl))
        case block id c => exact .step (.one step_block) (ih _ _ _ _ _ ⟨hf.1, hf.2⟩ h I)
        case loop c => exact .step (.one step_loop) (hcross c k s a w ow hf.1.1 ⟨hf.1.2, hf.1, hf.2⟩ h I)
        case exit id =>
          cases hk : exitTo id k with
          | none => simp [hk] at h
          | some k' =>
            simp only [hk] at h
            exact .step (.one (step_exit hk)) (ih _ _ _ _ _ (FitsL.exit hf.2 hk) h I)
        case ret => exact ⟨_, a, w, .one step_ret, hfin s a w ow h I⟩
      case inBlock id => exact .step (.one step_inBlock) (ih _ _ _ _ _ hf h I)
      case inLoop c => exact .step (.one step_inLoop) (hcross c k s a w ow hf.1.1 ⟨hf.1.2, hf⟩ h I)
theorem heads_ok (TK : TabOk P T) (CK : CalsOk P C) (hmix : P.follows .mixedOrders = true) {b : Frame} {cs : List Frame} {Post : Act → World → Prop} {N : Nat} {w0 : World} {fz : Nat → Prop} (hm : Live0 C may fz w0) {sh : Nat → List (Nat × CS)} {fin : S → Option R} {pts : Nat → List Item}
    (hfin : ∀ s a w ow, fin s = some r → Inv fz may N w0 s a w ow → Post a w) :
    ∀ (k j : Nat) (s : S) (a : Act) (w : World) (ow : Ow), FitsL pts (pts j) → heads ⟨C, T, N, sh, fin⟩ pts k j s = some r → Inv fz may N w0 s a w ow → Ends P b cs Post (pts j) a w
  | 0, j, s, a, w, ow, hf, h, I => by simp [heads] at h
  | k + 1, j, s, a, w, ow, hf, h, I => go_ok TK CK hmix hm (fun j s a w ow hf h I => heads_ok TK CK hmix hm hfin k j s a w ow hf h I) hfin _ _ _ _ _ _ hf h I
end
end Go.Fx
