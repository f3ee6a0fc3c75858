/- Pieces of code, read up to a place where a walk by hand goes on. -/
import Derived.Test.YtjhbcpnliiegoaaWA
import Derived.BigFrame
namespace Go.Fx
open Go Go.RowKit
set_option linter.unusedVariables false
set_option linter.unusedSimpArgs false
/-- A region after which the function returns. -/
def isStop (j : Nat) : Code → Bool
  | .seq (.region id _ _) .ret => Nat.beq id j
  | _ => false
def occ (j : Nat) : Code → List Code
  | .seq a b => bif isStop j (.seq a b) then [.seq a b] else occ j a ++ occ j b
  | .cond _ a b => occ j a ++ occ j b
  | .block _ a => occ j a
  | _ => []
inductive OutS where
  | nrm (vs : List SV) (m : Mem)
  | stp (vs : List SV) (m : Mem)
def goS (C : Cals) (T : Tab) (N j : Nat) (ts : List Nat) : Nat → Code → S → (S → Option OutS) → (Nat → S → Option OutS) → Option OutS
  | 0, _, _, _, _ => none
  | n + 1, c, s, k, x => bif isStop j c then some (.stp (ts.map s.get) s.m.trim) else match c with
    | .skip => k s
    | .seq a b => goS C T N j ts n a s (fun s' => goS C T N j ts n b s' k x) x
    | .region _ ops d => bif d then evalOpsD C T N s.m.boxes.length ops.toList ops.toList [] (s.pad T ops.toList) (fun lg s' => bif compat ops.toList lg then k s' else none) else evalOps C T N ops.toList ops.toList s k
    | .block id a => goS C T N j ts n a s k (fun i s' => bif Nat.beq i id then k s' else x i s')
    | .cond y a b => match (s.opd y).bool? with
      | some t => bif t then goS C T N j ts n a (s.refine y true) k x else goS C T N j ts n b (s.refine y false) k x
      | none => none
    | .exit id => x id s
    | _ => none
section
variable {P : Program} {T : Tab} {C : Cals} {w w' : World} {may : Nat → Prop} {ow ow' : Ow} {m : Mem} {s : S} {a : Act} {r : OutS}
theorem goS_ok (TK : TabOk P T) (CK : CalsOk P C) (hmix : P.follows .mixedOrders = true) {N j : Nat} {ts : List Nat} {D : Code} {KR : Act → World → Prop} {w0 : World} {ow0 : Ow} {m0 : Mem} {a0 : Act} (hD : ∀ s a w ow, r = .stp (ts.map s.get) s.m.trim → At P N may w0 ow0 m0 a0 s a w ow → Live C may w ow s.m → a.defers = [] → D.wp P (fun e a w => e = .ret ∧ KR a w) a w) :
    ∀ (n : Nat) (code : Code) (s : S) (a : Act) (w : World) (ow : Ow) (k : S → Option OutS) (x : Nat → S → Option OutS) (Q : Exit → Act → World → Prop), (∀ c ∈ occ j code, c = D) → (∀ a w, KR a w → Q .ret a w) → At P N may w0 ow0 m0 a0 s a w ow → Live C may w ow s.m → MemRel w may ow s.m → FrRel w (okOf ow s.m) may ow s a → a.tmps.size = N → a.defers = [] →
    goS C T N j ts n code s k x = some r → (∀ s' a' w' ow', k s' = some r → At P N may w ow s.m a s' a' w' ow' → Q .normal a' w') →
    (∀ i s' a' w' ow', x i s' = some r → At P N may w ow s.m a s' a' w' ow' → Q (.exit i) a' w') → code.wp P Q a w
  | 0, code, s, a, w, ow, k, x, Q, ho, hr, A0, hm, M, F, hN, hdf, h, hk, hx => by simp [goS] at h
  | n + 1, code, s, a, w, ow, k, x, Q, ho, hr, A0, hm, M, F, hN, hdf, h, hk, hx => by
    cases hs : isStop j code with
    | true =>
      simp only [goS, hs, cond_true] at h
      have hc : code = D := ho code (by
        cases code <;> simp only [isStop] at hs <;> try (cases hs; done)
        case seq y z => simp only [occ, isStop, hs, cond_true, List.mem_singleton])
      rw [hc]
      exact wp_mono (hD s a w ow (Option.some.inj h).symm A0 hm hdf) fun e a w he => by rw [he.1]; exact hr a w he.2
    | false =>
    simp only [goS, hs, cond_false] at h
    cases code <;> simp only [] at h <;> try (cases h; done)
    case skip => exact wp_skip (hk s a w ow h (At.refl M F hN))
    case seq y z =>
      simp only [occ, hs, cond_false, List.mem_append] at ho
      refine wp_seq (goS_ok TK CK hmix hD n y s a w ow _ x _ (fun c hc => ho c (.inl hc)) hr A0 hm M F hN hdf h (fun s' a' w' ow' h' A => ?_) fun i s' a' w' ow' h' A => hx i s' a' w' ow' h' A)
      exact goS_ok TK CK hmix hD n z s' a' w' ow' k x Q (fun c hc => ho c (.inr hc)) hr (A0.trans A) (hm.keep A.keep) A.mem A.fr A.size (A.defers.trans hdf) h' (fun s2 a2 w2 ow2 h2 A2 => hk s2 a2 w2 ow2 h2 (A.trans A2)) fun i s2 a2 w2 ow2 h2 A2 => hx i s2 a2 w2 ow2 h2 (A.trans A2)
    case region id ops d =>
      cases d with
      | true => exact regionD_ok TK CK hmix hm M F hN h hk
      | false => exact region_ok TK CK hm M F hN h hk
    case block id c =>
      simp only [occ] at ho
      refine wp_block (goS_ok TK CK hmix hD n c s a w ow k _ _ ho hr A0 hm M F hN hdf h (fun s' a' w' ow' h' A => hk s' a' w' ow' h' A) fun i s' a' w' ow' h' A => ?_)
      by_cases e : i = id
      · subst e
        rw [Nat.beq_refl] at h'
        simp only [Exit.inBlock, if_true]
        exact hk s' a' w' ow' h' A
      · have e2 : Nat.beq i id = false := by cases hb : Nat.beq i id with | false => rfl | true => exact absurd (Nat.eq_of_beq_eq_true hb) e
        rw [e2] at h'
        simp only [Exit.inBlock, e, if_false]
        exact hx i s' a' w' ow' h' A
    case cond y c1 c2 =>
      simp only [occ, List.mem_append] at ho
      cases hb : (s.opd y).bool? with
      | none => simp [hb] at h
      | some t =>
        simp only [hb] at h
        have hv := bool?_rel (opd_rel F y) hb
        have F' := FrRel.refine (m := s.m) F hb
        have e := refine_m s y t
        have tr : ∀ {s' : S} {a' : Act} {w' : World} {ow' : Ow}, At P N may w ow (s.refine y t).m a s' a' w' ow' → At P N may w ow s.m a s' a' w' ow' := fun A => by rw [e] at A; exact A
        have A1 : At P N may w0 ow0 m0 a0 (s.refine y t) a w ow := ⟨by rw [e]; exact M, by rw [e]; exact F', by rw [e]; exact A0.keep, hN, A0.defers⟩
        cases t with
        | true => exact wp_cond hv (goS_ok TK CK hmix hD n c1 _ a w ow k x Q (fun c hc => ho c (.inl hc)) hr A1 (by rw [e]; exact hm) (by rw [e]; exact M) (by rw [e]; exact F') hN hdf h (fun s' a' w' ow' h' A => hk s' a' w' ow' h' (tr A)) fun i s' a' w' ow' h' A => hx i s' a' w' ow' h' (tr A))
        | false => exact wp_cond hv (goS_ok TK CK hmix hD n c2 _ a w ow k x Q (fun c hc => ho c (.inr hc)) hr A1 (by rw [e]; exact hm) (by rw [e]; exact M) (by rw [e]; exact F') hN hdf h (fun s' a' w' ow' h' A => hk s' a' w' ow' h' (tr A)) fun i s' a' w' ow' h' A => hx i s' a' w' ow' h' (tr A))
    case exit i => exact wp_exit (hx i s a w ow h (At.refl M F hN))
/-- The same, told by Stand. -/
theorem goS_to (TK : TabOk P T) (CK : CalsOk P C) (hmix : P.follows .mixedOrders = true) {N j n : Nat} {ts : List Nat} {D code : Code} {Q : Exit → Act → World → Prop} (I : Stand C N may s a w ow) (ho : ∀ c ∈ occ j code, c = D)
    (h : goS C T N j ts n code s (fun s' => some (.nrm (ts.map s'.get) s'.m.trim)) (fun _ _ => none) = some r)
    (hN : ∀ vs m' a' w' ow', r = .nrm vs m' → Stand C N may ⟨kin ts vs, m'⟩ a' w' ow' → Keep may w ow s.m w' ow' m' → Q .normal a' w')
    (hS : ∀ vs m' a' w' ow', r = .stp vs m' → Stand C N may ⟨kin ts vs, m'⟩ a' w' ow' → Keep may w ow s.m w' ow' m' → D.wp P (fun e a w => e = .ret ∧ Q .ret a w) a' w') : code.wp P Q a w :=
  goS_ok TK CK hmix (KR := fun a w => Q .ret a w) (fun s' a' w' ow' e A hL hd => by obtain ⟨h1, h2⟩ := A.out I.live I.defers ts; exact hS _ _ a' w' _ e h1 h2) n code s a w ow _ _ Q ho (fun _ _ h => h) (At.refl I.mem I.fr I.size) I.live I.mem I.fr I.size I.defers h
    (fun s' a' w' ow' e A => by obtain ⟨h1, h2⟩ := A.out I.live I.defers ts; exact hN _ _ a' w' _ (Option.some.inj e).symm h1 h2) fun i s' a' w' ow' e A => by cases e
end
abbrev nilV : Value := .slice none 0 0
def hdLeaf (rv : List Value) : Leaf → Leaf
  | .own r => .val true .hd (rv.getD r nilV)
  | .nil => .val true .hd nilV
  | l => l
def hdC (rv : List Value) : Cmp → Cmp
  | .lf l => .lf (hdLeaf rv l)
  | .agg ls => .agg (ls.map (hdLeaf rv))
def hdSV (rv : List Value) : SV → SV
  | .one c => .one (hdC rv c)
  | .box b o => .box b o
  | _ => .undef
def hdBox (rv : List Value) (b : Option Box) : Option Box := b.map fun bx => ⟨bx.t, bx.ls.map (hdLeaf rv)⟩
section
variable {P : Program} {C : Cals} {N : Nat} {w w' : World} {may : Nat → Prop} {ow ow' : Ow} {m : Mem} {s : S} {a : Act}
theorem okOf_drop {b : Nat} {bs : List (Option Box)} (h : okOf ow m b) (hb : m.boxes = bs) : okOf ⟨[], ow.bb⟩ ⟨[], bs.map (hdBox ow.rv)⟩ b := fun x hx => by
  subst hb
  cases x with
  | row i => simp [blk, Mem.row?] at hx
  | box i =>
    refine h (.box i) ?_
    simp only [blk] at hx ⊢
    have e : (⟨[], m.boxes.map (hdBox ow.rv)⟩ : Mem).box? i = (m.box? i).map fun bx => ⟨bx.t, bx.ls.map (hdLeaf ow.rv)⟩ := by
      simp only [Mem.box?, List.getElem?_map]
      cases h1 : m.boxes[i]? with
      | none => rfl
      | some o => cases o <;> rfl
    rw [e] at hx
    cases h1 : m.box? i with
    | none => rw [h1] at hx; cases hx
    | some bx => rw [h1] at hx; exact hx
theorem hdLeaf_rel {ok : Nat → Prop} (hok : ∀ b, okOf ow m b → ok b) {l : Leaf} {v : Value} (h : LfRel w (okOf ow m) may ow l v) : LfRel w ok may ow' (hdLeaf ow.rv l) v := by
  cases l with
  | val f k x => exact Rd.mono (fun b h => ⟨hok b h.1, h.2⟩) (h : Rd _ _ _ _ _)
  | nil =>
    have h : v = nilV := h
    show [v] = [nilV] ∧ _
    exact ⟨by rw [h], _, _, _, rfl⟩
  | own r =>
    obtain ⟨h1, h2⟩ := h
    show [v] = [ow.rv.getD r nilV] ∧ _
    have e : ow.rv.getD r nilV = v := by rw [List.getD_eq_getElem?_getD, h1]; rfl
    rw [e]
    exact ⟨rfl, h2⟩
theorem box?_hd (i : Nat) (rv : List Value) : (⟨[], m.boxes.map (hdBox rv)⟩ : Mem).box? i = (m.box? i).map fun bx => ⟨bx.t, bx.ls.map (hdLeaf rv)⟩ := by
  simp only [Mem.box?, List.getElem?_map]
  cases h1 : m.boxes[i]? with
  | none => rfl
  | some o => cases o <;> rfl
theorem Stand.hd {fr : List (Nat × SV)} {rows : List (Option Row)} {bs : List (Option Box)} (I : Stand C N may ⟨fr, ⟨rows, bs⟩⟩ a w ow) (hT : C.tabs = fun _ => none) : Stand C N may ⟨fr.map fun q => (q.1, hdSV ow.rv q.2), ⟨[], bs.map (hdBox ow.rv)⟩⟩ a w ⟨[], ow.bb⟩ := by
  have hok : ∀ b, okOf ow ⟨rows, bs⟩ b → okOf ⟨[], ow.bb⟩ ⟨[], bs.map (hdBox ow.rv)⟩ b := fun b h => okOf_drop h rfl
  have M := I.mem
  have hblk : ∀ x b, blk ⟨[], ow.bb⟩ ⟨[], bs.map (hdBox ow.rv)⟩ x = some b → ∃ i, x = .box i ∧ blk ow ⟨rows, bs⟩ x = some b := fun x b h => by
    cases x with
    | row i => simp [blk, Mem.row?] at h
    | box i =>
      refine ⟨i, rfl, ?_⟩
      simp only [blk] at h ⊢
      rw [box?_hd (m := ⟨rows, bs⟩)] at h
      cases h1 : (⟨rows, bs⟩ : Mem).box? i with
      | none => rw [h1] at h; cases h
      | some bx => rw [h1] at h; exact h
  refine ⟨⟨I.live.new, (fun g tb e => by rw [hT] at e; cases e), (fun g tb e => by rw [hT] at e; cases e)⟩, ⟨rfl, ?_, fun i row e => by simp [Mem.row?] at e, fun i bx e => ?_, fun x y b h1 h2 => ?_, fun x b h => ?_, fun i hi e => ?_⟩, fun t => ?_, I.size, I.defers⟩
  · simp only [List.length_map]; exact M.blen
  · rw [box?_hd (m := ⟨rows, bs⟩)] at e
    obtain ⟨bx0, h1, rfl⟩ := Option.map_eq_some_iff.1 e
    obtain ⟨g, hg, vs, hv, hF⟩ := M.boxes i bx0 h1
    exact ⟨g, hg, vs, hv, F2.map_left.2 (hF.imp fun l v h => hdLeaf_rel hok h)⟩
  · obtain ⟨_, _, h3⟩ := hblk x b h1
    obtain ⟨_, _, h4⟩ := hblk y b h2
    exact M.dis x y b h3 h4
  · obtain ⟨_, _, h3⟩ := hblk x b h
    exact M.may_ x b h3
  · rw [box?_hd (m := ⟨rows, bs⟩)] at e
    simp only [List.length_map] at hi
    refine M.free i hi ?_
    cases h1 : (⟨rows, bs⟩ : Mem).box? i with
    | none => rfl
    | some bx => rw [h1] at e; cases e
  · have key : ∀ fr : List (Nat × SV), (lookup (fr.map fun q => (q.1, hdSV ow.rv q.2)) t) = hdSV ow.rv (lookup fr t) := fun fr => by
      induction fr with
      | nil => rfl
      | cons q r ih =>
        obtain ⟨t', v⟩ := q
        simp only [List.map_cons, lookup]
        cases Nat.beq t' t with
        | true => rfl
        | false => exact ih
    show SVRel w _ may _ _ (lookup (fr.map fun q => (q.1, hdSV ow.rv q.2)) t) _
    rw [key]
    have h : SVRel w (okOf ow ⟨rows, bs⟩) may ow ⟨rows, bs⟩ (lookup fr t) (a.tmps.getD t undef) := I.fr t
    cases hl : lookup fr t with
    | one c =>
      rw [hl] at h
      cases c with
      | lf l => exact hdLeaf_rel hok (h : LfRel _ _ _ _ _ _)
      | agg ls => obtain ⟨vs, e, hF⟩ := h; exact ⟨vs, e, F2.map_left.2 (hF.imp fun l v h => hdLeaf_rel hok h)⟩
    | box b o => rw [hl] at h; exact h
    | _ => trivial
end
section
variable {P : Program} {C : Cals} {N : Nat} {w w' : World} {may : Nat → Prop} {ow ow' : Ow} {m : Mem} {s : S} {a a' : Act}
theorem wp_call_hand {o : Oper} {K : Act → World → Prop} {Q : Exit → Act → World → Prop} {q : Call} {g : FuncId} (ho : o.op = .call q) (hB : Body P g) (hg : q.callee = .value (.func g)) {vs : List Value} (hv : q.args.toList.map a.eval = vs)
    (h : Calls P g vs.toArray w fun e w' => ∃ v, e = .returned v ∧ K (a.put o.dst v) w') : o.wp P a w K Q := by
  unfold Oper.wp
  rw [body_enter ho hB hg, Oper.upon_enter, hv]
  exact h.mono fun e w' ⟨v, he, hk⟩ => by subst he; exact hk
theorem Keep.ofBelow {o : Ow} (h : Below w.heap.size w w') : Keep may w o m w' o m :=
  ⟨fun b hb ho => ⟨ho, Nat.lt_of_lt_of_le hb h.size, h.block b hb⟩, fun _ _ e => e, fun _ _ e => e, fun r row' _ e => ⟨row', e, rfl, fun _ => rfl⟩, Nat.le_refl _, h.size, fun b hb _ => h.block b hb, h.os, h.tape, h.output⟩
theorem MemRel.ofBelow (M : MemRel w may ow m) (hm : ∀ b, w.heap.size ≤ b → may b) (h : Below w.heap.size w w') : MemRel w' may ow m := by
  obtain ⟨M2, _⟩ := M.join (w' := w') (ow' := ⟨[], []⟩) hm h (rows := []) ⟨rfl, rfl, (fun i row e => by simp [Mem.row?] at e), (fun i bx e => by simp [Mem.box?] at e), (fun x y b hx => by cases x <;> simp [blk, Mem.row?, Mem.box?] at hx), (fun x b hx => by cases x <;> simp [blk, Mem.row?, Mem.box?] at hx), (fun i hi => absurd hi (Nat.not_lt_zero _))⟩ (fun i row e => by simp [Mem.row?] at e)
  rw [List.append_nil, List.append_nil] at M2
  exact M2
theorem lookup_none {t : Nat} : ∀ {fr : List (Nat × SV)}, t ∉ fr.map (·.1) → lookup fr t = .undef
  | [], _ => rfl
  | (t', v) :: r, h => by
    simp only [List.map_cons, List.mem_cons, not_or] at h
    simp only [lookup]
    cases hb : Nat.beq t' t with
    | true => exact absurd (Nat.eq_of_beq_eq_true hb).symm h.1
    | false => exact lookup_none h.2
/-- A state stands in a later world in which all that was there is as it was. -/
theorem Stand.ofBelow (I : Stand C N may s a w ow) (h : Below w.heap.size w w') (hf : ∀ t ∈ s.fr.map (·.1), a'.tmps.getD t undef = a.tmps.getD t undef) (hs : a'.tmps.size = a.tmps.size) (hd : a'.defers = a.defers) : Stand C N may s a' w' ow := by
  have K : Keep may w ow s.m w' ow s.m := Keep.ofBelow h
  refine ⟨I.live.keep K, I.mem.ofBelow I.live.new h, fun t => ?_, hs.trans I.size, hd.trans I.defers⟩
  by_cases ht : t ∈ s.fr.map (·.1)
  · rw [hf t ht]
    exact SVRel.keep K (I.fr t)
  · have e : s.get t = .undef := lookup_none ht
    rw [e]; trivial
/-- One slot more. -/
theorem Stand.more {fr : List (Nat × SV)} (I : Stand C N may ⟨fr, m⟩ a w ow) {more : List (Nat × SV)} (h : FrL w (okOf ow m) may ow m a more) : Stand C N may ⟨fr ++ more, m⟩ a w ow := by
  refine ⟨I.live, I.mem, fun t => ?_, I.size, I.defers⟩
  by_cases ht : t ∈ fr.map (·.1)
  · have e : ∀ {l : List (Nat × SV)}, t ∈ l.map (·.1) → lookup (l ++ more) t = lookup l t := fun {l} => by
      induction l with
      | nil => intro h; simp at h
      | cons q r ih =>
        intro h
        obtain ⟨t', v⟩ := q
        simp only [List.cons_append, lookup]
        cases hb : Nat.beq t' t with
        | true => rfl
        | false =>
          simp only [cond_false]
          refine ih ?_
          simp only [List.map_cons, List.mem_cons] at h
          rcases h with h | h
          · rw [h, Nat.beq_refl] at hb; cases hb
          · exact h
    show SVRel w _ may ow m (lookup (fr ++ more) t) _
    rw [e ht]
    exact I.fr t
  · have e : ∀ {l : List (Nat × SV)}, t ∉ l.map (·.1) → lookup (l ++ more) t = lookup more t := fun {l} => by
      induction l with
      | nil => intro _; rfl
      | cons q r ih =>
        intro h
        obtain ⟨t', v⟩ := q
        simp only [List.map_cons, List.mem_cons, not_or] at h
        simp only [List.cons_append, lookup]
        cases hb : Nat.beq t' t with
        | true => exact absurd (Nat.eq_of_beq_eq_true hb).symm h.1
        | false => exact ih h.2
    show SVRel w _ may ow m (lookup (fr ++ more) t) _
    rw [e ht]
    exact FrRel.of h t
end
end Go.Fx
