/- Pieces of code without loops, read by the second reading, in a walk by hand. -/
import Derived.Test.YtjhbcpnliiegoaaEv18
import Derived.ArgAppend
namespace Go.Fx
open Go Go.RowKit
set_option linter.unusedVariables false
set_option linter.unusedSimpArgs false
section
variable {R : Type} {P : Program} {T : Tab} {C : Cals} {w w' : World} {may : Nat → Prop} {ow ow' : Ow} {m : Mem} {r : R} {s : S} {a : Act}
/-- A piece of code: k: where it goes on, q: where it returns, x: where it leaves a block. -/
def goW (C : Cals) (T : Tab) (N : Nat) : Nat → Code → S → (S → Option R) → (S → Option R) → (Nat → S → Option R) → Option R
  | 0, _, _, _, _, _ => none
  | n + 1, c, s, k, q, x => match c with
    | .skip => k s
    | .seq a b => goW C T N n a s (fun s' => goW C T N n b s' k q x) q x
    | .region _ ops d => bif d then evalOpsD C T N s.m.boxes.length ops.toList ops.toList [] (s.pad T ops.toList) (fun lg s' => bif compat ops.toList lg then k s' else none) else evalOps C T N ops.toList ops.toList s k
    | .block id a => goW C T N n a s k q (fun j s' => bif Nat.beq j id then k s' else x j s')
    | .cond y a b => match (s.opd y).bool? with
      | some t => bif t then goW C T N n a (s.refine y true) k q x else goW C T N n b (s.refine y false) k q x
      | none => none
    | .exit id => x id s
    | .ret => q s
    | _ => none
theorem goW_ok (TK : TabOk P T) (CK : CalsOk P C) (hmix : P.follows .mixedOrders = true) {N : Nat} : ∀ (n : Nat) (code : Code) (s : S) (a : Act) (w : World) (ow : Ow) (k q : S → Option R) (x : Nat → S → Option R) (Q : Exit → Act → World → Prop), Live C may w ow s.m → MemRel w may ow s.m → FrRel w (okOf ow s.m) may ow s a → a.tmps.size = N →
    goW C T N n code s k q x = some r → (∀ s' a' w' ow', k s' = some r → At P N may w ow s.m a s' a' w' ow' → Q .normal a' w') → (∀ s' a' w' ow', q s' = some r → At P N may w ow s.m a s' a' w' ow' → Q .ret a' w') →
    (∀ j s' a' w' ow', x j s' = some r → At P N may w ow s.m a s' a' w' ow' → Q (.exit j) a' w') → code.wp P Q a w
  | 0, code, s, a, w, ow, k, q, x, Q, hm, M, F, hN, h, hk, hq, hx => by simp [goW] at h
  | n + 1, code, s, a, w, ow, k, q, x, Q, hm, M, F, hN, h, hk, hq, hx => by
    cases code <;> simp only [goW] at h <;> try (cases h; done)
    case skip => exact wp_skip (hk s a w ow h (At.refl M F hN))
    case seq y z =>
      refine wp_seq (goW_ok TK CK hmix n y s a w ow _ q x _ hm M F hN h (fun s' a' w' ow' h' A => ?_) (fun s' a' w' ow' h' A => hq s' a' w' ow' h' A) fun j s' a' w' ow' h' A => hx j s' a' w' ow' h' A)
      exact goW_ok TK CK hmix n z s' a' w' ow' k q x Q (hm.keep A.keep) A.mem A.fr A.size h' (fun s2 a2 w2 ow2 h2 A2 => hk s2 a2 w2 ow2 h2 (A.trans A2)) (fun s2 a2 w2 ow2 h2 A2 => hq s2 a2 w2 ow2 h2 (A.trans A2)) fun j s2 a2 w2 ow2 h2 A2 => hx j s2 a2 w2 ow2 h2 (A.trans A2)
    case region id ops d =>
      cases d with
      | true => exact regionD_ok TK CK hmix hm M F hN h hk
      | false => exact region_ok TK CK hm M F hN h hk
    case block id c =>
      refine wp_block (goW_ok TK CK hmix n c s a w ow k q _ _ hm M F hN h (fun s' a' w' ow' h' A => hk s' a' w' ow' h' A) (fun s' a' w' ow' h' A => hq s' a' w' ow' h' A) fun j s' a' w' ow' h' A => ?_)
      by_cases e : j = id
      · subst e
        rw [Nat.beq_refl] at h'
        simp only [Exit.inBlock, if_true]
        exact hk s' a' w' ow' h' A
      · have e2 : Nat.beq j id = false := by cases hb : Nat.beq j id with | false => rfl | true => exact absurd (Nat.eq_of_beq_eq_true hb) e
        rw [e2] at h'
        simp only [Exit.inBlock, e, if_false]
        exact hx j s' a' w' ow' h' A
    case cond y c1 c2 =>
      cases hb : (s.opd y).bool? with
      | none => simp [hb] at h
      | some t =>
        simp only [hb] at h
        have hv := bool?_rel (opd_rel F y) hb
        have F' := FrRel.refine (m := s.m) F hb
        have e := refine_m s y t
        have tr : ∀ {s' : S} {a' : Act} {w' : World} {ow' : Ow}, At P N may w ow (s.refine y t).m a s' a' w' ow' → At P N may w ow s.m a s' a' w' ow' := fun A => by rw [e] at A; exact A
        cases t with
        | true => exact wp_cond hv (goW_ok TK CK hmix n c1 _ a w ow k q x Q (by rw [e]; exact hm) (by rw [e]; exact M) (by rw [e]; exact F') hN h (fun s' a' w' ow' h' A => hk s' a' w' ow' h' (tr A)) (fun s' a' w' ow' h' A => hq s' a' w' ow' h' (tr A)) fun j s' a' w' ow' h' A => hx j s' a' w' ow' h' (tr A))
        | false => exact wp_cond hv (goW_ok TK CK hmix n c2 _ a w ow k q x Q (by rw [e]; exact hm) (by rw [e]; exact M) (by rw [e]; exact F') hN h (fun s' a' w' ow' h' A => hk s' a' w' ow' h' (tr A)) (fun s' a' w' ow' h' A => hq s' a' w' ow' h' (tr A)) fun j s' a' w' ow' h' A => hx j s' a' w' ow' h' (tr A))
    case exit j => exact wp_exit (hx j s a w ow h (At.refl M F hN))
    case ret => exact wp_ret (hq s a w ow h (At.refl M F hN))
/-- What the slots hold, and the memory. -/
def look (ts : List Nat) (s : S) : List SV × Mem := (ts.map s.get, s.m)
def kin : List Nat → List SV → List (Nat × SV)
  | t :: ts, v :: vs => (t, v) :: kin ts vs
  | _, _ => []
theorem lookup_kin (s : S) (t : Nat) : ∀ ts : List Nat, lookup (kin ts (ts.map s.get)) t = s.get t ∨ lookup (kin ts (ts.map s.get)) t = .undef
  | [] => .inr rfl
  | u :: ts => by
    simp only [List.map_cons, kin, lookup]
    cases h : Nat.beq u t with
    | true => simp only [h, cond_true]; rw [Nat.eq_of_beq_eq_true h]; exact .inl rfl
    | false => simp only [h, cond_false]; exact lookup_kin s t ts
/-- A state of fewer slots. -/
theorem FrRel.look {ok : Nat → Prop} {ts : List Nat} (F : FrRel w ok may ow s a) {vs : List SV} (h : ts.map s.get = vs) : FrRel w ok may ow ⟨kin ts vs, s.m⟩ a := fun t => by
  subst h
  show SVRel w ok may ow s.m (lookup (kin ts (ts.map s.get)) t) _
  rcases lookup_kin s t ts with e | e
  · rw [e]; exact F t
  · rw [e]; trivial
/-- Where a piece of a walk stands. -/
structure Stand (C : Cals) (N : Nat) (may : Nat → Prop) (s : S) (a : Act) (w : World) (ow : Ow) : Prop where
  live : Live C may w ow s.m
  mem : MemRel w may ow s.m
  fr : FrRel w (okOf ow s.m) may ow s a
  size : a.tmps.size = N
  defers : a.defers = []
end
/-- Region number j of a piece of code. -/
def regC (j : Nat) : Code → Option Code
  | .region id ops d => bif Nat.beq id j then some (.region id ops d) else none
  | .seq a b => match regC j a with
    | some c => some c
    | none => regC j b
  | .cond _ a b => match regC j a with
    | some c => some c
    | none => regC j b
  | .block _ a => regC j a
  | .loop a => regC j a
  | _ => none
def regF (f : Func) (j : Nat) : Code := match f.body with
  | some c => (regC j c).getD .skip
  | none => .skip
/-- Variables that are none any more, at the end of the list. -/
def trimN : List (Option Box) → List (Option Box)
  | [] => []
  | none :: r => match trimN r with
    | [] => []
    | q => none :: q
  | b :: r => b :: trimN r
theorem trimN_take : ∀ bs : List (Option Box), trimN bs = bs.take (trimN bs).length ∧ ∀ (i : Nat) (b : Box), (trimN bs).length ≤ i → bs[i]? ≠ some (some b)
  | [] => ⟨rfl, fun i b _ h => by simp at h⟩
  | none :: r => by
    obtain ⟨h1, h2⟩ := trimN_take r
    simp only [trimN]
    cases hq : trimN r with
    | nil =>
      simp only []
      refine ⟨rfl, fun i b _ h => ?_⟩
      cases i with
      | zero => simp at h
      | succ i => exact h2 i b (by rw [hq]; exact Nat.zero_le _) (by simpa using h)
    | cons x q =>
      simp only []
      rw [hq] at h1 h2
      refine ⟨by simp only [List.length_cons, List.take_succ_cons]; rw [← List.length_cons (a := x) (as := q), ← h1], fun i b hi h => ?_⟩
      cases i with
      | zero => simp at h
      | succ i => exact h2 i b (by simp only [List.length_cons] at hi ⊢; omega) (by simpa using h)
  | some y :: r => by
    obtain ⟨h1, h2⟩ := trimN_take r
    simp only [trimN]
    refine ⟨by simp only [List.length_cons, List.take_succ_cons]; rw [← h1], fun i b hi h => ?_⟩
    cases i with
    | zero => simp at hi
    | succ i => exact h2 i b (by simp only [List.length_cons] at hi; omega) (by simpa using h)
def Mem.trim (m : Mem) : Mem := ⟨m.rows, trimN m.boxes⟩
def Ow.trim (o : Ow) (m : Mem) : Ow := ⟨o.rv, o.bb.take (trimN m.boxes).length⟩
/-- Where a piece of code ends. -/
inductive Out where
  | nrm (vs : List SV) (m : Mem)
  | ext (j : Nat) (vs : List SV) (m : Mem)
  | rt (vs : List SV) (m : Mem)
def goO (C : Cals) (T : Tab) (N n : Nat) (code : Code) (s : S) (ts : List Nat) : Option Out :=
  goW C T N n code s (fun s' => some (.nrm (ts.map s'.get) s'.m.trim)) (fun s' => some (.rt (ts.map s'.get) s'.m.trim)) (fun j s' => some (.ext j (ts.map s'.get) s'.m.trim))
section
variable {R : Type} {P : Program} {T : Tab} {C : Cals} {w w' : World} {may : Nat → Prop} {ow ow' : Ow} {m : Mem} {s : S} {a : Act}
theorem box?_trim (m : Mem) (b : Nat) : m.trim.box? b = m.box? b := by
  obtain ⟨h1, h2⟩ := trimN_take m.boxes
  simp only [Mem.box?, Mem.trim]
  by_cases hb : b < (trimN m.boxes).length
  · rw [h1, List.getElem?_take_of_lt hb]
  · rw [List.getElem?_eq_none (by omega)]
    cases h : m.boxes[b]? with
    | none => rfl
    | some x =>
      cases x with
      | none => rfl
      | some y => exact absurd h (h2 b y (by omega))
theorem bb_trim (M : MemRel w may ow m) {b g : Nat} : (ow.trim m).bb[b]? = some (some g) ↔ ow.bb[b]? = some (some g) := by
  simp only [Ow.trim]
  by_cases hb : b < (trimN m.boxes).length
  · rw [List.getElem?_take_of_lt hb]
  · rw [List.getElem?_eq_none (by rw [List.length_take]; omega)]
    refine ⟨fun h => by simp at h, fun h => ?_⟩
    have hlt : b < m.boxes.length := by rw [← M.blen]; exact (List.getElem?_eq_some_iff.1 h).1
    have hn : m.box? b = none := by
      cases e : m.box? b with
      | none => rfl
      | some y =>
        obtain ⟨x, hx, e2⟩ := Option.bind_eq_some_iff.1 e
        have e2 : x = some y := e2
        subst e2
        exact absurd hx ((trimN_take m.boxes).2 b y (by omega))
    rw [M.free b hlt hn] at h
    simp at h
theorem blk_trim (M : MemRel w may ow m) (x : Th) : blk (ow.trim m) m.trim x = blk ow m x := by
  cases x with
  | row i => rfl
  | box i =>
    simp only [blk, box?_trim]
    cases e : m.box? i with
    | none => rfl
    | some y =>
      simp only
      have e2 : i < (trimN m.boxes).length := by
        rw [← box?_trim] at e
        obtain ⟨x, hx, _⟩ := Option.bind_eq_some_iff.1 e
        exact (List.getElem?_eq_some_iff.1 hx).1
      simp only [Ow.trim, List.getElem?_take_of_lt e2]
theorem okOf_trim (M : MemRel w may ow m) : okOf (ow.trim m) m.trim = okOf ow m := by
  funext b
  simp only [okOf, blk_trim M]
theorem LfRel.trimmed {ok : Nat → Prop} {l : Leaf} {v : Value} (h : LfRel w ok may ow l v) : LfRel w ok may (ow.trim m) l v := by
  cases l <;> exact h
theorem CmpRel.trimmed {ok : Nat → Prop} {c : Cmp} {v : Value} (h : CmpRel w ok may ow c v) : CmpRel w ok may (ow.trim m) c v := by
  cases c with
  | lf l => exact LfRel.trimmed (h : LfRel _ _ _ _ _ _)
  | agg ls => obtain ⟨vs, e, h⟩ := h; exact ⟨vs, e, h.imp fun _ _ h => h.trimmed⟩
theorem HdRel.trimmed (M : MemRel w may ow m) {h : Hd} {v : Value} (hh : HdRel ow h v) : HdRel (ow.trim m) h v := by
  cases h with
  | nilp => exact hh
  | box b => obtain ⟨g, e, h⟩ := hh; exact ⟨g, (bb_trim M).2 e, h⟩
theorem SVRel.trimmed (M : MemRel w may ow m) {ok : Nat → Prop} {sv : SV} {v : Value} (h : SVRel w ok may ow m sv v) : SVRel w ok may (ow.trim m) m.trim sv v := by
  cases sv with
  | undef => trivial
  | one c => exact CmpRel.trimmed (h : CmpRel _ _ _ _ _ _)
  | tup cs => obtain ⟨vs, e, h⟩ := h; exact ⟨vs, e, h.imp fun _ _ h => h.trimmed⟩
  | ref ls => obtain ⟨ad, vs, e, h, h2⟩ := h; exact ⟨ad, vs, e, h.imp fun _ _ h => h.trimmed, h2⟩
  | adr r i o => exact h
  | box b o => obtain ⟨g, e, h⟩ := h; exact ⟨g, (bb_trim M).2 e, h⟩
  | sub r o n g => exact h
  | pbox b o g => exact ⟨(bb_trim M).2 h.1, h.2⟩
  | hd x => exact HdRel.trimmed M (h : HdRel _ _ _)
  | tupp x cs => obtain ⟨u, vs, e, h1, h2⟩ := h; exact ⟨u, vs, e, h1.trimmed M, h2.imp fun _ _ h => h.trimmed⟩
  | mpo r => exact h
  | fb g b => obtain ⟨d, e, h⟩ := h; exact ⟨d, (bb_trim M).2 e, h⟩
  | hsl e vs i r => exact h
theorem MemRel.trimmed (M : MemRel w may ow m) : MemRel w may (ow.trim m) m.trim := by
  refine ⟨M.rlen, ?_, fun i row e => ?_, fun i bx e => ?_, fun x y b h1 h2 => ?_, fun x b h => ?_, fun i hi e => ?_⟩
  · simp only [Ow.trim, Mem.trim, List.length_take, M.blen]
    have := congrArg List.length (trimN_take m.boxes).1
    rw [List.length_take] at this
    omega
  · obtain ⟨v, hv, R⟩ := M.rows i row e
    exact ⟨v, hv, by rw [okOf_trim M]; exact R⟩
  · rw [box?_trim] at e
    obtain ⟨g, hg, vs, h1, h2⟩ := M.boxes i bx e
    exact ⟨g, (bb_trim M).2 hg, vs, h1, by rw [okOf_trim M]; exact h2.imp fun _ _ h => h.trimmed⟩
  · rw [blk_trim M] at h1 h2; exact M.dis x y b h1 h2
  · rw [blk_trim M] at h; exact M.may_ x b h
  · rw [box?_trim] at e
    have hi : i < (trimN m.boxes).length := hi
    have hle : (trimN m.boxes).length ≤ m.boxes.length := by
      have := congrArg List.length (trimN_take m.boxes).1
      rw [List.length_take] at this
      omega
    simp only [Ow.trim, List.getElem?_take_of_lt hi]
    exact M.free i (by omega) e
theorem Keep.trimmed {w0 : World} {o0 : Ow} {m0 : Mem} (M : MemRel w may ow m) (K : Keep may w0 o0 m0 w ow m) : Keep may w0 o0 m0 w (ow.trim m) m.trim :=
  ⟨by rw [okOf_trim M]; exact K.stay, K.rv, fun i v e => (bb_trim M).2 (K.bb i v e), K.rows, K.nrows, K.size, K.frame, K.os, K.tape, K.output⟩
theorem FrRel.trimmed (M : MemRel w may ow s.m) (F : FrRel w (okOf ow s.m) may ow s a) : FrRel w (okOf (ow.trim s.m) s.m.trim) may (ow.trim s.m) ⟨s.fr, s.m.trim⟩ a := fun t => by
  rw [okOf_trim M]
  exact SVRel.trimmed M (F t)
theorem At.out (M0 : Live C may w ow m) {N : Nat} {s' : S} {a' : Act} {w' : World} {ow' : Ow} (hd : a.defers = []) (A : At P N may w ow m a s' a' w' ow') (ts : List Nat) : Stand C N may ⟨kin ts (ts.map s'.get), s'.m.trim⟩ a' w' (ow'.trim s'.m) ∧ Keep may w ow m w' (ow'.trim s'.m) s'.m.trim := by
  have K := A.keep.trimmed A.mem
  refine ⟨⟨M0.keep K, A.mem.trimmed, ?_, A.size, A.defers.trans hd⟩, K⟩
  have F := A.fr.trimmed A.mem
  exact FrRel.look (s := ⟨s'.fr, s'.m.trim⟩) F rfl
theorem goO_ok (TK : TabOk P T) (CK : CalsOk P C) (hmix : P.follows .mixedOrders = true) {N n : Nat} {code : Code} {Q : Exit → Act → World → Prop} {ts : List Nat} (I : Stand C N may s a w ow) {o : Out}
    (h : goO C T N n code s ts = some o)
    (hN : ∀ vs m' a' w' ow', o = .nrm vs m' → Stand C N may ⟨kin ts vs, m'⟩ a' w' ow' → Keep may w ow s.m w' ow' m' → Q .normal a' w')
    (hX : ∀ j vs m' a' w' ow', o = .ext j vs m' → Stand C N may ⟨kin ts vs, m'⟩ a' w' ow' → Keep may w ow s.m w' ow' m' → Q (.exit j) a' w')
    (hR : ∀ vs m' a' w' ow', o = .rt vs m' → Stand C N may ⟨kin ts vs, m'⟩ a' w' ow' → Keep may w ow s.m w' ow' m' → Q .ret a' w') : code.wp P Q a w :=
  goW_ok TK CK hmix n code s a w ow _ _ _ Q I.live I.mem I.fr I.size h
    (fun s' a' w' ow' e A => by obtain ⟨h1, h2⟩ := A.out I.live I.defers ts; exact hN _ _ a' w' _ (Option.some.inj e).symm h1 h2)
    (fun s' a' w' ow' e A => by obtain ⟨h1, h2⟩ := A.out I.live I.defers ts; exact hR _ _ a' w' _ (Option.some.inj e).symm h1 h2)
    fun j s' a' w' ow' e A => by obtain ⟨h1, h2⟩ := A.out I.live I.defers ts; exact hX _ _ _ a' w' _ (Option.some.inj e).symm h1 h2
/-- A frame, slot by slot. -/
def FrL (w : World) (ok may : Nat → Prop) (ow : Ow) (m : Mem) (a : Act) : List (Nat × SV) → Prop
  | [] => True
  | q :: r => SVRel w ok may ow m q.2 (a.tmps.getD q.1 undef) ∧ FrL w ok may ow m a r
theorem FrRel.of {ok : Nat → Prop} : ∀ {fr : List (Nat × SV)}, FrL w ok may ow m a fr → FrRel w ok may ow ⟨fr, m⟩ a
  | [], _, t => trivial
  | q :: r, h, t => by
    show SVRel w ok may ow m (lookup (q :: r) t) _
    obtain ⟨t', v⟩ := q
    simp only [lookup]
    cases hb : Nat.beq t' t with
    | true => obtain rfl := Nat.eq_of_beq_eq_true hb; exact h.1
    | false => exact FrRel.of h.2 t
end
section
variable {w w' : World} {P : Program}
theorem ownsRow_same {B e s n : Nat} {v : Value} {xs : List Value} (h : w.ownsRow B e s v n xs) (hb : ∀ g, v.ownBlock = some g → w'.heap[g]? = w.heap[g]?) : w'.ownsRow B e s v n xs := by
  refine ⟨h.1, ?_⟩
  rcases h.2 with hn | ⟨g, cap, cur, rfl, h1, h2, h3⟩
  · exact .inl hn
  · exact .inr ⟨g, cap, cur, rfl, h1, (hb g rfl).trans h2, h3⟩
theorem RdEach_ints {ok : Nat → Prop} {q : IntKind} : ∀ ys : List Int, RdEach w ok (.int q) ys (ys.map (Value.int q))
  | [] => rfl
  | y :: r => ⟨[.int q y], r.map (Value.int q), rfl, rfl, RdEach_ints r⟩
theorem RdEach_ints' {ok : Nat → Prop} {q : IntKind} : ∀ {ys : List Int} {cs : List Value}, RdEach w ok (.int q) ys cs → cs = ys.map (Value.int q)
  | [], cs, h => h
  | y :: r, cs, ⟨c1, c2, e, h1, h2⟩ => by
    have h1 : c1 = [Value.int q y] := h1
    rw [e, h1, RdEach_ints' h2]; rfl
/-- What append does of a row of the caller's own: what the slice held before stays where it was. -/
theorem append_keeps (t ty e : TypeId) (i : TypeInfo) (z : Value) (size bytes : Nat) (ht : P.underlying t = some (.slice e)) (hi : P.info? e = some i) (hz : i.zero = some z)
    (hsize : i.size = size) (hby : i.bytes = bytes) (hzs : z.cells.size = size) (hsz : 0 < size)
    (v : Value) (n : Nat) (xs : List Value) (hown : w.ownsRow 0 e size v n xs)
    (a : Addr) (m c : Nat) (news : List Value) (hl : news.length = m * size) (hnews : ∀ j u, news[j]? = some u → w.cell? (a.add j) = some u) (h1 : ∀ u ∈ news, u.oneCell' = true)
    (h63 : n + m ≤ maxLen) (hbytes : (n + m) * bytes ≤ 140737488355328) :
    ∃ v' w', (Builtin.append_ #[t, t] ty #[v, .slice (some a) m c]).run P w = .ok v' w' ∧ w'.ownsRow 0 e size v' (n + m) (xs ++ news) ∧ w.grownBy w' v.ownBlock ∧
      (∀ b, v.ownBlock = some b → ∀ j u, xs[j]? = some u → w'.cell? ((⟨b, 0, none⟩ : Addr).add j) = some u) ∧ (∀ b, v'.ownBlock = some b → b < w.heap.size → v.ownBlock = some b) := by
  obtain ⟨v', w', hr, h2, h3, _⟩ := run_append_own (P := P) w 0 t ty e i z size bytes ht hi hz hsize hby hzs hsz v n xs hown a m c news hl hnews h1 h63 hbytes (Nat.zero_le _)
  refine ⟨v', w', hr, h2, h3, ?_⟩
  rcases hown.2 with ⟨rfl, rfl⟩ | ⟨g, cap, cur, rfl, h4, h5, h6, h7, h8, h9⟩
  · refine ⟨(fun b hb => by cases hb), fun b hb hlt => ?_⟩
    obtain ⟨v2, w2, hr2, h2', h3'⟩ : ∃ v2 w2, (Builtin.append_ #[t, t] ty #[.slice none 0 0, .slice (some a) m c]).run P w = .ok v2 w2 ∧ w2.ownsRow w.heap.size e size v2 (0 + m) (xs ++ news) ∧ True := by
      have h0 : xs = [] := List.eq_nil_of_length_eq_zero (by rw [hown.1]; simp)
      subst h0
      obtain ⟨v2, w2, hr2, h2', _, _⟩ := run_append_own (P := P) w w.heap.size t ty e i z size bytes ht hi hz hsize hby hzs hsz (.slice none 0 0) 0 [] (World.ownsRow_nil _ _ _ _) a m c news hl hnews h1 h63 hbytes (Nat.le_refl _)
      exact ⟨v2, w2, hr2, h2', trivial⟩
    rw [hr2] at hr
    injection hr with e1 e2
    subst e1 e2
    have := World.ownsRow.lt h2' b hb
    omega
  · by_cases hroom : n + m ≤ cap
    · subst hsize
      have hfit : n * i.size + news.length ≤ cur.size := by rw [hl, ← Nat.add_mul, h8]; exact Nat.mul_le_mul_right _ hroom
      have hr2 := run_append_room (P := P) w t ty e i ht hi g n cap cur h5 a m c news hl hnews h1 hroom hfit
      rw [hr2] at hr
      injection hr with e1 e2
      subst e1 e2
      refine ⟨fun b hb j u hj => ?_, fun b hb _ => hb⟩
      obtain rfl : g = b := by simpa [Value.ownBlock] using hb
      refine World.ownsRow.cells h2 rfl j u ?_
      rw [List.getElem?_append_left (List.getElem?_eq_some_iff.1 hj).1]; exact hj
    · obtain ⟨v2, w2, hr2, h2', h3'⟩ := run_append_arg_grows (P := P) w t ty e i z size bytes ht hi hz hsize hby hzs hsz ⟨g, 0, none⟩ n cap xs hown.1 (World.ownsRow.cells hown rfl) a m c news hl hnews (by omega) h63 hbytes
      rw [hr2] at hr
      injection hr with e1 e2
      subst e1 e2
      have hg : g < w.heap.size := (Array.getElem?_eq_some_iff.1 h5).1
      refine ⟨fun b hb j u hj => ?_, fun b hb hlt => ?_⟩
      · obtain rfl : g = b := by simpa [Value.ownBlock] using hb
        exact (World.cell?_of_block (by rw [Addr.add_block]; exact h3'.block g hg (by simp))).trans (World.ownsRow.cells hown rfl j u hj)
      · have := World.ownsRow.lt h2' b hb
        omega
end
section
variable {P : Program}
theorem wp_mono2 {o : Oper} {a : Act} {w : World} {K K' : Act → World → Prop} {Q Q' : Exit → Act → World → Prop} (h : ∀ a w, K a w → K' a w) (hq : ∀ e a w, e ≠ .normal → Q e a w → Q' e a w)
    (hh : o.wp P a w K Q) : o.wp P a w K' Q' := by
  unfold Oper.wp at *
  generalize (execOp a.eval o).run P w = r at *
  cases r with
  | ok n w' =>
    cases n <;> simp only [Oper.upon] at hh ⊢ <;>
      first
        | exact h _ _ hh
        | exact Calls.mono hh (fun e w'' he => by
            cases e with
            | returned v => exact h _ _ he
            | panicked c => exact hq _ _ _ (by simp) he
            | outgrown => obtain ⟨a2, w2, h2⟩ := he; exact ⟨a2, w2, hq _ _ _ (by simp) h2⟩)
        | exact Rows.mono hh (fun _ _ he => h _ _ he)
  | halt x w' => cases x <;> simp only [Oper.upon] at hh ⊢ <;> first | exact hh | exact hq _ _ _ (by simp) hh
theorem wpOps_app {ops : Array Oper} {Q : Exit → Act → World → Prop} : ∀ (l1 l2 : List Nat) (a : Act) (w : World), wpOps P ops (fun e a w => match e with | .normal => wpOps P ops Q l2 a w | e => Q e a w) l1 a w → wpOps P ops Q (l1 ++ l2) a w
  | [], l2, a, w, h => h
  | i :: l1, l2, a, w, h => by
    simp only [wpOps, List.cons_append] at h ⊢
    cases ho : ops[i]? with
    | none => simp only [ho] at h ⊢; exact wpOps_app l1 l2 a w h
    | some o =>
      simp only [ho] at h ⊢
      split
      · rename_i hw
        rw [if_pos hw] at h
        rcases h with h | ⟨h1, h2⟩
        · left
          refine wp_mono2 (fun a w h => wpOps_app l1 l2 a w h) (fun e a w he h => ?_) h
          cases e <;> first | exact absurd rfl he | exact h
        · right
          exact ⟨h1, h2⟩
      · rename_i hw
        rw [if_neg hw] at h
        exact wpOps_app l1 l2 _ w h
end
section
variable {P : Program} {T : Tab} {C : Cals} {N : Nat} {w w' : World} {may : Nat → Prop} {ow ow' : Ow} {m : Mem} {s : S} {a : Act}
/-- The number that a slot holds. -/
def slotN (t : Nat) (a : Act) : Nat := match a.tmps.getD t undef with
  | .int _ x => x.toNat
  | _ => 0
theorem Stand.int (I : Stand C N may s a w ow) {t : Nat} {q : IntKind} {n : Int} (h : s.get t = ci q n) : a.tmps.getD t undef = .int q n := by
  have := I.fr t
  rw [h] at this
  have this : [a.tmps.getD t undef] = [Value.int q n] := this
  exact (List.cons.inj this).1
theorem Stand.slotN (I : Stand C N may s a w ow) {t : Nat} {q : IntKind} {n : Nat} (h : s.get t = ci q (n : Int)) : slotN t a = n := by
  unfold Fx.slotN
  rw [I.int h]
  simp
/-- The blocks that none of the rows has. -/
theorem okOf_rows {rows : List Row} {rv : List Value} (hl : rv.length = rows.length) (hw : ∀ row ∈ rows, row.rw = true) (hs : ∀ v ∈ rv, ∃ A n c, v = .slice A n c) {b : Nat} :
    okOf ⟨rv, []⟩ ⟨rows.map some, []⟩ b ↔ ∀ v ∈ rv, v.ownBlock ≠ some b := by
  constructor
  · intro h v hv e
    obtain ⟨i, hi, rfl⟩ := List.getElem_of_mem hv
    refine h (.row i) ?_
    have h2 : i < rows.length := by omega
    have : (⟨rows.map some, []⟩ : Mem).row? i = some rows[i] := by simp [Mem.row?, h2]
    simp only [blk, this, hw _ (List.getElem_mem h2), if_true, List.getElem?_eq_getElem hi, Option.bind_some]
    rw [oblk_own (hs _ hv)]; exact e
  · intro h x hx
    cases x with
    | box i => simp [blk, Mem.box?] at hx
    | row i =>
      simp only [blk] at hx
      split at hx
      case h_2 => cases hx
      split at hx
      case isFalse => cases hx
      obtain ⟨v, hv, e⟩ := Option.bind_eq_some_iff.1 hx
      have hm : v ∈ rv := List.mem_of_getElem? hv
      rw [oblk_own (hs v hm)] at e
      exact h v hm e
theorem MemRel.ofRows {rows : List Row} {rv : List Value} (hl : rv.length = rows.length) (hw : ∀ row ∈ rows, row.rw = true) (hs : ∀ v ∈ rv, ∃ A n c, v = .slice A n c)
    (hr : ∀ (i : Nat) (row : Row) (v : Value), rows[i]? = some row → rv[i]? = some v → ∃ cs, w.ownsRow 0 row.e row.k.n v row.xs.length cs ∧ RdEach w (okf (okOf ⟨rv, []⟩ ⟨rows.map some, []⟩) may row.fr) row.k row.xs cs)
    (hd : ∀ (i j : Nat) (v v' : Value) (b : Nat), rv[i]? = some v → rv[j]? = some v' → v.ownBlock = some b → v'.ownBlock = some b → i = j) (hm : ∀ v ∈ rv, ∀ b, v.ownBlock = some b → may b) : MemRel w may ⟨rv, []⟩ ⟨rows.map some, []⟩ := by
  have hb : ∀ (x : Th) (b : Nat), blk ⟨rv, []⟩ ⟨rows.map some, []⟩ x = some b → ∃ (i : Nat) (v : Value), x = .row i ∧ rv[i]? = some v ∧ v.ownBlock = some b := by
    intro x b hx
    cases x with
    | box i => simp [blk, Mem.box?] at hx
    | row i =>
      simp only [blk] at hx
      split at hx
      case h_2 => cases hx
      split at hx
      case isFalse => cases hx
      obtain ⟨v, hv, e⟩ := Option.bind_eq_some_iff.1 hx
      rw [oblk_own (hs v (List.mem_of_getElem? hv))] at e
      exact ⟨i, v, rfl, hv, e⟩
  have hg : ∀ (i : Nat) (row : Row), (⟨rows.map some, []⟩ : Mem).row? i = some row → rows[i]? = some row := fun i row e => by
    obtain ⟨x, hx, e2⟩ := Option.bind_eq_some_iff.1 e
    have e2 : x = some row := e2
    subst e2
    have hx : (rows.map some)[i]? = some (some row) := hx
    rw [List.getElem?_map] at hx
    obtain ⟨y, hy, e3⟩ := Option.map_eq_some_iff.1 hx
    rw [hy, Option.some.inj e3]
  refine ⟨by simp [hl], rfl, fun i row e => ?_, fun i bx e => by simp [Mem.box?] at e, fun x y b h1 h2 => ?_, fun x b h => ?_, fun i hi e => by simp at hi⟩
  · have e := hg i row e
    have hi : i < rv.length := by rw [hl]; exact (List.getElem?_eq_some_iff.1 e).1
    have hv : rv[i]? = some rv[i] := List.getElem?_eq_getElem hi
    obtain ⟨cs, h1, h2⟩ := hr i row _ e hv
    refine ⟨_, hv, .inl ⟨hs _ (List.getElem_mem hi), ?_⟩⟩
    rw [if_pos (hw row (List.mem_of_getElem? e))]
    exact ⟨cs, h1, h2⟩
  · obtain ⟨i, v, rfl, hv, e1⟩ := hb x b h1
    obtain ⟨j, v', rfl, hv', e2⟩ := hb y b h2
    rw [hd i j v v' b hv hv' e1 e2]
  · obtain ⟨i, v, rfl, hv, e⟩ := hb x b h
    have hi : i < rows.length := by rw [← hl]; exact (List.getElem?_eq_some_iff.1 hv).1
    obtain ⟨cs, h1, _⟩ := hr i _ v (List.getElem?_eq_getElem hi) hv
    exact ⟨hm v (List.mem_of_getElem? hv) b e, (World.ownsRow.lt h1 b e).2⟩
/-- A row of the call's own, as memory. -/
theorem MemRel.own (M : MemRel w may ow m) {r : Nat} {row : Row} (h : m.row? r = some row) (hw : row.rw = true) (hm : row.mp? = none) : ∃ v cs, ow.rv[r]? = some v ∧ (∃ A n c, v = .slice A n c) ∧ w.ownsRow 0 row.e row.k.n v row.xs.length cs ∧ RdEach w (okf (okOf ow m) may row.fr) row.k row.xs cs := by
  obtain ⟨v, hv, R⟩ := M.rows r row h
  rcases R with ⟨hs, R⟩ | ⟨g, xs, _, e, _⟩
  · rw [if_pos hw] at R
    obtain ⟨cs, h1, h2⟩ := R
    exact ⟨v, cs, hv, hs, h1, h2⟩
  · rw [hm] at e; cases e
/-- One operation behind those that were read. -/
theorem wpOps_one {ops : Array Oper} {i : Nat} {o : Oper} {rest : List Nat} {Q : Exit → Act → World → Prop} (ho : ops[i]? = some o) (hg : o.guard = none) (h : o.wp P a w (wpOps P ops Q rest) Q) : wpOps P ops Q (i :: rest) a w := by
  have hw : Region.wanted o (yielded ops a.tmps) = true := by simp [Region.wanted, hg]
  simp only [wpOps, ho]
  rw [if_pos hw]
  exact .inl h
end
section
variable {R : Type} {P : Program} {T : Tab} {C : Cals} {N : Nat} {w w' : World} {may : Nat → Prop} {ow ow' : Ow} {m : Mem} {s : S} {a : Act} {r : R}
/-- Some of a region's operations, one behind the other. -/
theorem evalOps_pre (TK : TabOk P T) (CK : CalsOk P C) {ops : Array Oper} {c : S → Option R} {Q : Exit → Act → World → Prop} : ∀ (l : List Oper) (k : Nat) (s : S) (a : Act) (w : World) (ow : Ow), (∀ j, j < l.length → l[j]? = ops[k + j]?) → Live C may w ow s.m →
    MemRel w may ow s.m → FrRel w (okOf ow s.m) may ow s a → a.tmps.size = N → evalOps C T N ops.toList l s c = some r →
    (∀ s' a' w' ow', c s' = some r → At P N may w ow s.m a s' a' w' ow' → Q .normal a' w') → wpOps P ops Q (List.range' k l.length) a w
  | [], k, s, a, w, ow, hl, hm, M, F, hN, h, hQ => hQ s a w ow h (At.refl M F hN)
  | o :: l, k, s, a, w, ow, hl, hm, M, F, hN, h, hQ => by
    obtain ⟨hd, h⟩ := cond_none h
    have h0 : ops[k]? = some o := by simpa using (hl 0 (by simp)).symm
    have hl' : ∀ j, j < l.length → l[j]? = ops[k + 1 + j]? := fun j hj => by have := hl (j + 1) (by simpa using hj); simpa [Nat.add_assoc, Nat.add_comm 1 j] using this
    obtain ⟨s', wt, sv, m', e, F', h1, h2⟩ := evalG_ok TK CK M hm F h
    rw [List.length_cons, List.range'_succ, wanted_at h0]
    have key : ∀ v w' ow', MemRel w' may ow' m' → Keep may w ow s.m w' ow' m' → SVRel w' (okOf ow' m') may ow' m' sv v → wpOps P ops Q (List.range' (k + 1) l.length) (a.put o.dst v) w' := by
      intro v w' ow' M' K' hv
      have A := At.step (P := P) hN e F' M' K' hd hv
      exact evalOps_pre TK CK l (k + 1) _ _ w' ow' hl' (by rw [put_m]; exact hm.keep K') A.mem A.fr A.size h1 fun s2 a2 w2 ow2 h3 A2 => hQ s2 a2 w2 ow2 h3 (A.trans A2)
    rcases h2 with ⟨_, hw, h2⟩ | ⟨_, hw, rfl, rfl⟩
    · rw [if_pos hw]
      exact .inl (h2 _ _ key)
    · rw [if_neg (by simp [hw])]
      exact key undef w ow M (Keep.refl _ _ _ _) void_undef
theorem ops_nrm (TK : TabOk P T) (CK : CalsOk P C) {ops : Array Oper} {Q : Exit → Act → World → Prop} {l : List Oper} {k : Nat} {ts : List Nat} {vs : List SV} {m' : Mem} (I : Stand C N may s a w ow) (hl : ∀ j, j < l.length → l[j]? = ops[k + j]?)
    (h : evalOps C T N ops.toList l s (fun s' => some (Out.nrm (ts.map s'.get) s'.m.trim)) = some (.nrm vs m')) (hQ : ∀ a' w' ow', Stand C N may ⟨kin ts vs, m'⟩ a' w' ow' → Keep may w ow s.m w' ow' m' → Q .normal a' w') : wpOps P ops Q (List.range' k l.length) a w :=
  evalOps_pre TK CK l k s a w ow hl I.live I.mem I.fr I.size h fun s' a' w' ow' e A => by
    obtain ⟨h1, h2⟩ := A.out I.live I.defers ts
    have e := Option.some.inj e
    injection e with e1 e2
    subst e1 e2
    exact hQ _ _ _ h1 h2
/-- What a step by hand keeps. -/
structure Kp (may : Nat → Prop) (w : World) (o : Ow) (m : Mem) (w' : World) (o' : Ow) (m' : Mem) : Prop where
  stay : Stay w (okOf o m) w' (okOf o' m')
  size : w.heap.size ≤ w'.heap.size
  frame : ∀ b, b < w.heap.size → ¬ may b → w'.heap[b]? = w.heap[b]?
  os : w'.os = w.os
  tape : w'.tape = w.tape
  output : w'.output = w.output
theorem Keep.kp {o o' : Ow} {m m' : Mem} (K : Keep may w o m w' o' m') : Kp may w o m w' o' m' := ⟨K.stay, K.size, K.frame, K.os, K.tape, K.output⟩
theorem Kp.refl (may : Nat → Prop) (w : World) (o : Ow) (m : Mem) : Kp may w o m w o m := (Keep.refl may w o m).kp
theorem Kp.trans {w1 w2 : World} {o o1 o2 : Ow} {m m1 m2 : Mem} (h : Kp may w o m w1 o1 m1) (k : Kp may w1 o1 m1 w2 o2 m2) : Kp may w o m w2 o2 m2 :=
  ⟨h.stay.trans k.stay, Nat.le_trans h.size k.size, fun b hb hm => (k.frame b (Nat.lt_of_lt_of_le hb h.size) hm).trans (h.frame b hb hm), k.os.trans h.os, k.tape.trans h.tape, k.output.trans h.output⟩
/-- Another way to look at the same memory. -/
theorem Kp.look {o o' : Ow} {m m' : Mem} (h : ∀ b, b < w.heap.size → okOf o m b → okOf o' m' b) : Kp may w o m w o' m' := ⟨Stay.mono h, Nat.le_refl _, fun _ _ _ => rfl, rfl, rfl, rfl⟩
/-- A row of the caller's own, as data. -/
theorem ownsRow_rd {e : TypeId} {k : K} {Q : Nat → Prop} {v : Value} {xs : List k.T} {cs : List Value} (h : w.ownsRow 0 e k.n v xs.length cs) (hr : RdEach w Q k xs cs) (hQ : ∀ b, v.ownBlock = some b → Q b) : Rd w Q (.sl e k) xs [v] := by
  have hc := fun g => World.ownsRow.cells h (g := g)
  rcases h.2 with ⟨rfl, h0⟩ | ⟨g, cap, cur, rfl, _, h3, h4, _⟩
  · have : xs = [] := List.eq_nil_of_length_eq_zero h0
    subst this
    exact ⟨none, 0, rfl, Nat.le_refl _, fun i x hi => absurd (List.getElem?_eq_some_iff.1 hi).1 (Nat.not_lt_zero _)⟩
  · exact RdEach.toSl hr h4 fun _ => ⟨_, rfl, (Array.getElem?_eq_some_iff.1 h3).1, hQ g rfl, fun j u hj => hc g rfl j u hj⟩
/-- What lies at a row's place, as data: of the head of its cells no more is known than that they are there. -/
theorem rd_prefix {e : TypeId} {q : IntKind} {Q : Nat → Prop} {v : Value} {xs : List Int} {cs : List Value} (h : w.ownsRow 0 e 1 v xs.length cs) (hs : ∀ g, v.ownBlock = some g → g < w'.heap.size) (hc : ∀ b, v.ownBlock = some b → ∀ j u, (xs.map (Value.int q))[j]? = some u → w'.cell? ((⟨b, 0, none⟩ : Addr).add j) = some u) (hQ : ∀ b, v.ownBlock = some b → Q b) : Rd w' Q (.sl e (.int q)) xs [v] := by
  rcases h.2 with ⟨rfl, h0⟩ | ⟨g, cap, cur, rfl, _, h3, h4, _⟩
  · have : xs = [] := List.eq_nil_of_length_eq_zero h0
    subst this
    exact ⟨none, 0, rfl, Nat.le_refl _, fun i x hi => absurd (List.getElem?_eq_some_iff.1 hi).1 (Nat.not_lt_zero _)⟩
  · exact RdEach.toSl (RdEach_ints xs) h4 fun _ => ⟨_, rfl, hs g rfl, hQ g rfl, hc g rfl⟩
theorem wp_append_keeps {o : Oper} {K : Act → World → Prop} {Q : Exit → Act → World → Prop} (s x : Operand) (t : TypeId)
    (ho : o.op = .call { callee := .builtin .append, args := #[s, x], argTypes := #[t, t] })
    (e : TypeId) (i : TypeInfo) (z : Value) (size bytes : Nat) (ht : P.underlying t = some (.slice e)) (hi : P.info? e = some i) (hz : i.zero = some z)
    (hsize : i.size = size) (hby : i.bytes = bytes) (hzs : z.cells.size = size) (hsz : 0 < size)
    (v : Value) (n : Nat) (xs : List Value) (hs : a.eval s = v) (hown : w.ownsRow 0 e size v n xs)
    (ad : Addr) (m c : Nat) (news : List Value) (hx : a.eval x = .slice (some ad) m c) (hl : news.length = m * size) (hnews : ∀ j u, news[j]? = some u → w.cell? (ad.add j) = some u) (h1 : ∀ u ∈ news, u.oneCell' = true)
    (h63 : n + m ≤ maxLen) (hbytes : (n + m) * bytes ≤ 140737488355328)
    (h : ∀ v' w', w'.ownsRow 0 e size v' (n + m) (xs ++ news) → w.grownBy w' v.ownBlock → (∀ b, v.ownBlock = some b → ∀ j u, xs[j]? = some u → w'.cell? ((⟨b, 0, none⟩ : Addr).add j) = some u) → (∀ b, v'.ownBlock = some b → b < w.heap.size → v.ownBlock = some b) → K (a.put o.dst v') w') : o.wp P a w K Q := by
  obtain ⟨v', w', hr, h2, h3, h4, h5⟩ := append_keeps (P := P) (w := w) t o.type e i z size bytes ht hi hz hsize hby hzs hsz v n xs hown ad m c news hl hnews h1 h63 hbytes
  unfold Oper.wp execOp
  simp only [ho, resolve, invoke, builtin, Sem.run_bind, Sem.run_pure, Result.andThen_ok, List.map_toArray, List.map_cons, List.map_nil, hs, hx, hr]
  exact h v' w' h2 h3 h4 h5
end
end Go.Fx
