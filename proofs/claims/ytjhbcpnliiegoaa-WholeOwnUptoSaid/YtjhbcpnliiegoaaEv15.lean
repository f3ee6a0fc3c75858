/- Regions in the order of the text. -/
import Derived.Test.YtjhbcpnliiegoaaEv14
namespace Go.Fx
open Go Go.RowKit
set_option linter.unusedVariables false
set_option linter.unusedSimpArgs false
section
variable {R : Type} {P : Program} {T : Tab} {C : Cals} {w w' : World} {may : Nat → Prop} {ow ow' : Ow} {r : R} {s : S} {a : Act}
theorem lookup_cons (t t' : Nat) (v : SV) (fr : List (Nat × SV)) : lookup ((t, v) :: fr) t' = if t = t' then v else lookup fr t' := by
  simp only [lookup]
  by_cases h : t = t'
  · subst h; simp
  · rw [if_neg h, show Nat.beq t t' = false from by cases hb : Nat.beq t t' with | false => rfl | true => exact absurd (Nat.eq_of_beq_eq_true hb) h]; rfl
theorem get_put (s : S) (d : Option Nat) (v : SV) (m : Mem) (t : Nat) : (s.put d v m).get t = if d = some t then v else s.get t := by
  cases d with
  | none => simp [S.put, S.get]
  | some d => simp only [S.put, S.get, lookup_cons, Option.some.injEq]
theorem put_m (s : S) (d : Option Nat) (v : SV) (m : Mem) : (s.put d v m).m = m := by cases d <;> rfl
theorem refine_m (s : S) (x : Operand) (b : Bool) : (s.refine x b).m = s.m := by cases x <;> rfl
theorem get_refine (s : S) (d : Nat) (b : Bool) (t : Nat) : (s.refine (.tmp d) b).get t = if d = t then cb b else s.get t := by
  simp only [S.refine, S.get, lookup_cons]
/-- A slot's content, or what a question has made of it. -/
theorem FrRel.refine {m : Mem} (F : FrRel w (okOf ow s.m) may ow s a) {x : Operand} {b : Bool} (h : (s.opd x).bool? = some b) : FrRel w (okOf ow s.m) may ow (s.refine x b) a := by
  cases x with
  | tmp d =>
    intro t
    rw [refine_m, get_refine]
    split
    · rename_i e; subst e
      have := bool?_rel (F d) (by rw [← opd_bool]; exact h)
      rw [this]
      exact rfl
    · exact F t
  | _ => exact F
theorem FrRel.put {m' : Mem} (F : FrRel w (okOf ow s.m) may ow s a) (K : Keep may w ow s.m w' ow' m') {d : Option Nat} {N : Nat} (hd : dstOk N d = true) (hN : a.tmps.size = N) {v : SV} {u : Value} (hv : SVRel w' (okOf ow' m') may ow' m' v u) :
    FrRel w' (okOf ow' m') may ow' (s.put d v m') (a.put d u) := by
  intro t
  rw [get_put, put_m]
  cases d with
  | none => simpa [Act.put] using SVRel.keep K (F t)
  | some d =>
    simp only [Option.some.injEq]
    simp only [dstOk, Nat.blt_eq] at hd
    split
    · rename_i e; subst e
      simpa [Act.put, Array.getElem?_setIfInBounds, show d < a.tmps.size by omega] using hv
    · rename_i e
      have := SVRel.keep K (F t)
      simpa [Act.put, Array.getElem?_setIfInBounds_ne e] using this
theorem put_size (a : Act) (d : Option Tmp) (u : Value) : (a.put d u).tmps.size = a.tmps.size := by cases d <;> simp [Act.put]
theorem put_defers' (a : Act) (d : Option Tmp) (u : Value) : (a.put d u).defers = a.defers := by cases d <;> rfl
theorem void_rel {m : Mem} {x : SV} {v : Value} (h : SVRel w (okOf ow m) may ow m x v) (hx : isVoid x = true) : v = undef := by
  cases x with
  | tup cs =>
    cases cs with
    | nil =>
      obtain ⟨vs, rfl, h⟩ := h
      rw [F2.nil_left h]; rfl
    | cons _ _ => cases hx
  | _ => cases hx
theorem void_undef {m : Mem} {ok : Nat → Prop} : SVRel w ok may ow m (.tup []) undef := ⟨[], rfl, trivial⟩
theorem yielded_void {ops : Array Oper} {g d : Nat} (F : FrRel w (okOf ow s.m) may ow s a) (hd : (ops.toList[g]?).bind (·.dst) = some d) (hb : isVoid (s.get d) = true) : yielded ops a.tmps g = none := by
  have h1 := void_rel (F d) hb
  have hd' : (ops[g]?).bind (·.dst) = some d := by simpa using hd
  cases h : a.tmps[d]? with
  | none => simp [yielded, hd', h]
  | some v =>
    have : v = undef := by simpa [h] using h1
    subst this
    simp [yielded, hd', h, undef]
theorem yielded_rel {ops : Array Oper} {g d : Nat} {b : Bool} (F : FrRel w (okOf ow s.m) may ow s a) (hd : (ops.toList[g]?).bind (·.dst) = some d) (hb : (s.get d).bool? = some b) : yielded ops a.tmps g = some b := by
  have h1 := bool?_rel (F d) hb
  have hd' : (ops[g]?).bind (·.dst) = some d := by simpa using hd
  have : a.tmps[d]? = some (.bool b) := by
    cases h : a.tmps[d]? with
    | none => simp [h, undef] at h1
    | some v => simpa [h] using h1
  simp [yielded, hd', this]
/-- One operation of a region, its question included. -/
def StepGo (P : Program) (may : Nat → Prop) (w : World) (ow : Ow) (s : S) (ops : Array Oper) (o : Oper) (a : Act) (c : S → Bool → SV → Mem → Option R) (r : R) : Prop :=
  ∃ s' wt sv m', s'.m = s.m ∧ FrRel w (okOf ow s.m) may ow s' a ∧ c s' wt sv m' = some r ∧
    ((wt = true ∧ Region.wanted o (yielded ops a.tmps) = true ∧ ∀ (K : Act → World → Prop) (Q : Exit → Act → World → Prop),
      (∀ v w' ow', MemRel w' may ow' m' → Keep may w ow s.m w' ow' m' → SVRel w' (okOf ow' m') may ow' m' sv v → K (a.put o.dst v) w') → o.wp P a w K Q) ∨
     (wt = false ∧ Region.wanted o (yielded ops a.tmps) = false ∧ m' = s.m ∧ sv = .tup []))
theorem evalG_ok (TK : TabOk P T) (CK : CalsOk P C) (M : MemRel w may ow s.m) (hL : Live C may w ow s.m) (F : FrRel w (okOf ow s.m) may ow s a) {ops : Array Oper} {o : Oper} {c : S → Bool → SV → Mem → Option R}
    (h : evalG C T ops.toList o s c = some r) : StepGo P may w ow s ops o a c r := by
  unfold evalG at h
  have yes : ∀ s' : S, s'.m = s.m → FrRel w (okOf ow s.m) may ow s' a → Region.wanted o (yielded ops a.tmps) = true → evalOp C T s' o (fun v m => c s' true v m) = some r → StepGo P may w ow s ops o a c r := by
    intro s' e F' hw h
    obtain ⟨sv, m', h1, h2⟩ := evalOp_ok (s := s') TK CK (by rw [e]; exact M) (by rw [e]; exact hL) (by rw [e]; exact F') h
    exact ⟨s', true, sv, m', e, F', h1, .inl ⟨rfl, hw, fun K Q hK => h2 K Q fun v w' ow' h3 h4 h5 => hK v w' ow' h3 (by rw [← e]; exact h4) h5⟩⟩
  split at h
  · rename_i hg
    exact yes s rfl F (by simp [Region.wanted, hg]) h
  · rename_i g want hg
    split at h
    case h_1 => cases h
    rename_i d hd
    cases hvd : isVoid (s.get d) with
    | true =>
      rw [hvd] at h
      exact ⟨s, false, .tup [], s.m, rfl, F, h, .inr ⟨rfl, by simp [Region.wanted, hg, yielded_void F hd hvd], rfl, rfl⟩⟩
    | false =>
    rw [hvd] at h
    simp only [cond_false] at h
    split at h
    case h_1 => cases h
    rename_i b hb
    have hy := yielded_rel F hd hb
    have hF : ∀ b', b = b' → FrRel w (okOf ow s.m) may ow (s.refine (.tmp d) b') a := by
      rintro _ rfl
      exact FrRel.refine (m := s.m) F (x := .tmp d) ((opd_bool s d).trans hb)
    have no : ∀ b', b = b' → want = !b' → c (s.refine (.tmp d) b') false (.tup []) (s.refine (.tmp d) b').m = some r → StepGo P may w ow s ops o a c r := by
      intro b' e hw h
      exact ⟨_, false, .tup [], _, refine_m _ _ _, hF b' e, h, .inr ⟨rfl, by simp [Region.wanted, hg, hy, e, hw], refine_m _ _ _, rfl⟩⟩
    cases b with
    | true =>
      cases want with
      | true => exact yes _ (refine_m _ _ _) (hF true rfl) (by simp [Region.wanted, hg, hy]) h
      | false => exact no true rfl rfl h
    | false =>
      cases want with
      | true => exact no false rfl rfl h
      | false => exact yes _ (refine_m _ _ _) (hF false rfl) (by simp [Region.wanted, hg, hy]) h
/-- What holds of a call that is under way, at a state. -/
structure At (P : Program) (N : Nat) (may : Nat → Prop) (w0 : World) (ow0 : Ow) (m0 : Mem) (a0 : Act) (s : S) (a : Act) (w : World) (ow : Ow) : Prop where
  mem : MemRel w may ow s.m
  fr : FrRel w (okOf ow s.m) may ow s a
  keep : Keep may w0 ow0 m0 w ow s.m
  size : a.tmps.size = N
  defers : a.defers = a0.defers
theorem At.refl {N : Nat} {a : Act} (M : MemRel w may ow s.m) (F : FrRel w (okOf ow s.m) may ow s a) (hN : a.tmps.size = N) : At P N may w ow s.m a s a w ow := ⟨M, F, Keep.refl _ _ _ _, hN, rfl⟩
theorem At.trans {N : Nat} {s1 s2 : S} {a a1 a2 : Act} {w w1 w2 : World} {ow ow1 ow2 : Ow} {m : Mem} (h : At P N may w ow m a s1 a1 w1 ow1) (k : At P N may w1 ow1 s1.m a1 s2 a2 w2 ow2) : At P N may w ow m a s2 a2 w2 ow2 :=
  ⟨k.mem, k.fr, h.keep.trans k.keep, k.size, k.defers.trans h.defers⟩
theorem wanted_at {ops : Array Oper} {k : Nat} {o : Oper} (h : ops[k]? = some o) {Q : Exit → Act → World → Prop} {l : List Nat} {a : Act} {w : World} :
    wpOps P ops Q (k :: l) a w = (if Region.wanted o (yielded ops a.tmps) then o.wp P a w (wpOps P ops Q l) Q ∨ (o.asks P a w ∧ LetsOut Q) else wpOps P ops Q l (a.put o.dst undef) w) := by
  simp [wpOps, h]
theorem At.step {N : Nat} (hN : a.tmps.size = N) {s' : S} (e : s'.m = s.m) (F' : FrRel w (okOf ow s.m) may ow s' a) {m' : Mem} (M' : MemRel w' may ow' m') (K' : Keep may w ow s.m w' ow' m') {d : Option Nat} (hd : dstOk N d = true) {sv : SV} {v : Value}
    (hv : SVRel w' (okOf ow' m') may ow' m' sv v) : At P N may w ow s.m a (s'.put d sv m') (a.put d v) w' ow' := by
  refine ⟨by rw [put_m]; exact M', ?_, by rw [put_m]; exact K', by rw [put_size]; exact hN, put_defers' _ _ _⟩
  have := FrRel.put (s := s') (w := w) (ow := ow) (a := a) (m' := m') (d := d) (v := sv) (u := v) (by rw [e]; exact F') (by rw [e]; exact K') hd hN hv
  rw [put_m]; exact this
theorem evalOps_ok (TK : TabOk P T) (CK : CalsOk P C) {ops : Array Oper} {N : Nat} {c : S → Option R} {Q : Exit → Act → World → Prop} : ∀ (l : List Oper) (k : Nat) (s : S) (a : Act) (w : World) (ow : Ow), (∀ j, l[j]? = ops[k + j]?) → Live C may w ow s.m →
    MemRel w may ow s.m → FrRel w (okOf ow s.m) may ow s a → a.tmps.size = N → evalOps C T N ops.toList l s c = some r →
    (∀ s' a' w' ow', c s' = some r → At P N may w ow s.m a s' a' w' ow' → Q .normal a' w') → wpOps P ops Q (List.range' k l.length) a w
  | [], k, s, a, w, ow, hl, hm, M, F, hN, h, hQ => hQ s a w ow h (At.refl M F hN)
  | o :: l, k, s, a, w, ow, hl, hm, M, F, hN, h, hQ => by
    obtain ⟨hd, h⟩ := cond_none h
    have h0 : ops[k]? = some o := by simpa using (hl 0).symm
    have hl' : ∀ j, l[j]? = ops[k + 1 + j]? := fun j => by have := hl (j + 1); simpa [Nat.add_assoc, Nat.add_comm 1 j] using this
    obtain ⟨s', wt, sv, m', e, F', h1, h2⟩ := evalG_ok TK CK M hm F h
    rw [List.length_cons, List.range'_succ, wanted_at h0]
    have key : ∀ v w' ow', MemRel w' may ow' m' → Keep may w ow s.m w' ow' m' → SVRel w' (okOf ow' m') may ow' m' sv v → wpOps P ops Q (List.range' (k + 1) l.length) (a.put o.dst v) w' := by
      intro v w' ow' M' K' hv
      have A := At.step (P := P) hN e F' M' K' hd hv
      exact evalOps_ok TK CK l (k + 1) _ _ w' ow' hl' (by rw [put_m]; exact hm.keep K') A.mem A.fr A.size h1 fun s2 a2 w2 ow2 h3 A2 => hQ s2 a2 w2 ow2 h3 (A.trans A2)
    rcases h2 with ⟨_, hw, h2⟩ | ⟨_, hw, rfl, rfl⟩
    · rw [if_pos hw]
      exact .inl (h2 _ _ key)
    · rw [if_neg (by simp [hw])]
      exact key undef w ow M (Keep.refl _ _ _ _) void_undef
/-- A region that does not draw. -/
theorem region_ok (TK : TabOk P T) (CK : CalsOk P C) {id : Nat} {ops : Array Oper} {N : Nat} {c : S → Option R} {Q : Exit → Act → World → Prop} (hm : Live C may w ow s.m) (M : MemRel w may ow s.m) (F : FrRel w (okOf ow s.m) may ow s a) (hN : a.tmps.size = N)
    (h : evalOps C T N ops.toList ops.toList s c = some r) (hQ : ∀ s' a' w' ow', c s' = some r → At P N may w ow s.m a s' a' w' ow' → Q .normal a' w') : (Code.region id ops false).wp P Q a w := by
  refine wp_region ?_
  rw [List.range_eq_range']
  have := evalOps_ok TK CK (Q := Q) ops.toList 0 s a w ow (by simp) hm M F hN h hQ
  simpa using this
end
end Go.Fx
