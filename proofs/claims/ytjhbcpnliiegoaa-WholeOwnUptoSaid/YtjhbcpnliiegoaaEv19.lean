/- What a function says of itself, from its evaluation. -/
import Derived.Test.YtjhbcpnliiegoaaEv18
namespace Go.Fx
open Go Go.RowKit
set_option linter.unusedVariables false
set_option linter.unusedSimpArgs false
section
variable {P : Program} {T : Tab} {C : Cals} {w : World} {may : Nat → Prop} {ow : Ow} {m : Mem} {s : S} {a : Act}
theorem argC_rel {ok : Nat → Prop} {okA : Nat → Prop} {fr : Bool} {p : Bool × K} {x : p.2.T} {v : Value} (h1 : ∀ b, okA b → okf ok may fr b) (h : RdV w okA p x v) : CmpRel w ok may ow (argC fr p x) v := by
  unfold RdV at h
  unfold argC
  cases hp : p.1 with
  | true =>
    rw [hp] at h
    simp only [if_true] at h ⊢
    obtain ⟨cs, rfl, h⟩ := h
    exact ⟨cs, rfl, split_rel (Rd.mono h1 h)⟩
  | false =>
    rw [hp] at h
    simp only [Bool.false_eq_true, if_false] at h ⊢
    have h2 := split_rel (ow := ow) (Rd.mono h1 h)
    have hl := h2.len
    split
    · rename_i l he
      rw [he] at h2
      exact h2.1
    · rename_i hne
      match hq : splitK fr p.2 x, hl with
      | [l], _ => exact absurd hq (hne l)
theorem argFr_mem {ok : Nat → Prop} {okA : Nat → Prop} {fr : Bool} (h1 : ∀ b, okA b → okf ok may fr b) : ∀ {ps : List (Bool × K)} {i : Nat} {x : argT ps} {vs : List Value} {q : Nat × SV}, RdArgs w okA ps x vs → q ∈ argFr fr ps i x → ∃ v, vs[q.1 - i]? = some v ∧ i ≤ q.1 ∧ SVRel w ok may ow m q.2 v
  | [], i, x, vs, q, h, hq => by simp [argFr] at hq
  | p :: ps, i, x, vs, q, ⟨v, vr, e, hv, hr⟩, hq => by
    subst e
    rcases List.mem_cons.1 hq with rfl | hq
    · exact ⟨v, by simp, Nat.le_refl _, argC_rel h1 hv⟩
    · obtain ⟨u, h2, h3, h4⟩ := argFr_mem h1 hr hq
      refine ⟨u, ?_, by omega, h4⟩
      rw [show q.1 - i = (q.1 - (i + 1)) + 1 by omega]
      simpa using h2
theorem RdArgs.len {okA : Nat → Prop} : ∀ {ps : List (Bool × K)} {x : argT ps} {vs : List Value}, RdArgs w okA ps x vs → vs.length = ps.length
  | [], x, vs, h => by obtain rfl := h; rfl
  | p :: ps, x, vs, ⟨v, vr, e, _, hr⟩ => by subst e; simp [hr.len]
theorem ofCs_rel {ok : Nat → Prop} {cs : List Cmp} {us : List Value} (h : F2 (CmpRel w ok may ow) cs us) : SVRel w ok may ow m (ofCs cs) (if h : us.toArray.size = 1 then us.toArray[0] else .tuple us.toArray) := by
  match cs, us, h with
  | [], [], h => exact ⟨[], rfl, trivial⟩
  | [c], [u], h => exact h.1
  | c :: d :: cs, u :: v :: us, h => exact ⟨_, rfl, h⟩
  | [], _ :: _, h => exact h.elim
  | [c], [], h => exact h.elim
  | [c], u :: v :: us, h => exact h.2.elim
  | c :: d :: cs, [], h => exact h.elim
  | c :: d :: cs, [u], h => exact h.2.elim
theorem thaw_rd {okR ok : Nat → Prop} (H : ∀ b, okR b → ok b) : ∀ {rs : List (Bool × K)} {y : argT rs} {us : List Value} {n : Nat}, RdArgs w okR rs y us → ∃ cs', thaw false false n rs y = some (cs', []) ∧ F2 (CmpRel w ok may ow) cs' us
  | [], y, us, n, h => ⟨[], rfl, by obtain rfl := h; trivial⟩
  | p :: rs, y, us, n, ⟨v, vr, e, hv, hr⟩ => by
    subst e
    obtain ⟨cs', h1, h2⟩ := thaw_rd (n := n) H hr
    unfold RdV at hv
    cases hp : p.1 with
    | true =>
      rw [hp] at hv
      simp only [if_true] at hv
      obtain ⟨es, rfl, hv⟩ := hv
      refine ⟨.agg (splitK false p.2 y.1) :: cs', by simp [thaw, hp, mkC, h1], ⟨es, rfl, split_rel (Rd.mono (fun b hb => ⟨H b hb, fun e => by cases e⟩) hv)⟩, h2⟩
    | false =>
      rw [hp] at hv
      simp only [Bool.false_eq_true, if_false] at hv
      have h3 := split_rel (fr := false) (may := may) (ow := ow) (ok := ok) (Rd.mono (fun b hb => ⟨H b hb, fun e => by cases e⟩) hv)
      have hl := h3.len
      match hq : splitK false p.2 y.1, hl with
      | [l], _ =>
        rw [hq] at h3
        exact ⟨.lf l :: cs', by simp [thaw, hp, mkC, h1, hq], h3.1, h2⟩
end
end Go.Fx
