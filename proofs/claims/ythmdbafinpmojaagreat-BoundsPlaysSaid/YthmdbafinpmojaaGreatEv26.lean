/- A law's argument that is a sign and a list of limbs. -/
import Derived.Test.YthmdbafinpmojaaGreatEv25
import Derived.ChangeSame
import Derived.WideShapes
import Derived.SizedLaws
namespace Go.Fx
open Go Go.RowKit Go.ChangeShapes Go.WideShapes Go.ChangeAt
set_option linter.unusedVariables false
set_option linter.unusedSimpArgs false

section
variable {H : Type} {enc : TypeId × Value → H} {P : Program} {W : World}

theorem ints_cell {base : Nat} {held : Bool} {t e : TypeId} {k : IntKind} {fuel : Nat} {cs : List Value} {x : DataW H × List MemPlace}
    (hu : P.underlying t = some (.slice e)) (he : P.underlying e = some (.int k)) (hc : P.cellsOf e = 1) (h : DataW.trod enc P W base (fun _ => true) held fuel t cs = some x) :
    ∃ xs : List Int, Rd W (fun _ => True) (.sl e (.int k)) xs cs ∧ (∀ x ∈ xs, (Lit.int k x).wf = true) ∧ (xs.length = 0 ∨ ∃ elems spare : List (DataW H), x.1 = .slice elems spare ∧ xs.length ≤ elems.length + spare.length) := by
  rcases open_ints hu he hc h with ⟨rfl, _⟩ | ⟨a, len, cap, zs, rfl, _, hl, hm, hz, rfl, hcell, hwz⟩
  · exact ⟨[], ⟨none, 0, rfl, Nat.le_refl _, fun i x hx => by cases i <;> cases hx⟩, by simp, .inl rfl⟩
  · have hz' : zs.length = cap := by simpa using hz
    have hl2 : len ≤ zs.length := by omega
    have hlen : (zs.take len).length = len := by simp; omega
    refine ⟨zs.take len, ⟨some a, cap, (by show _ = [Value.slice (some a) (List.length (α := Int) (zs.take len)) cap]; rw [hlen]), (by show List.length (α := Int) (zs.take len) ≤ cap; omega), fun i y hy => ?_⟩, fun y hy => hwz y (List.mem_of_mem_take hy), .inr ⟨_, _, rfl, ?_⟩⟩
    · have hy : (zs.take len)[i]? = some y := hy
      have hi : i < len := by
        have := (List.getElem?_eq_some_iff.1 hy).1
        omega
      have hy' : zs[i]? = some y := by rw [List.getElem?_take] at hy; simpa [hi] using hy
      have hcell' := hcell i (by omega)
      have hgd : zs.getD i 0 = y := by simp only [List.getD, hy']; rfl
      rw [hgd] at hcell'
      refine ⟨a, [.int k y], rfl, ?_, trivial, rfl, fun j u hu => ?_⟩
      · have := lt_of_cell hcell'
        rwa [Addr.add_block] at this
      · cases j with
        | zero => simp at hu; subst hu; simpa [K.n] using hcell'
        | succ j => simp at hu
    · have h1 : (lits (H := H) k (zs.take len)).length + (lits (H := H) k (zs.drop len)).length = zs.length := by
        simp [lits]
        omega
      omega

/-- An argument that is a struct of a truth value and a slice of whole numbers. -/
theorem whole_open {base b0 : Nat} {r : Reach} {held : Bool} {t tb ts e : TypeId} {f0 f1 : Field} {k : IntKind} {v : Value} {d : DataW H} {ps : List MemPlace}
    (hval : Value.okWide P W r b0 t v) (ht : P.underlying t = some (.struct #[f0, f1])) (h2 : P.cellsOf t = 2) (e0 : f0.type = tb) (o0 : f0.offset = 0) (e1 : f1.type = ts) (o1 : f1.offset = 1)
    (hb : P.underlying tb = some .bool) (hb1 : P.cellsOf tb = 1) (hs : P.underlying ts = some (.slice e)) (hs1 : P.cellsOf ts = 1) (he : P.underlying e = some (.int k)) (hc : P.cellsOf e = 1)
    (h : DataW.Trod enc P W base (fun _ => true) held t v d ps) :
    ∃ (b : Bool) (xs : List Int), RdV W (fun _ => True) (true, .prod .bool (.sl e (.int k))) (b, xs) v ∧ (∀ x ∈ xs, (Lit.int k x).wf = true) ∧
      ∃ d1, d = .agg [.lit (.bool b), d1] ∧ (xs.length = 0 ∨ ∃ elems spare : List (DataW H), d1 = .slice elems spare ∧ xs.length ≤ elems.length + spare.length) := by
  obtain ⟨cs, rfl, hsz⟩ := okWide_struct ht hval
  obtain ⟨fuel, hf⟩ := h
  obtain ⟨y0, y1, n, hx, hl, g0, g1⟩ := trod_struct2 ht hf
  obtain ⟨rfl, _⟩ := Prod.mk.inj hx
  subst e0; subst e1
  have hl : cs.toList.length = 2 := by rw [← h2]; exact hl
  obtain ⟨c0, c1, hcs⟩ : ∃ c0 c1, cs.toList = [c0, c1] := by
    match cs.toList, hl with
    | [c0, c1], _ => exact ⟨c0, c1, rfl⟩
  have hcl : (Value.agg cs).cells.toList = [c0, c1] := hcs
  rw [hcl, o0, hb1] at g0
  rw [hcl, o1, hs1] at g1
  simp only [List.drop_zero, List.drop_succ_cons, List.take_succ_cons, List.take_zero] at g0 g1
  obtain ⟨b, hcb, hyb⟩ := DataW.trod_bool hb g0
  obtain ⟨xs, hr, hw, hsz⟩ := ints_cell hs he hc g1
  subst hyb
  refine ⟨b, xs, ?_, hw, _, rfl, hsz⟩
  show ∃ cs' : List Value, Value.agg cs = .agg cs'.toArray ∧ Rd W _ _ _ cs'
  refine ⟨[c0, c1], by rw [← hcs], [c0], [c1], rfl, ?_, hr⟩
  exact hcb

theorem whole_size {ts : List TypeId} {ds : List (DataW H)} {j : Nat} {t tsl e : TypeId} {f0 f1 : Field} {x d1 : DataW H} {n B : Nat} (h : (DataW.weightsEach P ts ds).all (· ≤ reachBytes) = true)
    (htj : ts[j]? = some t) (hdj : ds[j]? = some (.agg [x, d1])) (ht : P.underlying t = some (.struct #[f0, f1])) (e1 : f1.type = tsl) (hs : P.underlying tsl = some (.slice e))
    (hn : n = 0 ∨ ∃ elems spare : List (DataW H), d1 = .slice elems spare ∧ n ≤ elems.length + spare.length) (hB : P.bytesOf e = B) : n * B ≤ 140737488351232 := by
  rcases hn with rfl | ⟨elems, spare, rfl, hn⟩
  · simp
  · subst e1
    have h1 : (elems.length + spare.length) * P.bytesOf e ∈ DataW.weights P t (.agg [x, .slice elems spare]) := by
      simp only [DataW.weights, ht]
      refine DataW.weights_mem_each (j := 1) (t := f1.type) (d := .slice elems spare) rfl rfl _ ?_
      simp [DataW.weights, hs]
    have h2 := List.all_eq_true.1 h _ (DataW.weights_mem_each htj hdj _ h1)
    rw [hB] at h2
    have h3 : (elems.length + spare.length) * B ≤ 140737488351232 := of_decide_eq_true h2
    exact Nat.le_trans (Nat.mul_le_mul_right _ hn) h3
end
end Go.Fx
