/- A law's arguments, as data: a slice of whole numbers and how its reading looks. -/
import Derived.Test.YthmdbafinpmojaaGreatEv24
namespace Go.Fx
open Go Go.RowKit Go.ChangeShapes Go.WideShapes Go.ChangeAt
set_option linter.unusedVariables false
set_option linter.unusedSimpArgs false

section
variable {H : Type} {enc : TypeId × Value → H} {P : Program} {W : World}

/-- An argument that is a slice of whole numbers: its data, each within its kind; its reading has at least so many parts. -/
theorem ints_open {base b0 : Nat} {r : Reach} {held : Bool} {t e : TypeId} {k : IntKind} {v : Value} {d : DataW H} {ps : List MemPlace}
    (hval : Value.okWide P W r b0 t v) (hu : P.underlying t = some (.slice e)) (he : P.underlying e = some (.int k)) (hc : P.cellsOf e = 1) (h : DataW.Trod enc P W base (fun _ => true) held t v d ps) :
    ∃ xs : List Int, Rd W (fun _ => True) (.sl e (.int k)) xs [v] ∧ (∀ x ∈ xs, (Lit.int k x).wf = true) ∧ (xs.length = 0 ∨ ∃ elems spare : List (DataW H), d = .slice elems spare ∧ xs.length ≤ elems.length + spare.length) := by
  obtain ⟨a, len, cap, rfl⟩ := okWide_slice hu hval
  have h0 := h
  obtain ⟨fuel, hf⟩ := h
  rcases open_ints hu he hc hf with ⟨hcs, _⟩ | ⟨x, l, c, zs, hcs, _, hl, hm, hz, hx, hcell, hwz⟩
  · simp [Value.cells] at hcs
    obtain ⟨rfl, rfl, rfl⟩ := hcs
    exact ⟨[], ⟨none, 0, rfl, Nat.le_refl _, fun i x hx => by cases i <;> cases hx⟩, by simp, .inl rfl⟩
  · simp [Value.cells] at hcs
    obtain ⟨rfl, rfl, rfl⟩ := hcs
    obtain ⟨hx, _⟩ := Prod.mk.inj hx
    subst hx
    have hz' : zs.length = cap := by simpa using hz
    have hl2 : len ≤ zs.length := by omega
    have hlen : (zs.take len).length = len := by simp; omega
    refine ⟨zs.take len, ⟨some x, cap, (by show _ = [Value.slice (some x) (List.length (α := Int) (zs.take len)) cap]; rw [hlen]), (by show List.length (α := Int) (zs.take len) ≤ cap; omega), fun i y hy => ?_⟩, fun y hy => hwz y (List.mem_of_mem_take hy), .inr ⟨_, _, rfl, ?_⟩⟩
    · have hy : (zs.take len)[i]? = some y := hy
      have hi : i < len := by
        have := (List.getElem?_eq_some_iff.1 hy).1
        omega
      have hy' : zs[i]? = some y := by rw [List.getElem?_take] at hy; simpa [hi] using hy
      have hcell' := hcell i (by omega)
      have hgd : zs.getD i 0 = y := by simp only [List.getD, hy']; rfl
      rw [hgd] at hcell'
      refine ⟨x, [.int k y], rfl, ?_, trivial, rfl, fun j u hu => ?_⟩
      · have := lt_of_cell hcell'
        rwa [Addr.add_block] at this
      · cases j with
        | zero => simp at hu; subst hu; simpa [K.n] using hcell'
        | succ j => simp at hu
    · have h1 : (lits (H := H) k (zs.take len)).length + (lits (H := H) k (zs.drop len)).length = zs.length := by
        simp [lits]
        omega
      omega
end
end Go.Fx
