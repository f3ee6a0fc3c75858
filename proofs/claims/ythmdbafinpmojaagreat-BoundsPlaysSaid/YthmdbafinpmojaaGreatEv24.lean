/- A law's arguments, as data. -/
import Derived.Test.YthmdbafinpmojaaGreatEv23
import Derived.WalkKit
import Derived.ProofKit
import Derived.OpenShut
import Derived.ShutString
import Derived.ChangeOld
import Derived.ChangeSlices
import Derived.Below
import Derived.SizedLaws
namespace Go.Fx
open Go Go.RowKit Go.ChangeShapes Go.WideShapes Go.ChangeAt
set_option linter.unusedVariables false
set_option linter.unusedSimpArgs false

section
variable {H : Type} {enc : TypeId × Value → H} {P : Program} {W : World}

/-- An argument that is a slice of whole numbers: its data, each within its kind, and no more of them than their weight allows. -/
theorem ints_arg {base b0 : Nat} {r : Reach} {spare : Nat → Bool} {held : Bool} {t e : TypeId} {k : IntKind} {v : Value} {d : DataW H} {ps : List MemPlace} {ts : List TypeId} {ds : List (DataW H)} {j B : Nat}
    (hval : Value.okWide P W r b0 t v) (hu : P.underlying t = some (.slice e)) (he : P.underlying e = some (.int k)) (hc : P.cellsOf e = 1) (h : DataW.Trod enc P W base (fun _ => true) held t v d ps)
    (hsz : (DataW.weightsEach P ts ds).all (· ≤ reachBytes) = true) (ht : ts[j]? = some t) (hd : ds[j]? = some d) (hB : P.bytesOf e = B) :
    ∃ xs : List Int, Rd W (fun _ => True) (.sl e (.int k)) xs [v] ∧ (∀ x ∈ xs, (Lit.int k x).wf = true) ∧ xs.length * B ≤ 140737488351232 := by
  obtain ⟨a, len, cap, rfl⟩ := okWide_slice hu hval
  have h0 := h
  obtain ⟨fuel, hf⟩ := h
  rcases open_ints hu he hc hf with ⟨hcs, _⟩ | ⟨x, l, c, zs, hcs, _, hl, hm, hz, hx, hcell, hwz⟩
  · simp [Value.cells] at hcs
    obtain ⟨rfl, rfl, rfl⟩ := hcs
    exact ⟨[], ⟨none, 0, rfl, Nat.le_refl _, fun i x hx => by cases i <;> cases hx⟩, by simp, by simp⟩
  · simp [Value.cells] at hcs
    obtain ⟨rfl, rfl, rfl⟩ := hcs
    obtain ⟨hx, _⟩ := Prod.mk.inj hx
    subst hx
    have z := sized_slice hsz ht hd hu
    rw [hB] at z
    have hz' : zs.length = cap := by simpa using hz
    have hl2 : len ≤ zs.length := by omega
    have hlen : (zs.take len).length = len := by simp; omega
    refine ⟨zs.take len, ⟨some x, cap, (by show _ = [Value.slice (some x) (List.length (α := Int) (zs.take len)) cap]; rw [hlen]), (by show List.length (α := Int) (zs.take len) ≤ cap; omega), fun i y hy => ?_⟩, fun y hy => hwz y (List.mem_of_mem_take hy), ?_⟩
    · have hy : (zs.take len)[i]? = some y := hy
      have hi : i < len := by
        have := (List.getElem?_eq_some_iff.1 hy).1
        omega
      have hy' : zs[i]? = some y := by rw [List.getElem?_take] at hy; simpa [hi] using hy
      have hcell' := hcell i (by omega)
      have hgd : zs.getD i 0 = y := by simp only [List.getD, hy']; rfl
      rw [hgd] at hcell'
      refine ⟨x, [.int k y], rfl, ?_, trivial, rfl, fun j u hu => ?_⟩
      · have := lt_of_cell hcell'
        rwa [Addr.add_block] at this
      · cases j with
        | zero => simp at hu; subst hu; simpa [K.n] using hcell'
        | succ j => simp at hu
    · rw [hlen]
      have h1 : (lits (H := H) k (zs.take len)).length + (lits (H := H) k (zs.drop len)).length = zs.length := by
        simp [lits]
        omega
      rw [h1] at z
      exact Nat.le_trans (Nat.mul_le_mul_right _ hl2) z
end

/-- A law's call, out of its contract. -/
theorem calls_true {P : Program} {tabs : Nat → Option Tbl} {g : FuncId} {ps : List (Bool × K)} {fn : argT ps → Option (Bool × Unit)} {md : Md} (h : CalOk P tabs g ⟨ps, [(false, .bool)], md, fn⟩) {x : argT ps} (hx : fn x = some (true, ())) {w : World} {vs : List Value} (hT : Tabled tabs w) (hr : RdArgs w (fun _ => True) ps x vs) :
    Calls P g vs.toArray w fun e w' => e = .returned (.bool true) ∧ Below w.heap.size w w' := by
  refine (h.contract w (fun _ => True) x (true, ()) vs hT hx hr).mono fun e w' ⟨v, cs, rows, ow', he, ht, M, hv, hb⟩ => ?_
  subst he
  refine ⟨?_, hb⟩
  cases md <;> (simp [thaw, Md.isOwn, thawL, splitK, mkC] at ht; obtain ⟨rfl, rfl⟩ := ht; have h1 := bool?_rel hv rfl; rw [h1])
end Go.Fx
