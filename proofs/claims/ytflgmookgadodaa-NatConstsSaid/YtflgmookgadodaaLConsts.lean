/- NatConsts. -/
import Derived.Test.YtflgmookgadodaaWConsts
import Derived.Test.YtflgmookgadodaaRows
import Derived.WalkKit
import Derived.ProofKit
import Derived.OpenShut
import Derived.ChangeOld
import Derived.Below
import Derived.SizedLaws
namespace Go.Fx.Try
open Go Go.Proofs Go.Fx Go.RowKit
theorem trim70 : nat_trim.F ([7, 0], ()) = some ([7], ()) := nat_trim.of 4 [7, 0] (by kernel_rfl)
theorem own70 : nat_own.F ([7, 0], ()) = some ([7], ()) := nat_own.of 0 [7, 0] (by unfold nat_own.e; rw [trim70]; kernel_rfl)
theorem of7 : nat_Of.F (7, ()) = some ([7], ()) := nat_Of.of 0 7 (by
  have h : nat_Of.e 7 = (nat_own.F ([7, 0], ())).bind fun y5 => some (y5.1, ()) := by kernel_rfl
  rw [h, own70]; rfl)
theorem Same7 : fulcrumref01_Same.F ([7], [7], ()) = some (true, ()) := fulcrumref01_Same.of 4 [7] [7] (by kernel_rfl)
theorem same7 : fulcrumlaw01_same.F ([7], [7], ()) = some (true, ()) := fulcrumlaw01_same.of 0 [7] [7] (by unfold fulcrumlaw01_same.e; rw [Same7]; rfl)
theorem consts : fulcrumlaw01_NatConsts.F () = some (true, ()) := fulcrumlaw01_NatConsts.of 0 (by unfold fulcrumlaw01_NatConsts.e; rw [of7]; simp [same7])

/-- A law's call, out of its contract. -/
theorem calls_true {P : Program} {g : FuncId} {ps : List (Bool × K)} {fn : argT ps → Option (Bool × Unit)} {md : Md} (h : CalOk P g ⟨ps, [(false, .bool)], md, fn⟩) {x : argT ps} (hx : fn x = some (true, ())) {w : World} {vs : List Value} (hr : RdArgs w (fun _ => True) ps x vs) :
    Calls P g vs.toArray w fun e w' => e = .returned (.bool true) ∧ Below w.heap.size w w' := by
  refine (h.contract w (fun _ => True) x (true, ()) vs hx hr).mono fun e w' ⟨v, cs, rows, ow', he, ht, M, hv, hb⟩ => ?_
  subst he
  refine ⟨?_, hb⟩
  cases md <;> (simp [thaw, Md.isOwn, thawL, splitK, mkC] at ht; obtain ⟨rfl, rfl⟩ := ht; have h1 := bool?_rel hv rfl; rw [h1])

theorem consts_calls (w : World) : Calls Try.prog 3 #[] w fun e w' => e = .returned (.bool true) ∧ Below w.heap.size w w' :=
  calls_true (ps := []) (fn := fulcrumlaw01_NatConsts.F) (md := .own) fulcrumlaw01_NatConsts.cal consts rfl
end Go.Fx.Try
