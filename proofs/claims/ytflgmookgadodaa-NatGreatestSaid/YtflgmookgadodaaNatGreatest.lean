/- NatGreatest: the statement, from what the walked function answers. -/
import Derived.Test.YtflgmookgadodaaLGreatest
import Derived.Test.YtflgmookgadodaaRows
import Derived.Test.YtflgmookgadodaaEv26
import Derived.WalkKit
import Derived.ProofKit
import Derived.OpenShut
import Derived.ShutString
import Derived.ChangeOld
import Derived.Below
import Derived.SizedLaws
namespace Go.Proofs.Ytflgmookgadodaa.natGreatest
open Go Go.Proofs Go.ChangeShapes Go.WideShapes Go.ChangeAt Go.RowKit Go.Fx
open Go.ChangeMaps (open_string shut_string)
set_option linter.unusedVariables false
theorem own : ownKnob Try.prog.godebug = none := by kernel_rfl
theorem laidOut : laidOutB Try.prog = true := by kernel_rfl
set_option maxRecDepth 100000 in
theorem lifted (os : Os) (started : os.Started) (H : Type) (enc : TypeId × Value → H) :
    ReturnsInHanded {} Try.checked os 13 .any (Rows.natGreatestSpec.pre6 enc Try.prog Try.f13 Rows.natGreatestRow.domain false) (Rows.natGreatestSpec.post enc Try.prog Try.f13 false true false false) := by
  refine returnsInHanded_of_change_sized (C := Try.checked) own started (by kernel_rfl) Try.func13
    (ChangeSpec.witness6 (enc := enc) (C := Try.checked) false ⟨#[], #[.slice none 0 0, .slice none 0 0, .slice none 0 0], []⟩ 8 (by kernel_rfl) (by kernel_rfl) (by kernel_rfl) (by kernel_rfl)) ?_
  intro W base args ds gs before hval0 hW hcnd hsz0 _
  have hval : ∀ (j : Nat) t v, Try.f13.params[j]? = some t → args[j]? = some v → Value.okWide Try.prog W .any base t v := hval0
  have hW' := hW
  obtain ⟨p, q, hA0, hV, rfl, hfz, hnd⟩ := hW
  have hA : DataW.TrodAll enc Try.prog W 0 (fun _ => true) true Try.f13.params.toList args.toList ds p := hA0
  have hsz : (DataW.weightsEach Try.prog (Try.f13.params.toList ++ Rows.natGreatestSpec.plain.varTypes Try.prog) (ds ++ gs)).all (· ≤ reachBytes) = true := hsz0
  rw [Try.params13] at hA hval hsz
  obtain ⟨v0, vs0, d0, ds0, p0, q0, hargs, rfl, rfl, h0, r0⟩ := trodAll_cons hA
  obtain ⟨v1, vs1, d1, ds1, p1, q1, rfl, rfl, rfl, h1, r1⟩ := trodAll_cons r0
  obtain ⟨v2, vs2, d2, ds2, p2, q2, rfl, rfl, rfl, h2, r2⟩ := trodAll_cons r1
  obtain ⟨rfl, rfl, rfl⟩ := trodAll_nil r2
  obtain rfl : args = #[v0, v1, v2] := by cases args; simp_all
  obtain ⟨rfl, rfl⟩ := trodVars_none hV
  have k0 := h0
  have lt0 : ∀ x ∈ p0, x.block < W.heap.size := by obtain ⟨m, hm⟩ := k0; exact DataW.trod_lt m _ _ _ hm
  obtain ⟨xs0, rd0, wf0, ln0⟩ := Go.Fx.ints_arg (spare := fun _ => true) (j := 0) (hval 0 23 v0 rfl rfl) Try.underlying23 Try.underlying27 (by kernel_rfl) h0 hsz rfl rfl (B := 4) (by kernel_rfl)
  have k1 := h1
  have lt1 : ∀ x ∈ p1, x.block < W.heap.size := by obtain ⟨m, hm⟩ := k1; exact DataW.trod_lt m _ _ _ hm
  obtain ⟨xs1, rd1, wf1, ln1⟩ := Go.Fx.ints_arg (spare := fun _ => true) (j := 1) (hval 1 23 v1 rfl rfl) Try.underlying23 Try.underlying27 (by kernel_rfl) h1 hsz rfl rfl (B := 4) (by kernel_rfl)
  have k2 := h2
  have lt2 : ∀ x ∈ p2, x.block < W.heap.size := by obtain ⟨m, hm⟩ := k2; exact DataW.trod_lt m _ _ _ hm
  obtain ⟨xs2, rd2, wf2, ln2⟩ := Go.Fx.ints_arg (spare := fun _ => true) (j := 2) (hval 2 23 v2 rfl rfl) Try.underlying23 Try.underlying27 (by kernel_rfl) h2 hsz rfl rfl (B := 4) (by kernel_rfl)
  clear hA0 hval0 hsz0
  have hr : RdArgs W (fun _ => True) [(false, (.sl 27 (.int .u32))), (false, (.sl 27 (.int .u32))), (false, (.sl 27 (.int .u32)))] (xs0, xs1, xs2, ()) [v0, v1, v2] := ⟨_, _, rfl, rd0, ⟨_, _, rfl, rd1, ⟨_, _, rfl, rd2, rfl⟩⟩⟩
  refine (calls_true (ps := [(false, (.sl 27 (.int .u32))), (false, (.sl 27 (.int .u32))), (false, (.sl 27 (.int .u32)))]) (fn := Go.Fx.Try.fulcrumlaw01_NatGreatest.F) (md := Go.Fx.Try.fulcrumlaw01_NatGreatest.spec.md) Go.Fx.Try.fulcrumlaw01_NatGreatest.cal (Go.Fx.Try.natGreatest_true xs0 xs1 xs2 wf0 ln0 wf1 ln1 wf2 ln2) hr).mono fun e W' ⟨he, bel⟩ => ?_
  subst he
  exact ⟨_, rfl, _, _, _, [], _, [], hW', trodAll_mk1 (shut_bool Try.underlying4 _), (trodAll_cons_mk (Below.trod laidOut (by kernel_rfl) (of_decide_eq_true (by kernel_rfl)) k0 bel lt0) (trodAll_cons_mk (Below.trod laidOut (by kernel_rfl) (of_decide_eq_true (by kernel_rfl)) k1 bel lt1) (trodAll_cons_mk (Below.trod laidOut (by kernel_rfl) (of_decide_eq_true (by kernel_rfl)) k2 bel lt2) trodAll_mk0))), rfl, bel.frame _, fun h => by cases h⟩
theorem over : Rows.natGreatestRow.holds Try.pinned (OpenSpec.ofChange Rows.natGreatestSpec) :=
  OpenClaim.holds_of_wide 13 Try.f13 rfl rfl rfl rfl rfl rfl rfl ⟨rfl, rfl, rfl, rfl, rfl⟩ rfl rfl rfl rfl rfl (by kernel_rfl) Try.func13 (by kernel_rfl)
    (of_decide_eq_true (by kernel_rfl)) (by unfold Func.isWrapper; first | (rw [if_pos (by decide +kernel)]; kernel_rfl) | (rw [if_neg (by decide +kernel)]; exact ⟨rfl, rfl⟩))
    (fun os started H enc _ => lifted os started H enc)
theorem proved : Rows.NatGreatestSaid := over
#print axioms proved
end Go.Proofs.Ytflgmookgadodaa.natGreatest
