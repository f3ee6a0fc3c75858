/- WholeBezout: the statement, from what the walked function answers. -/
import Derived.Test.YtjhbcpnliiegoaaLBezout
import Derived.Test.YtjhbcpnliiegoaaRows
import Derived.Test.YtjhbcpnliiegoaaEv26
import Derived.WalkKit
import Derived.ProofKit
import Derived.OpenShut
import Derived.ShutString
import Derived.ChangeOld
import Derived.Below
import Derived.SizedLaws
namespace Go.Proofs.Ytjhbcpnliiegoaa.wholeBezout
open Go Go.Proofs Go.ChangeShapes Go.WideShapes Go.ChangeAt Go.RowKit Go.Fx
open Go.ChangeMaps (open_string shut_string)
set_option linter.unusedVariables false
theorem own : ownKnob Try.prog.godebug = none := by kernel_rfl
theorem laidOut : laidOutB Try.prog = true := by kernel_rfl
set_option maxRecDepth 100000 in
theorem lifted (os : Os) (started : os.Started) (H : Type) (enc : TypeId × Value → H) :
    ReturnsInHanded {} Try.checked os 14 .any (Rows.wholeBezoutSpec.pre6 enc Try.prog Try.f14 Rows.wholeBezoutRow.domain false) (Rows.wholeBezoutSpec.post enc Try.prog Try.f14 false true false false) := by
  refine returnsInHanded_of_change_sized (C := Try.checked) own started (by kernel_rfl) Try.func14
    (ChangeSpec.witness6 (enc := enc) (C := Try.checked) false ⟨#[], #[.agg #[.bool false, .slice none 0 0], .agg #[.bool false, .slice none 0 0]], []⟩ 8 (by kernel_rfl) (by kernel_rfl) (by kernel_rfl) (by kernel_rfl)) ?_
  intro W base args ds gs before hval0 hW hcnd hsz0 _
  have hval : ∀ (j : Nat) t v, Try.f14.params[j]? = some t → args[j]? = some v → Value.okWide Try.prog W .any base t v := hval0
  have hW' := hW
  obtain ⟨p, q, hA0, hV, rfl, hfz, hnd⟩ := hW
  have hA : DataW.TrodAll enc Try.prog W 0 (fun _ => true) true Try.f14.params.toList args.toList ds p := hA0
  have hsz : (DataW.weightsEach Try.prog (Try.f14.params.toList ++ Rows.wholeBezoutSpec.plain.varTypes Try.prog) (ds ++ gs)).all (· ≤ reachBytes) = true := hsz0
  rw [Try.params14] at hA hval hsz
  obtain ⟨v0, vs0, d0, ds0, p0, q0, hargs, rfl, rfl, h0, r0⟩ := trodAll_cons hA
  obtain ⟨v1, vs1, d1, ds1, p1, q1, rfl, rfl, rfl, h1, r1⟩ := trodAll_cons r0
  obtain ⟨rfl, rfl, rfl⟩ := trodAll_nil r1
  obtain rfl : args = #[v0, v1] := by cases args; simp_all
  obtain ⟨rfl, rfl⟩ := trodVars_none hV
  have k0 := h0
  have lt0 : ∀ x ∈ p0, x.block < W.heap.size := by obtain ⟨m, hm⟩ := k0; exact DataW.trod_lt m _ _ _ hm
  obtain ⟨b0, xs0, rd0, wf0, e0, rfl, ln0⟩ := Go.Fx.whole_open (hval 0 25 v0 rfl rfl) Try.underlying25 (by kernel_rfl) rfl rfl rfl rfl Try.underlying4 (by kernel_rfl) Try.underlying23 (by kernel_rfl) Try.underlying70 (by kernel_rfl) h0
  have sz0 := Go.Fx.whole_size (j := 0) hsz rfl rfl Try.underlying25 rfl Try.underlying23 ln0 (B := 4) (by kernel_rfl)
  have k1 := h1
  have lt1 : ∀ x ∈ p1, x.block < W.heap.size := by obtain ⟨m, hm⟩ := k1; exact DataW.trod_lt m _ _ _ hm
  obtain ⟨b1, xs1, rd1, wf1, e1, rfl, ln1⟩ := Go.Fx.whole_open (hval 1 25 v1 rfl rfl) Try.underlying25 (by kernel_rfl) rfl rfl rfl rfl Try.underlying4 (by kernel_rfl) Try.underlying23 (by kernel_rfl) Try.underlying70 (by kernel_rfl) h1
  have sz1 := Go.Fx.whole_size (j := 1) hsz rfl rfl Try.underlying25 rfl Try.underlying23 ln1 (B := 4) (by kernel_rfl)
  clear hA0 hval0 hsz0
  have hr : RdArgs W (fun _ => True) [(true, (.prod .bool (.sl 70 (.int .u32)))), (true, (.prod .bool (.sl 70 (.int .u32))))] ((b0, xs0), (b1, xs1), ()) [v0, v1] := ⟨_, _, rfl, rd0, ⟨_, _, rfl, rd1, rfl⟩⟩
  refine (calls_true (ps := [(true, (.prod .bool (.sl 70 (.int .u32)))), (true, (.prod .bool (.sl 70 (.int .u32))))]) (fn := Go.Fx.Try.fulcrumlaw02_WholeBezout.F) (md := Go.Fx.Try.fulcrumlaw02_WholeBezout.spec.md) Go.Fx.Try.fulcrumlaw02_WholeBezout.cal (Go.Fx.Try.wholeBezout_true (b0, xs0) (b1, xs1) wf0 sz0 wf1 sz1) hr).mono fun e W' ⟨he, bel⟩ => ?_
  subst he
  exact ⟨_, rfl, _, _, _, [], _, [], hW', trodAll_mk1 (shut_bool Try.underlying4 _), (trodAll_cons_mk (Below.trod laidOut (by kernel_rfl) (of_decide_eq_true (by kernel_rfl)) k0 bel lt0) (trodAll_cons_mk (Below.trod laidOut (by kernel_rfl) (of_decide_eq_true (by kernel_rfl)) k1 bel lt1) trodAll_mk0)), rfl, bel.frame _, fun h => by cases h⟩
theorem over : Rows.wholeBezoutRow.holds Try.pinned (OpenSpec.ofChange Rows.wholeBezoutSpec) :=
  OpenClaim.holds_of_wide 14 Try.f14 rfl rfl rfl rfl rfl rfl rfl ⟨rfl, rfl, rfl, rfl, rfl⟩ rfl rfl rfl rfl rfl (by kernel_rfl) Try.func14 (by kernel_rfl)
    (of_decide_eq_true (by kernel_rfl)) (by unfold Func.isWrapper; first | (rw [if_pos (by decide +kernel)]; kernel_rfl) | (rw [if_neg (by decide +kernel)]; exact ⟨rfl, rfl⟩))
    (fun os started H enc _ => lifted os started H enc)
theorem proved : Rows.WholeBezoutSaid := over
#print axioms proved
end Go.Proofs.Ytjhbcpnliiegoaa.wholeBezout
