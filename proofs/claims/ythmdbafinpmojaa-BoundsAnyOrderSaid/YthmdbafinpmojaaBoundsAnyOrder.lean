/- BoundsAnyOrder: the statement, from what the walked function answers. -/
import Derived.Test.YthmdbafinpmojaaQLAnyOrder
import Derived.Test.YthmdbafinpmojaaRows
import Derived.Test.YthmdbafinpmojaaEv31
import Derived.WalkKit
import Derived.ProofKit
import Derived.OpenShut
import Derived.ShutString
import Derived.ChangeOld
import Derived.Below
import Derived.SizedLaws
namespace Go.Proofs.Ythmdbafinpmojaa.boundsAnyOrder
open Go Go.Proofs Go.ChangeShapes Go.WideShapes Go.ChangeAt Go.RowKit Go.Fx
open Go.ChangeMaps (open_string shut_string)
set_option linter.unusedVariables false
theorem own : ownKnob Try.prog.godebug = none := by kernel_rfl
theorem laidOut : laidOutB Try.prog = true := by kernel_rfl
set_option maxRecDepth 100000 in
theorem lifted (os : Os) (started : os.Started) (H : Type) (enc : TypeId × Value → H) :
    ReturnsInHanded {} Try.checked os 4 .any (Rows.boundsAnyOrderSpec.pre6 enc Try.prog Try.f4 Rows.boundsAnyOrderRow.domain false) (Rows.boundsAnyOrderSpec.post enc Try.prog Try.f4 false true false false) := by
  refine returnsInHanded_of_change_sized (C := Try.checked) own started (by kernel_rfl) Try.func4
    (ChangeSpec.witness6 (enc := enc) (C := Try.checked) false ⟨#[], #[.int .i64 0, .slice none 0 0], []⟩ 20 (by kernel_rfl) (by kernel_rfl) (by kernel_rfl) (by kernel_rfl)) ?_
  intro W base args ds gs before hval0 hW hcnd hsz0 _
  have hval : ∀ (j : Nat) t v, Try.f4.params[j]? = some t → args[j]? = some v → Value.okWide Try.prog W .any base t v := hval0
  have hW' := hW
  obtain ⟨p, q, hA0, hV, rfl, hfz, hnd⟩ := hW
  have hA : DataW.TrodAll enc Try.prog W 0 (fun _ => true) true Try.f4.params.toList args.toList ds p := hA0
  rw [Try.params4] at hA hval
  obtain ⟨v0, vs0, d0, ds0, p0, q0, hargs, rfl, rfl, h0, r0⟩ := trodAll_cons hA
  obtain ⟨v1, vs1, d1, ds1, p1, q1, rfl, rfl, rfl, h1, r1⟩ := trodAll_cons r0
  obtain ⟨rfl, rfl, rfl⟩ := trodAll_nil r1
  obtain rfl : args = #[v0, v1] := by cases args; simp_all
  obtain ⟨rfl, rfl⟩ := trodVars_none hV
  have k0 := h0
  have lt0 : ∀ x ∈ p0, x.block < W.heap.size := by obtain ⟨m, hm⟩ := k0; exact DataW.trod_lt m _ _ _ hm
  obtain ⟨a0, rd0, wf0, bk0, ft0⟩ := Go.Fx.arg_open (N := 20) (k := (.int .i64)) (hval 0 3 v0 rfl rfl) (by kernel_rfl) h0
  rw [(by kernel_rfl : Go.Fx.isAgg Try.prog 3 = false)] at rd0
  have ft0 := ft0 140737488351232 fun m hm => of_decide_eq_true (List.all_eq_true.1 hsz0 m (DataW.weights_mem_each (j := 0) rfl rfl m hm))
  have k1 := h1
  have lt1 : ∀ x ∈ p1, x.block < W.heap.size := by obtain ⟨m, hm⟩ := k1; exact DataW.trod_lt m _ _ _ hm
  obtain ⟨a1, rd1, wf1, bk1, ft1⟩ := Go.Fx.arg_open (N := 20) (k := (.sl 50 (.prod (.int .i64) (.prod (.int .i64) (.prod (.prod (.prod (.prod .bool (.sl 115 (.int .u32))) (.sl 115 (.int .u32))) (.prod (.prod .bool (.sl 115 (.int .u32))) (.sl 115 (.int .u32)))) (.prod (.int .i64) (.sl 47 (.prod (.prod (.prod .bool (.sl 115 (.int .u32))) (.sl 115 (.int .u32))) (.prod (.prod .bool (.sl 115 (.int .u32))) (.sl 115 (.int .u32))))))))))) (hval 1 38 v1 rfl rfl) (by kernel_rfl) h1
  rw [(by kernel_rfl : Go.Fx.isAgg Try.prog 38 = false)] at rd1
  have ft1 := ft1 140737488351232 fun m hm => of_decide_eq_true (List.all_eq_true.1 hsz0 m (DataW.weights_mem_each (j := 1) rfl rfl m hm))
  clear hA0 hval0 hsz0
  have hr : RdArgs W (fun _ => True) [(false, (.int .i64)), (false, (.sl 50 (.prod (.int .i64) (.prod (.int .i64) (.prod (.prod (.prod (.prod .bool (.sl 115 (.int .u32))) (.sl 115 (.int .u32))) (.prod (.prod .bool (.sl 115 (.int .u32))) (.sl 115 (.int .u32)))) (.prod (.int .i64) (.sl 47 (.prod (.prod (.prod .bool (.sl 115 (.int .u32))) (.sl 115 (.int .u32))) (.prod (.prod .bool (.sl 115 (.int .u32))) (.sl 115 (.int .u32)))))))))))] (a0, a1, ()) [v0, v1] := ⟨_, _, rfl, rd0, ⟨_, _, rfl, rd1, rfl⟩⟩
  refine (calls_true (ps := [(false, (.int .i64)), (false, (.sl 50 (.prod (.int .i64) (.prod (.int .i64) (.prod (.prod (.prod (.prod .bool (.sl 115 (.int .u32))) (.sl 115 (.int .u32))) (.prod (.prod .bool (.sl 115 (.int .u32))) (.sl 115 (.int .u32)))) (.prod (.int .i64) (.sl 47 (.prod (.prod (.prod .bool (.sl 115 (.int .u32))) (.sl 115 (.int .u32))) (.prod (.prod .bool (.sl 115 (.int .u32))) (.sl 115 (.int .u32)))))))))))]) (fn := Go.Fx.Try.fulcrumlaw08_BoundsAnyOrder.F) (md := Go.Fx.Try.fulcrumlaw08_BoundsAnyOrder.spec.md) Go.Fx.Try.fulcrumlaw08_BoundsAnyOrder.cal (Go.Fx.Try.boundsAnyOrder_true a0 a1 wf0 wf1 ft0 ft1) (fun g tb e => by cases e) hr).mono fun e W' ⟨he, bel⟩ => ?_
  subst he
  exact ⟨_, rfl, _, _, _, [], _, [], hW', trodAll_mk1 (shut_bool Try.underlying4 _), (trodAll_cons_mk (Below.trod laidOut (by kernel_rfl) (of_decide_eq_true (by kernel_rfl)) k0 bel lt0) (trodAll_cons_mk (Below.trod laidOut (by kernel_rfl) (of_decide_eq_true (by kernel_rfl)) k1 bel lt1) trodAll_mk0)), rfl, bel.frame _, fun h => by cases h⟩
theorem over : Rows.boundsAnyOrderRow.holds Try.pinned (OpenSpec.ofChange Rows.boundsAnyOrderSpec) :=
  OpenClaim.holds_of_wide 4 Try.f4 rfl rfl rfl rfl rfl rfl rfl ⟨rfl, rfl, rfl, rfl, rfl⟩ rfl rfl rfl rfl rfl (by kernel_rfl) Try.func4 (by kernel_rfl)
    (of_decide_eq_true (by kernel_rfl)) (by unfold Func.isWrapper; first | (rw [if_pos (by decide +kernel)]; kernel_rfl) | (rw [if_neg (by decide +kernel)]; exact ⟨rfl, rfl⟩))
    (fun os started H enc _ => lifted os started H enc)
theorem proved : Rows.BoundsAnyOrderSaid := over
#print axioms proved
end Go.Proofs.Ythmdbafinpmojaa.boundsAnyOrder
