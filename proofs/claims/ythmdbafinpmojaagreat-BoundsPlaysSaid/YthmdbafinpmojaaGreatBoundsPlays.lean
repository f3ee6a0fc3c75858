/- BoundsPlays: the statement, from what the walked function answers. -/
import Derived.Test.YthmdbafinpmojaaGreatVA
import Derived.Test.YthmdbafinpmojaaGreatRows
import Derived.Test.YthmdbafinpmojaaGreatEv31
import Derived.WalkKit
import Derived.ProofKit
import Derived.OpenShut
import Derived.ShutString
import Derived.ChangeOld
import Derived.Below
import Derived.SizedLaws
namespace Go.Proofs.YthmdbafinpmojaaGreat.boundsPlays
open Go Go.Proofs Go.ChangeShapes Go.WideShapes Go.ChangeAt Go.RowKit Go.Fx
open Go.ChangeMaps (open_string shut_string)
set_option linter.unusedVariables false
theorem own : ownKnob Tryz.prog.godebug = none := by kernel_rfl
theorem laidOut : laidOutB Tryz.prog = true := by kernel_rfl
set_option maxRecDepth 100000 in
theorem lifted (os : Os) (started : os.Started) (H : Type) (enc : TypeId × Value → H) :
    ReturnsInHanded {} Tryz.checked os 3 .any (Rows.boundsPlaysSpec.pre6 enc Tryz.prog Tryz.f3 Rows.boundsPlaysRow.domain false) (Rows.boundsPlaysSpec.post enc Tryz.prog Tryz.f3 false true false false) := by
  refine returnsInHanded_of_change_sized (C := Tryz.checked) own started (by kernel_rfl) Tryz.func3
    (ChangeSpec.witness6 (enc := enc) (C := Tryz.checked) false ⟨#[], #[.agg #[.int .i64 0, .slice none 0 0]], []⟩ 20 (by kernel_rfl) (by kernel_rfl) (by kernel_rfl) (by kernel_rfl)) ?_
  intro W base args ds gs before hval0 hW hcnd hsz0 _
  have hval : ∀ (j : Nat) t v, Tryz.f3.params[j]? = some t → args[j]? = some v → Value.okWide Tryz.prog W .any base t v := hval0
  have hW' := hW
  obtain ⟨p, q, hA0, hV, rfl, hfz, hnd⟩ := hW
  have hA : DataW.TrodAll enc Tryz.prog W 0 (fun _ => true) true Tryz.f3.params.toList args.toList ds p := hA0
  rw [Tryz.params3] at hA hval
  obtain ⟨v0, vs0, d0, ds0, p0, q0, hargs, rfl, rfl, h0, r0⟩ := trodAll_cons hA
  obtain ⟨rfl, rfl, rfl⟩ := trodAll_nil r0
  obtain rfl : args = #[v0] := by cases args; simp_all
  obtain ⟨rfl, rfl⟩ := trodVars_none hV
  have k0 := h0
  have lt0 : ∀ x ∈ p0, x.block < W.heap.size := by obtain ⟨m, hm⟩ := k0; exact DataW.trod_lt m _ _ _ hm
  obtain ⟨a0, rd0, wf0, bk0, ft0⟩ := Go.Fx.arg_open (N := 20) (k := (.prod (.int .i64) (.sl 47 (.prod (.int .i64) (.prod (.int .i64) (.prod (.prod (.prod (.prod .bool (.sl 114 (.int .u32))) (.sl 114 (.int .u32))) (.prod (.prod .bool (.sl 114 (.int .u32))) (.sl 114 (.int .u32)))) (.prod (.int .i64) (.sl 44 (.prod (.prod (.prod .bool (.sl 114 (.int .u32))) (.sl 114 (.int .u32))) (.prod (.prod .bool (.sl 114 (.int .u32))) (.sl 114 (.int .u32)))))))))))) (hval 0 24 v0 rfl rfl) (by kernel_rfl) h0
  rw [(by kernel_rfl : Go.Fx.isAgg Tryz.prog 24 = true)] at rd0
  have ft0 := ft0 140737488351232 fun m hm => of_decide_eq_true (List.all_eq_true.1 hsz0 m (DataW.weights_mem_each (j := 0) rfl rfl m hm))
  clear hA0 hval0 hsz0
  have hr : RdArgs W (fun _ => True) [(true, (.prod (.int .i64) (.sl 47 (.prod (.int .i64) (.prod (.int .i64) (.prod (.prod (.prod (.prod .bool (.sl 114 (.int .u32))) (.sl 114 (.int .u32))) (.prod (.prod .bool (.sl 114 (.int .u32))) (.sl 114 (.int .u32)))) (.prod (.int .i64) (.sl 44 (.prod (.prod (.prod .bool (.sl 114 (.int .u32))) (.sl 114 (.int .u32))) (.prod (.prod .bool (.sl 114 (.int .u32))) (.sl 114 (.int .u32))))))))))))] (a0, ()) [v0] := ⟨_, _, rfl, rd0, rfl⟩
  refine (calls_true (ps := [(true, (.prod (.int .i64) (.sl 47 (.prod (.int .i64) (.prod (.int .i64) (.prod (.prod (.prod (.prod .bool (.sl 114 (.int .u32))) (.sl 114 (.int .u32))) (.prod (.prod .bool (.sl 114 (.int .u32))) (.sl 114 (.int .u32)))) (.prod (.int .i64) (.sl 44 (.prod (.prod (.prod .bool (.sl 114 (.int .u32))) (.sl 114 (.int .u32))) (.prod (.prod .bool (.sl 114 (.int .u32))) (.sl 114 (.int .u32))))))))))))]) (fn := Go.Fx.Tryz.fulcrumlaw08_BoundsPlays.F) (md := Go.Fx.Tryz.fulcrumlaw08_BoundsPlays.spec.md) Go.Fx.Tryz.fulcrumlaw08_BoundsPlays.cal (Go.Fx.Tryz.boundsPlays_true a0 wf0 ft0) (fun g tb e => by cases e) hr).mono fun e W' ⟨he, bel⟩ => ?_
  subst he
  exact ⟨_, rfl, _, _, _, [], _, [], hW', trodAll_mk1 (shut_bool Tryz.underlying4 _), (trodAll_cons_mk (Below.trod laidOut (by kernel_rfl) (of_decide_eq_true (by kernel_rfl)) k0 bel lt0) trodAll_mk0), rfl, bel.frame _, fun h => by cases h⟩
theorem over : Rows.boundsPlaysRow.holds Tryz.pinned (OpenSpec.ofChange Rows.boundsPlaysSpec) :=
  OpenClaim.holds_of_wide 3 Tryz.f3 rfl rfl rfl rfl rfl rfl rfl ⟨rfl, rfl, rfl, rfl, rfl⟩ rfl rfl rfl rfl rfl (by kernel_rfl) Tryz.func3 (by kernel_rfl)
    (of_decide_eq_true (by kernel_rfl)) (by unfold Func.isWrapper; first | (rw [if_pos (by decide +kernel)]; kernel_rfl) | (rw [if_neg (by decide +kernel)]; exact ⟨rfl, rfl⟩))
    (fun os started H enc _ => lifted os started H enc)
theorem proved : Rows.BoundsPlaysSaid := over
#print axioms proved
end Go.Proofs.YthmdbafinpmojaaGreat.boundsPlays
