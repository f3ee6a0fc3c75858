/- BoundsOwn: the statement, from what the walked function answers. -/
import Derived.Test.YthmdbafinpmojaaGreatBB
import Derived.Test.YthmdbafinpmojaaGreatRows
import Derived.Test.YthmdbafinpmojaaGreatEvD
import Derived.JoinedCond
import Derived.WalkKit
import Derived.ProofKit
import Derived.OpenShut
import Derived.ShutString
import Derived.ChangeOld
import Derived.Below
import Derived.SizedLaws
set_option linter.unusedVariables false
set_option linter.unusedSimpArgs false
namespace Go.Proofs.YthmdbafinpmojaaGreat.boundsOwn
open Go Go.Proofs Go.ChangeShapes Go.WideShapes Go.ChangeAt Go.RowKit Go.Fx
open Go.ChangeMaps (open_string shut_string)
section
variable {H : Type}
theorem Y3 (l : List (DataW H)) : Rows.uptoBulkAll l = (l.map Rows.uptoBulk).sum := by
  induction l with
  | nil => simp [Rows.uptoBulkAll]
  | cons x r ih => simp only [Rows.uptoBulkAll, List.map_cons, List.sum_cons, ih]
theorem ao4 : WU (Rows.uptoBulk (H := H)) where
  lit l := by cases l <;> simp [Rows.uptoBulk]
  str s := by simp [Rows.uptoBulk]
  nil := by simp [Rows.uptoBulk]
  sl a b := by simp only [Rows.uptoBulk, Y3]; omega
  agg p := by simp only [Rows.uptoBulk, Y3]; omega
end
theorem own : ownKnob Tryz.prog.godebug = none := by kernel_rfl
theorem laidOut : laidOutB Tryz.prog = true := by kernel_rfl
set_option maxRecDepth 100000 in
theorem lifted (os : Os) (started : os.Started) (H : Type) (enc : TypeId × Value → H) (F : Stop.Interp) :
    ReturnsInHanded {} Tryz.checked os 5 .any ((Rows.OpenSpec.upto Rows.boundsOwnSpec).pre6 enc Tryz.prog Tryz.f5 Rows.boundsOwnUptoRow.domain false) (((Rows.OpenSpec.upto Rows.boundsOwnSpec).at F).post enc Tryz.prog Tryz.f5 false true false false) := by
  refine returnsInHanded_of_cond (C := Tryz.checked) (s := Rows.OpenSpec.upto Rows.boundsOwnSpec) (k := Rows.uptoSmall) rfl own started (by kernel_rfl) Tryz.func5
    (OpenSpec.witness (enc := enc) (C := Tryz.checked) (s := Rows.OpenSpec.upto Rows.boundsOwnSpec) (k := Rows.uptoSmall) rfl false ⟨#[], #[.agg #[.int .i64 0, .slice none 0 0]], []⟩ 20 (by kernel_rfl) (by kernel_rfl) (by kernel_rfl)
      (x := ([.agg [.lit (.int .i64 0), .nil]], [], [])) (by kernel_rfl) rfl (by kernel_rfl)) ?_
  intro W base args ds gs before hval0 hW hcnd hk0 _
  have hval : ∀ (j : Nat) t v, Tryz.f5.params[j]? = some t → args[j]? = some v → Value.okWide Tryz.prog W .any base t v := hval0
  have hW' := hW
  obtain ⟨p, q, hA0, hV, rfl, hfz, hnd⟩ := hW
  have hA : DataW.TrodAll enc Tryz.prog W 0 (fun _ => true) true Tryz.f5.params.toList args.toList ds p := hA0
  rw [Tryz.params5] at hA hval
  obtain ⟨v0, vs0, d0, ds0, p0, q0, wV, rfl, rfl, h0, r0⟩ := trodAll_cons hA
  obtain ⟨rfl, rfl, rfl⟩ := trodAll_nil r0
  obtain rfl : args = #[v0] := by cases args; simp_all
  obtain ⟨rfl, rfl⟩ := trodVars_none hV
  have k0 := h0
  have lt0 : ∀ x ∈ p0, x.block < W.heap.size := by obtain ⟨m, hm⟩ := k0; exact DataW.trod_lt m _ _ _ hm
  obtain ⟨a0, rd0, wf0, bk0, ft0⟩ := Go.Fx.acg (N := 20) (k := (.prod (.int .i64) (.sl 47 (.prod (.int .i64) (.prod (.int .i64) (.prod (.prod (.prod (.prod .bool (.sl 114 (.int .u32))) (.sl 114 (.int .u32))) (.prod (.prod .bool (.sl 114 (.int .u32))) (.sl 114 (.int .u32)))) (.prod (.int .i64) (.sl 44 (.prod (.prod (.prod .bool (.sl 114 (.int .u32))) (.sl 114 (.int .u32))) (.prod (.prod .bool (.sl 114 (.int .u32))) (.sl 114 (.int .u32)))))))))))) (hval 0 24 v0 rfl rfl) (by kernel_rfl) h0
  rw [(by kernel_rfl : Go.Fx.isAgg Tryz.prog 24 = true)] at rd0
  have bk0 := bk0 _ ao4
  have hk := (of_decide_eq_true hk0 : Rows.uptoBulkAll _ ≤ 1048576)
  simp only [List.cons_append, List.nil_append, Rows.uptoBulkAll] at hk
  clear hA0 hval0 hk0
  have hr : jy W (fun _ => True) [(true, (.prod (.int .i64) (.sl 47 (.prod (.int .i64) (.prod (.int .i64) (.prod (.prod (.prod (.prod .bool (.sl 114 (.int .u32))) (.sl 114 (.int .u32))) (.prod (.prod .bool (.sl 114 (.int .u32))) (.sl 114 (.int .u32)))) (.prod (.int .i64) (.sl 44 (.prod (.prod (.prod .bool (.sl 114 (.int .u32))) (.sl 114 (.int .u32))) (.prod (.prod .bool (.sl 114 (.int .u32))) (.sl 114 (.int .u32))))))))))))] (a0, ()) [v0] := ⟨_, _, rfl, rd0, rfl⟩
  have up0 := Nat.le_trans bk0 (by omega : _ ≤ 1048576)
  refine (Go.Fx.Tryz.boundsOwn_calls wf0 up0 rd0).mono fun e W' ⟨he, bel⟩ => ?_
  subst he
  exact ⟨_, rfl, _, _, _, [], _, [], hW', trodAll_mk1 (shut_bool Tryz.underlying4 _), (trodAll_cons_mk (Below.trod laidOut (by kernel_rfl) (of_decide_eq_true (by kernel_rfl)) k0 bel lt0) trodAll_mk0), rfl, bel.frame _, fun h => by cases h⟩
theorem over : Rows.boundsOwnUptoRow.holds Tryz.pinned (Rows.OpenSpec.upto Rows.boundsOwnSpec) :=
  OpenClaim.holds_of_cond 5 Tryz.f5 rfl rfl rfl rfl rfl rfl rfl ⟨rfl, rfl, rfl, rfl, rfl⟩ rfl rfl rfl rfl rfl (by kernel_rfl) Tryz.func5 (by kernel_rfl)
    (of_decide_eq_true (by kernel_rfl)) (by unfold Func.isWrapper; first | (rw [if_pos (by decide +kernel)]; kernel_rfl) | (rw [if_neg (by decide +kernel)]; exact ⟨rfl, rfl⟩))
    (fun os started H enc _ F => lifted os started H enc F)
theorem proved : Rows.BoundsOwnUptoSaid := over
#print axioms proved
end Go.Proofs.YthmdbafinpmojaaGreat.boundsOwn
