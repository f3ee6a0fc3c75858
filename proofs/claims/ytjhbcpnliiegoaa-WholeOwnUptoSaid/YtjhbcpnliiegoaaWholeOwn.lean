/- WholeOwn: the statement, from what the walked function answers. -/
import Derived.Test.YtjhbcpnliiegoaaBB
import Derived.Test.YtjhbcpnliiegoaaRows
import Derived.Test.YtjhbcpnliiegoaaEv31
import Derived.JoinedCond
import Derived.WalkKit
import Derived.ProofKit
import Derived.OpenShut
import Derived.ShutString
import Derived.ChangeOld
import Derived.Below
import Derived.SizedLaws
namespace Go.Proofs.Ytjhbcpnliiegoaa.wholeOwn
open Go Go.Proofs Go.ChangeShapes Go.WideShapes Go.ChangeAt Go.RowKit Go.Fx
open Go.ChangeMaps (open_string shut_string)
set_option linter.unusedVariables false
section
variable {H : Type}
theorem all_sum (l : List (DataW H)) : Rows.uptoBulkAll l = (l.map Rows.uptoBulk).sum := by
  induction l with
  | nil => simp [Rows.uptoBulkAll]
  | cons x r ih => simp only [Rows.uptoBulkAll, List.map_cons, List.sum_cons, ih]
theorem bulky : Bulk (Rows.uptoBulk (H := H)) where
  lit l := by cases l <;> simp [Rows.uptoBulk]
  str s := by simp [Rows.uptoBulk]
  nil := by simp [Rows.uptoBulk]
  sl a b := by simp only [Rows.uptoBulk, all_sum]; omega
  agg p := by simp only [Rows.uptoBulk, all_sum]; omega
end
theorem own : ownKnob Try.prog.godebug = none := by kernel_rfl
theorem laidOut : laidOutB Try.prog = true := by kernel_rfl
set_option maxRecDepth 100000 in
theorem lifted (os : Os) (started : os.Started) (H : Type) (enc : TypeId × Value → H) (F : Stop.Interp) :
    ReturnsInHanded {} Try.checked os 16 .any ((Rows.OpenSpec.upto Rows.wholeOwnSpec).pre6 enc Try.prog Try.f16 Rows.wholeOwnUptoRow.domain false) (((Rows.OpenSpec.upto Rows.wholeOwnSpec).at F).post enc Try.prog Try.f16 false true false false) := by
  refine returnsInHanded_of_cond (C := Try.checked) (s := Rows.OpenSpec.upto Rows.wholeOwnSpec) (k := Rows.uptoSmall) rfl own started (by kernel_rfl) Try.func16
    (OpenSpec.witness (enc := enc) (C := Try.checked) (s := Rows.OpenSpec.upto Rows.wholeOwnSpec) (k := Rows.uptoSmall) rfl false ⟨#[], #[.agg #[.bool false, .slice none 0 0], .agg #[.bool false, .slice none 0 0]], []⟩ 20 (by kernel_rfl) (by kernel_rfl) (by kernel_rfl)
      (x := ([.agg [.lit (.bool false), .nil], .agg [.lit (.bool false), .nil]], [], [])) (by kernel_rfl) rfl (by kernel_rfl)) ?_
  intro W base args ds gs before hval0 hW hcnd hk0 _
  have hval : ∀ (j : Nat) t v, Try.f16.params[j]? = some t → args[j]? = some v → Value.okWide Try.prog W .any base t v := hval0
  have hW' := hW
  obtain ⟨p, q, hA0, hV, rfl, hfz, hnd⟩ := hW
  have hA : DataW.TrodAll enc Try.prog W 0 (fun _ => true) true Try.f16.params.toList args.toList ds p := hA0
  rw [Try.params16] at hA hval
  obtain ⟨v0, vs0, d0, ds0, p0, q0, hargs, rfl, rfl, h0, r0⟩ := trodAll_cons hA
  obtain ⟨v1, vs1, d1, ds1, p1, q1, rfl, rfl, rfl, h1, r1⟩ := trodAll_cons r0
  obtain ⟨rfl, rfl, rfl⟩ := trodAll_nil r1
  obtain rfl : args = #[v0, v1] := by cases args; simp_all
  obtain ⟨rfl, rfl⟩ := trodVars_none hV
  have k0 := h0
  have lt0 : ∀ x ∈ p0, x.block < W.heap.size := by obtain ⟨m, hm⟩ := k0; exact DataW.trod_lt m _ _ _ hm
  obtain ⟨a0, rd0, wf0, bk0, ft0⟩ := Go.Fx.arg_open (N := 20) (k := (.prod .bool (.sl 70 (.int .u32)))) (hval 0 25 v0 rfl rfl) (by kernel_rfl) h0
  rw [(by kernel_rfl : Go.Fx.isAgg Try.prog 25 = true)] at rd0
  have bk0 := bk0 _ bulky
  have k1 := h1
  have lt1 : ∀ x ∈ p1, x.block < W.heap.size := by obtain ⟨m, hm⟩ := k1; exact DataW.trod_lt m _ _ _ hm
  obtain ⟨a1, rd1, wf1, bk1, ft1⟩ := Go.Fx.arg_open (N := 20) (k := (.prod .bool (.sl 70 (.int .u32)))) (hval 1 25 v1 rfl rfl) (by kernel_rfl) h1
  rw [(by kernel_rfl : Go.Fx.isAgg Try.prog 25 = true)] at rd1
  have bk1 := bk1 _ bulky
  have hk := (of_decide_eq_true hk0 : Rows.uptoBulkAll _ ≤ 1048576)
  simp only [List.cons_append, List.nil_append, Rows.uptoBulkAll] at hk
  clear hA0 hval0 hk0
  have hr : RdArgs W (fun _ => True) [(true, (.prod .bool (.sl 70 (.int .u32)))), (true, (.prod .bool (.sl 70 (.int .u32))))] (a0, a1, ()) [v0, v1] := ⟨_, _, rfl, rd0, ⟨_, _, rfl, rd1, rfl⟩⟩
  have up0 := Nat.le_trans bk0 (by omega : _ ≤ 1048576)
  have up1 := Nat.le_trans bk1 (by omega : _ ≤ 1048576)
  refine (Go.Fx.Try.wholeOwn_calls wf0 wf1 up0 up1 rd0 rd1).mono fun e W' ⟨he, bel⟩ => ?_
  subst he
  exact ⟨_, rfl, _, _, _, [], _, [], hW', trodAll_mk1 (shut_bool Try.underlying4 _), (trodAll_cons_mk (Below.trod laidOut (by kernel_rfl) (of_decide_eq_true (by kernel_rfl)) k0 bel lt0) (trodAll_cons_mk (Below.trod laidOut (by kernel_rfl) (of_decide_eq_true (by kernel_rfl)) k1 bel lt1) trodAll_mk0)), rfl, bel.frame _, fun h => by cases h⟩
theorem over : Rows.wholeOwnUptoRow.holds Try.pinned (Rows.OpenSpec.upto Rows.wholeOwnSpec) :=
  OpenClaim.holds_of_cond 16 Try.f16 rfl rfl rfl rfl rfl rfl rfl ⟨rfl, rfl, rfl, rfl, rfl⟩ rfl rfl rfl rfl rfl (by kernel_rfl) Try.func16 (by kernel_rfl)
    (of_decide_eq_true (by kernel_rfl)) (by unfold Func.isWrapper; first | (rw [if_pos (by decide +kernel)]; kernel_rfl) | (rw [if_neg (by decide +kernel)]; exact ⟨rfl, rfl⟩))
    (fun os started H enc _ F => lifted os started H enc F)
theorem proved : Rows.WholeOwnUptoSaid := over
#print axioms proved
end Go.Proofs.Ytjhbcpnliiegoaa.wholeOwn
