/- WholeRing: the statement, from what the walked function answers. -/
import Derived.Test.YtjhbcpnliiegoaaLWRing
import Derived.Test.YtjhbcpnliiegoaaRows
import Derived.Test.YtjhbcpnliiegoaaEv26
import Derived.JoinedCond
import Derived.WalkKit
import Derived.ProofKit
import Derived.OpenShut
import Derived.ShutString
import Derived.ChangeOld
import Derived.Below
import Derived.SizedLaws
namespace Go.Proofs.Ytjhbcpnliiegoaa.wholeRing
open Go Go.Proofs Go.ChangeShapes Go.WideShapes Go.ChangeAt Go.RowKit Go.Fx
open Go.ChangeMaps (open_string shut_string)
set_option linter.unusedVariables false
section
variable {H : Type}
theorem one_le (d : DataW H) : 1 ≤ Rows.uptoBulk d := by
  cases d with
  | lit l => cases l <;> simp [Rows.uptoBulk]
  | nil => simp [Rows.uptoBulk]
  | ptr d => simp [Rows.uptoBulk]
  | slice elems spare => simp [Rows.uptoBulk]
  | agg parts => simp [Rows.uptoBulk]
  | iface t d => simp [Rows.uptoBulk]
  | map entries => simp [Rows.uptoBulk]
  | held h => simp [Rows.uptoBulk]
theorem length_le (l : List (DataW H)) : l.length ≤ Rows.uptoBulkAll l := by
  induction l with
  | nil => simp [Rows.uptoBulkAll]
  | cons x r ih => have := one_le x; simp only [Rows.uptoBulkAll, List.length_cons]; omega
theorem ints_le {d : DataW H} {n : Nat} (h : n = 0 ∨ ∃ elems spare : List (DataW H), d = .slice elems spare ∧ n ≤ elems.length + spare.length) : n ≤ Rows.uptoBulk d := by
  rcases h with h | ⟨elems, spare, rfl, h⟩
  · omega
  · have h1 := length_le elems
    have h2 := length_le spare
    simp only [Rows.uptoBulk]
    omega
end
theorem own : ownKnob Try.prog.godebug = none := by kernel_rfl
theorem laidOut : laidOutB Try.prog = true := by kernel_rfl
set_option maxRecDepth 100000 in
theorem lifted (os : Os) (started : os.Started) (H : Type) (enc : TypeId × Value → H) (F : Stop.Interp) :
    ReturnsInHanded {} Try.checked os 6 .any ((Rows.OpenSpec.upto Rows.wholeRingSpec).pre6 enc Try.prog Try.f6 Rows.wholeRingUptoRow.domain false) (((Rows.OpenSpec.upto Rows.wholeRingSpec).at F).post enc Try.prog Try.f6 false true false false) := by
  refine returnsInHanded_of_cond (C := Try.checked) (s := Rows.OpenSpec.upto Rows.wholeRingSpec) (k := Rows.uptoSmall) rfl own started (by kernel_rfl) Try.func6
    (OpenSpec.witness (enc := enc) (C := Try.checked) (s := Rows.OpenSpec.upto Rows.wholeRingSpec) (k := Rows.uptoSmall) rfl false ⟨#[], #[.agg #[.bool false, .slice none 0 0], .agg #[.bool false, .slice none 0 0], .agg #[.bool false, .slice none 0 0]], []⟩ 8 (by kernel_rfl) (by kernel_rfl) (by kernel_rfl)
      (x := ([.agg [.lit (.bool false), .nil], .agg [.lit (.bool false), .nil], .agg [.lit (.bool false), .nil]], [], [])) (by kernel_rfl) rfl (by kernel_rfl)) ?_
  intro W base args ds gs before hval0 hW hcnd hk0 _
  have hval : ∀ (j : Nat) t v, Try.f6.params[j]? = some t → args[j]? = some v → Value.okWide Try.prog W .any base t v := hval0
  have hW' := hW
  obtain ⟨p, q, hA0, hV, rfl, hfz, hnd⟩ := hW
  have hA : DataW.TrodAll enc Try.prog W 0 (fun _ => true) true Try.f6.params.toList args.toList ds p := hA0
  rw [Try.params6] at hA hval
  obtain ⟨v0, vs0, d0, ds0, p0, q0, hargs, rfl, rfl, h0, r0⟩ := trodAll_cons hA
  obtain ⟨v1, vs1, d1, ds1, p1, q1, rfl, rfl, rfl, h1, r1⟩ := trodAll_cons r0
  obtain ⟨v2, vs2, d2, ds2, p2, q2, rfl, rfl, rfl, h2, r2⟩ := trodAll_cons r1
  obtain ⟨rfl, rfl, rfl⟩ := trodAll_nil r2
  obtain rfl : args = #[v0, v1, v2] := by cases args; simp_all
  obtain ⟨rfl, rfl⟩ := trodVars_none hV
  have k0 := h0
  have lt0 : ∀ x ∈ p0, x.block < W.heap.size := by obtain ⟨m, hm⟩ := k0; exact DataW.trod_lt m _ _ _ hm
  obtain ⟨b0, xs0, rd0, wf0, e0, rfl, ln0⟩ := Go.Fx.whole_open (hval 0 25 v0 rfl rfl) Try.underlying25 (by kernel_rfl) rfl rfl rfl rfl Try.underlying4 (by kernel_rfl) Try.underlying23 (by kernel_rfl) Try.underlying70 (by kernel_rfl) h0
  have lb0 := ints_le ln0
  have k1 := h1
  have lt1 : ∀ x ∈ p1, x.block < W.heap.size := by obtain ⟨m, hm⟩ := k1; exact DataW.trod_lt m _ _ _ hm
  obtain ⟨b1, xs1, rd1, wf1, e1, rfl, ln1⟩ := Go.Fx.whole_open (hval 1 25 v1 rfl rfl) Try.underlying25 (by kernel_rfl) rfl rfl rfl rfl Try.underlying4 (by kernel_rfl) Try.underlying23 (by kernel_rfl) Try.underlying70 (by kernel_rfl) h1
  have lb1 := ints_le ln1
  have k2 := h2
  have lt2 : ∀ x ∈ p2, x.block < W.heap.size := by obtain ⟨m, hm⟩ := k2; exact DataW.trod_lt m _ _ _ hm
  obtain ⟨b2, xs2, rd2, wf2, e2, rfl, ln2⟩ := Go.Fx.whole_open (hval 2 25 v2 rfl rfl) Try.underlying25 (by kernel_rfl) rfl rfl rfl rfl Try.underlying4 (by kernel_rfl) Try.underlying23 (by kernel_rfl) Try.underlying70 (by kernel_rfl) h2
  have lb2 := ints_le ln2
  have hk := (of_decide_eq_true hk0 : Rows.uptoBulkAll _ ≤ 1048576)
  simp only [List.cons_append, List.nil_append, Rows.uptoBulkAll] at hk
  clear hA0 hval0 hk0
  have hr : RdArgs W (fun _ => True) [(true, (.prod .bool (.sl 70 (.int .u32)))), (true, (.prod .bool (.sl 70 (.int .u32)))), (true, (.prod .bool (.sl 70 (.int .u32))))] ((b0, xs0), (b1, xs1), (b2, xs2), ()) [v0, v1, v2] := ⟨_, _, rfl, rd0, ⟨_, _, rfl, rd1, ⟨_, _, rfl, rd2, rfl⟩⟩⟩
  refine (calls_true (ps := [(true, (.prod .bool (.sl 70 (.int .u32)))), (true, (.prod .bool (.sl 70 (.int .u32)))), (true, (.prod .bool (.sl 70 (.int .u32))))]) (fn := Go.Fx.Try.fulcrumlaw02_WholeRing.F) (md := Go.Fx.Try.fulcrumlaw02_WholeRing.spec.md) Go.Fx.Try.fulcrumlaw02_WholeRing.cal (Go.Fx.Try.wholeRing_true (b0, xs0) (b1, xs1) (b2, xs2) wf0 (by show xs0.length ≤ 1048576; simp only [Rows.uptoBulk, Rows.uptoBulkAll] at hk; omega) wf1 (by show xs1.length ≤ 1048576; simp only [Rows.uptoBulk, Rows.uptoBulkAll] at hk; omega) wf2 (by show xs2.length ≤ 1048576; simp only [Rows.uptoBulk, Rows.uptoBulkAll] at hk; omega)) hr).mono fun e W' ⟨he, bel⟩ => ?_
  subst he
  exact ⟨_, rfl, _, _, _, [], _, [], hW', trodAll_mk1 (shut_bool Try.underlying4 _), (trodAll_cons_mk (Below.trod laidOut (by kernel_rfl) (of_decide_eq_true (by kernel_rfl)) k0 bel lt0) (trodAll_cons_mk (Below.trod laidOut (by kernel_rfl) (of_decide_eq_true (by kernel_rfl)) k1 bel lt1) (trodAll_cons_mk (Below.trod laidOut (by kernel_rfl) (of_decide_eq_true (by kernel_rfl)) k2 bel lt2) trodAll_mk0))), rfl, bel.frame _, fun h => by cases h⟩
theorem over : Rows.wholeRingUptoRow.holds Try.pinned (Rows.OpenSpec.upto Rows.wholeRingSpec) :=
  OpenClaim.holds_of_cond 6 Try.f6 rfl rfl rfl rfl rfl rfl rfl ⟨rfl, rfl, rfl, rfl, rfl⟩ rfl rfl rfl rfl rfl (by kernel_rfl) Try.func6 (by kernel_rfl)
    (of_decide_eq_true (by kernel_rfl)) (by unfold Func.isWrapper; first | (rw [if_pos (by decide +kernel)]; kernel_rfl) | (rw [if_neg (by decide +kernel)]; exact ⟨rfl, rfl⟩))
    (fun os started H enc _ F => lifted os started H enc F)
theorem proved : Rows.WholeRingUptoSaid := over
#print axioms proved
end Go.Proofs.Ytjhbcpnliiegoaa.wholeRing
