import Derived.Test.YtjhbcpnliiegoaaEv30
import Derived.Test.YtjhbcpnliiegoaaProg
namespace Go.Fx.Hd
open Go Go.Proofs Go.Fx
set_option linter.unusedVariables false
set_option maxRecDepth 100000
def ti4 : TI := ⟨.bool, .bool, false, 1⟩
def T4 : Tab := Tab.cons 4 ti4 Tab.nil
theorem tab4 : TabOk Try.prog T4 := TabOk.cons (by kernel_rfl) { info := ⟨Try.t4, by kernel_rfl, by kernel_rfl, by kernel_rfl, (.bool false), by kernel_rfl, by kernel_rfl⟩, agg := ⟨_, Try.underlying4, rfl⟩, desc := ⟨Try.underlying4, rfl⟩ } TabOk.nil
def ti23 : TI := ⟨.other, .hd, false, 24⟩
def T23 : Tab := Tab.cons 23 ti23 T4
theorem tab23 : TabOk Try.prog T23 := TabOk.cons (by kernel_rfl) { info := ⟨Try.t23, by kernel_rfl, by kernel_rfl, by kernel_rfl, (.slice none 0 0), by kernel_rfl, by kernel_rfl⟩, agg := ⟨_, Try.underlying23, rfl⟩, desc := trivial } tab4
def ti25 : TI := ⟨.struct [(0, 4), (1, 23)], (.prod .bool .hd), true, 32⟩
def T25 : Tab := Tab.cons 25 ti25 T23
theorem tab25 : TabOk Try.prog T25 := TabOk.cons (by kernel_rfl) { info := ⟨Try.t25, by kernel_rfl, by kernel_rfl, by kernel_rfl, (.agg #[.bool false, .slice none 0 0]), by kernel_rfl, by kernel_rfl⟩, agg := ⟨_, Try.underlying25, rfl⟩, desc := ⟨_, Try.underlying25, rfl, fun i o ft h => match i, h with | 0, h => by simp at h; obtain ⟨rfl, rfl⟩ := h; exact ⟨_, rfl, rfl, rfl, ti4, by kernel_rfl, by decide⟩ | 1, h => by simp at h; obtain ⟨rfl, rfl⟩ := h; exact ⟨_, rfl, rfl, rfl, ti23, by kernel_rfl, by decide⟩ | n + 2, h => by simp at h⟩ } tab23
def ti56 : TI := ⟨.sl 25, (.sl 25 (.prod .bool .hd)), false, 24⟩
def T56 : Tab := Tab.cons 56 ti56 T25
theorem tab56 : TabOk Try.prog T56 := TabOk.cons (by kernel_rfl) { info := ⟨Try.t56, by kernel_rfl, by kernel_rfl, by kernel_rfl, (.slice none 0 0), by kernel_rfl, by kernel_rfl⟩, agg := ⟨_, Try.underlying56, rfl⟩, desc := ⟨Try.underlying56, ti25, by kernel_rfl, rfl, by decide⟩ } tab25
def ti22 : TI := ⟨.other, .hd, false, 24⟩
def T22 : Tab := Tab.cons 22 ti22 T56
theorem tab22 : TabOk Try.prog T22 := TabOk.cons (by kernel_rfl) { info := ⟨Try.t22, by kernel_rfl, by kernel_rfl, by kernel_rfl, (.slice none 0 0), by kernel_rfl, by kernel_rfl⟩, agg := ⟨_, Try.underlying22, rfl⟩, desc := trivial } tab56
def ti61 : TI := ⟨.sl 22, (.sl 22 .hd), false, 24⟩
def T61 : Tab := Tab.cons 61 ti61 T22
theorem tab61 : TabOk Try.prog T61 := TabOk.cons (by kernel_rfl) { info := ⟨Try.t61, by kernel_rfl, by kernel_rfl, by kernel_rfl, (.slice none 0 0), by kernel_rfl, by kernel_rfl⟩, agg := ⟨_, Try.underlying61, rfl⟩, desc := ⟨Try.underlying61, ti22, by kernel_rfl, rfl, by decide⟩ } tab22
def T : Tab := T61
theorem tabOk : TabOk Try.prog T := tab61
theorem mix : Try.prog.follows .mixedOrders = true := by kernel_rfl
def tabs : Nat → Option Tbl := noTabs
theorem tabsOk : ∀ g tb, tabs g = some tb → TblOk Try.prog tb := noTabs_ok
abbrev Kt61 : K := (.sl 22 .hd)
abbrev Dt61 : Type := (List Value)
abbrev zt61 : Dt61 := ([] : List Value)
abbrev Kt25 : K := (.prod .bool .hd)
abbrev Dt25 : Type := (Bool × Value)
abbrev zt25 : Dt25 := (false, (Value.slice none 0 0))
abbrev Kt56 : K := (.sl 25 Kt25)
abbrev Dt56 : Type := (List Dt25)
def fulcrumlaw02_lists.spec : Spec := ⟨[(false, Kt56)], [(false, Kt61)], .own, fun j => match j with | 3 => [(0, .lf (.z 25 Kt25 false)), (3, .lf (.o 22 .hd true)), (4, .lf (.v true))] | _ => []⟩
noncomputable def fulcrumlaw02_lists.cals : Cals := (Cals.base tabs)
noncomputable def fulcrumlaw02_lists.sig : Sig := fulcrumlaw02_lists.spec.sig fulcrumlaw02_lists.cals T Try.f67
noncomputable def fulcrumlaw02_lists.F (x : Dt56 × Unit) : Option (Dt61 × Unit) := limF fulcrumlaw02_lists.spec fulcrumlaw02_lists.cals T Try.f67 x
theorem fulcrumlaw02_lists.ck : CalsOk Try.prog fulcrumlaw02_lists.cals := (CalsOk.base tabsOk)
theorem fulcrumlaw02_lists.cal : CalOk Try.prog tabs 67 fulcrumlaw02_lists.sig := calOk_lim' tabOk fulcrumlaw02_lists.ck mix Try.func67 (by kernel_rfl) (by kernel_rfl) (by kernel_rfl) (by kernel_rfl)
def fulcrumlaw02_lists.m3 (x0 : Dt56) (x3 : Dt61) (x4 : Int) : S := ⟨[(0, .one (.lf (.val false Kt56 x0))), (3, .one (.lf (.own 0))), (4, .one (.lf (.val true (.int .i64) x4)))], ⟨[some ⟨22, .hd, true, true, x3⟩], []⟩⟩
noncomputable def fulcrumlaw02_lists.b3 (f3 : Dt56 → Dt61 → Int → Option (Dt61 × Unit)) (x0 : Dt56) (x3 : Dt61) (x4 : Int) : Option (Dt61 × Unit) :=
  let v1 := (List.length x0 : Int)
  let v2 := decide (x4 < v1)
  bif v2 then (bif decide (0 ≤ x4) && decide (x4 < (List.length x0 : Int)) then (let v3 := (List.getD x0 (Int.toNat x4) zt25).2
  let v4 := ([v3] : List Value)
  bif decide (List.length x3 + List.length v4 < 5864062014805) then (let v5 := List.append x3 v4
  let v6 := IntKind.i64.wrap (x4 + (1 : Int))
  f3 x0 v5 v6)
  else none)
  else none)
  else (some (x3, ()))
noncomputable def fulcrumlaw02_lists.e (f3 : Dt56 → Dt61 → Int → Option (Dt61 × Unit)) (a0 : Dt56) : Option (Dt61 × Unit) :=
  f3 a0 zt61 (0 : Int)
noncomputable def fulcrumlaw02_lists.L3 (k : Nat) (x0 : Dt56) (x3 : Dt61) (x4 : Int) : Option (Dt61 × Unit) := heads (fulcrumlaw02_lists.spec.env fulcrumlaw02_lists.cals T Try.f67) (Func.pts Try.f67) k 3 (fulcrumlaw02_lists.m3 x0 x3 x4)
theorem fulcrumlaw02_lists.L3_succ (k : Nat) (x0 : Dt56) (x3 : Dt61) (x4 : Int) : fulcrumlaw02_lists.L3 (k + 1) x0 x3 x4 = fulcrumlaw02_lists.b3 (fulcrumlaw02_lists.L3 k) x0 x3 x4 := by kernel_rfl
theorem fulcrumlaw02_lists.eval (k : Nat) (a0 : Dt56) : evalF fulcrumlaw02_lists.spec fulcrumlaw02_lists.cals T Try.f67 k (a0, ()) = fulcrumlaw02_lists.e (fulcrumlaw02_lists.L3 k) a0 := by kernel_rfl
theorem fulcrumlaw02_lists.F_eq (a0 : Dt56) : fulcrumlaw02_lists.F (a0, ()) = limF fulcrumlaw02_lists.spec fulcrumlaw02_lists.cals T Try.f67 (a0, ()) := by kernel_rfl
theorem fulcrumlaw02_lists.of (k : Nat) (a0 : Dt56) {y : Dt61 × Unit} (h : fulcrumlaw02_lists.e (fulcrumlaw02_lists.L3 k) a0 = some y) : fulcrumlaw02_lists.F (a0, ()) = some y := (fulcrumlaw02_lists.F_eq a0).trans (limF_of (q := fulcrumlaw02_lists.spec) (C := fulcrumlaw02_lists.cals) (T := T) (f := Try.f67) (x := (a0, ())) (y := y) k ((fulcrumlaw02_lists.eval k a0).trans h))
end Go.Fx.Hd
