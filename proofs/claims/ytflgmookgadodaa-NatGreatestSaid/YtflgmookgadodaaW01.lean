import Derived.Test.YtflgmookgadodaaEv27
import Derived.Test.YtflgmookgadodaaProg
namespace Go.Fx.Try
open Go Go.Proofs Go.Fx
set_option linter.unusedVariables false
set_option maxRecDepth 100000

def ti27 : TI := ⟨.int .u32, (.int .u32), false, 4⟩
def T27 : Tab := Tab.cons 27 ti27 Tab.nil
theorem tab27 : TabOk Try.prog T27 := TabOk.cons (by kernel_rfl) { info := ⟨Try.t27, by kernel_rfl, by kernel_rfl, by kernel_rfl, (.int .u32 0), by kernel_rfl, by kernel_rfl⟩, agg := ⟨_, Try.underlying27, rfl⟩, desc := ⟨Try.underlying27, rfl⟩ } TabOk.nil
def ti24 : TI := ⟨.sl 27, (.sl 27 (.int .u32)), false, 24⟩
def T24 : Tab := Tab.cons 24 ti24 T27
theorem tab24 : TabOk Try.prog T24 := TabOk.cons (by kernel_rfl) { info := ⟨Try.t24, by kernel_rfl, by kernel_rfl, by kernel_rfl, (.slice none 0 0), by kernel_rfl, by kernel_rfl⟩, agg := ⟨_, Try.underlying24, rfl⟩, desc := ⟨Try.underlying24, ti27, by kernel_rfl, rfl, by decide⟩ } tab27
def ti4 : TI := ⟨.bool, .bool, false, 1⟩
def T4 : Tab := Tab.cons 4 ti4 T24
theorem tab4 : TabOk Try.prog T4 := TabOk.cons (by kernel_rfl) { info := ⟨Try.t4, by kernel_rfl, by kernel_rfl, by kernel_rfl, (.bool false), by kernel_rfl, by kernel_rfl⟩, agg := ⟨_, Try.underlying4, rfl⟩, desc := ⟨Try.underlying4, rfl⟩ } tab24
def ti26 : TI := ⟨.int .u64, (.int .u64), false, 8⟩
def T26 : Tab := Tab.cons 26 ti26 T4
theorem tab26 : TabOk Try.prog T26 := TabOk.cons (by kernel_rfl) { info := ⟨Try.t26, by kernel_rfl, by kernel_rfl, by kernel_rfl, (.int .u64 0), by kernel_rfl, by kernel_rfl⟩, agg := ⟨_, Try.underlying26, rfl⟩, desc := ⟨Try.underlying26, rfl⟩ } tab4
def ti23 : TI := ⟨.sl 27, (.sl 27 (.int .u32)), false, 24⟩
def T23 : Tab := Tab.cons 23 ti23 T26
theorem tab23 : TabOk Try.prog T23 := TabOk.cons (by kernel_rfl) { info := ⟨Try.t23, by kernel_rfl, by kernel_rfl, by kernel_rfl, (.slice none 0 0), by kernel_rfl, by kernel_rfl⟩, agg := ⟨_, Try.underlying23, rfl⟩, desc := ⟨Try.underlying23, ti27, by kernel_rfl, rfl, by decide⟩ } tab26
def ti3 : TI := ⟨.int .i64, (.int .i64), false, 8⟩
def T3 : Tab := Tab.cons 3 ti3 T23
theorem tab3 : TabOk Try.prog T3 := TabOk.cons (by kernel_rfl) { info := ⟨Try.t3, by kernel_rfl, by kernel_rfl, by kernel_rfl, (.int .i64 0), by kernel_rfl, by kernel_rfl⟩, agg := ⟨_, Try.underlying3, rfl⟩, desc := ⟨Try.underlying3, rfl⟩ } tab23
def ti5 : TI := ⟨.int .u8, (.int .u8), false, 1⟩
def T5 : Tab := Tab.cons 5 ti5 T3
theorem tab5 : TabOk Try.prog T5 := TabOk.cons (by kernel_rfl) { info := ⟨Try.t5, by kernel_rfl, by kernel_rfl, by kernel_rfl, (.int .u8 0), by kernel_rfl, by kernel_rfl⟩, agg := ⟨_, Try.underlying5, rfl⟩, desc := ⟨Try.underlying5, rfl⟩ } tab3
def ti9 : TI := ⟨.str, .str, false, 16⟩
def T9 : Tab := Tab.cons 9 ti9 T5
theorem tab9 : TabOk Try.prog T9 := TabOk.cons (by kernel_rfl) { info := ⟨Try.t9, by kernel_rfl, by kernel_rfl, by kernel_rfl, (.string ByteArray.empty), by kernel_rfl, by kernel_rfl⟩, agg := ⟨_, Try.underlying9, rfl⟩, desc := ⟨Try.underlying9, rfl⟩ } tab5
def ti60 : TI := ⟨.int .u64, (.int .u64), false, 8⟩
def T60 : Tab := Tab.cons 60 ti60 T9
theorem tab60 : TabOk Try.prog T60 := TabOk.cons (by kernel_rfl) { info := ⟨Try.t60, by kernel_rfl, by kernel_rfl, by kernel_rfl, (.int .u64 0), by kernel_rfl, by kernel_rfl⟩, agg := ⟨_, Try.underlying60, rfl⟩, desc := ⟨Try.underlying60, rfl⟩ } tab9
def ti37 : TI := ⟨.int .i64, (.int .i64), false, 8⟩
def T37 : Tab := Tab.cons 37 ti37 T60
theorem tab37 : TabOk Try.prog T37 := TabOk.cons (by kernel_rfl) { info := ⟨Try.t37, by kernel_rfl, by kernel_rfl, by kernel_rfl, (.int .i64 0), by kernel_rfl, by kernel_rfl⟩, agg := ⟨_, Try.underlying37, rfl⟩, desc := ⟨Try.underlying37, rfl⟩ } tab60
def ti63 : TI := ⟨.sl 5, (.sl 5 (.int .u8)), false, 24⟩
def T63 : Tab := Tab.cons 63 ti63 T37
theorem tab63 : TabOk Try.prog T63 := TabOk.cons (by kernel_rfl) { info := ⟨Try.t63, by kernel_rfl, by kernel_rfl, by kernel_rfl, (.slice none 0 0), by kernel_rfl, by kernel_rfl⟩, agg := ⟨_, Try.underlying63, rfl⟩, desc := ⟨Try.underlying63, ti5, by kernel_rfl, rfl, by decide⟩ } tab37
def ti52 : TI := ⟨.sl 24, (.sl 24 (.sl 27 (.int .u32))), false, 24⟩
def T52 : Tab := Tab.cons 52 ti52 T63
theorem tab52 : TabOk Try.prog T52 := TabOk.cons (by kernel_rfl) { info := ⟨Try.t52, by kernel_rfl, by kernel_rfl, by kernel_rfl, (.slice none 0 0), by kernel_rfl, by kernel_rfl⟩, agg := ⟨_, Try.underlying52, rfl⟩, desc := ⟨Try.underlying52, ti24, by kernel_rfl, rfl, by decide⟩ } tab63
def ti56 : TI := ⟨.sl 23, (.sl 23 (.sl 27 (.int .u32))), false, 24⟩
def T56 : Tab := Tab.cons 56 ti56 T52
theorem tab56 : TabOk Try.prog T56 := TabOk.cons (by kernel_rfl) { info := ⟨Try.t56, by kernel_rfl, by kernel_rfl, by kernel_rfl, (.slice none 0 0), by kernel_rfl, by kernel_rfl⟩, agg := ⟨_, Try.underlying56, rfl⟩, desc := ⟨Try.underlying56, ti23, by kernel_rfl, rfl, by decide⟩ } tab52
def T : Tab := T56
theorem tabOk : TabOk Try.prog T := tab56
theorem mix : Try.prog.follows .mixedOrders = true := by kernel_rfl

/-! ### fulcrum/fulcrumref01.Same -/
def fulcrumref01_Same.spec : Spec := ⟨[(false, (.sl 27 (.int .u32))), (false, (.sl 27 (.int .u32)))], [(false, .bool)], .own, fun j => match j with | 4 => [(0, .lf (.z 27 (.int .u32) false)), (1, .lf (.z 27 (.int .u32) false)), (5, .lf (.v true))] | _ => []⟩
noncomputable def fulcrumref01_Same.cals : Cals := Cals.nil
noncomputable def fulcrumref01_Same.sig : Sig := fulcrumref01_Same.spec.sig fulcrumref01_Same.cals T Try.f57
noncomputable def fulcrumref01_Same.F (x : (List Int) × (List Int) × Unit) : Option (Bool × Unit) := limF fulcrumref01_Same.spec fulcrumref01_Same.cals T Try.f57 x
theorem fulcrumref01_Same.ck : CalsOk Try.prog fulcrumref01_Same.cals := CalsOk.nil
theorem fulcrumref01_Same.cal : CalOk Try.prog 57 fulcrumref01_Same.sig := calOk_lim' tabOk fulcrumref01_Same.ck mix Try.func57 (by kernel_rfl) (by kernel_rfl) (by kernel_rfl) (by kernel_rfl)
def fulcrumref01_Same.m4 (x0 : (List Int)) (x1 : (List Int)) (x5 : Int) : S := ⟨[(0, .one (.lf (.val false (.sl 27 (.int .u32)) x0))), (1, .one (.lf (.val false (.sl 27 (.int .u32)) x1))), (5, .one (.lf (.val true (.int .i64) x5)))], ⟨[], []⟩⟩
noncomputable def fulcrumref01_Same.b4 (f4 : (List Int) → (List Int) → Int → Option (Bool × Unit)) (x0 : (List Int)) (x1 : (List Int)) (x5 : Int) : Option (Bool × Unit) :=
  let v1 := (List.length x0 : Int)
  let v2 := decide (x5 < v1)
  bif v2 then (bif decide (0 ≤ x5) && decide (x5 < (List.length x0 : Int)) then (let v3 := List.getD x0 (Int.toNat x5) (0 : Int)
  bif decide (0 ≤ x5) && decide (x5 < (List.length x1 : Int)) then (let v4 := List.getD x1 (Int.toNat x5) (0 : Int)
  let v5 := (v3 != v4)
  bif v5 then (some (false, ()))
  else (let v6 := IntKind.i64.wrap (x5 + (1 : Int))
  f4 x0 x1 v6))
  else none)
  else none)
  else (some (true, ()))
noncomputable def fulcrumref01_Same.e (f4 : (List Int) → (List Int) → Int → Option (Bool × Unit)) (a0 : (List Int)) (a1 : (List Int)) : Option (Bool × Unit) :=
  let v1 := (List.length a0 : Int)
  let v2 := (List.length a1 : Int)
  let v3 := (v1 != v2)
  bif v3 then (some (false, ()))
  else (f4 a0 a1 (0 : Int))
noncomputable def fulcrumref01_Same.L4 (k : Nat) (x0 : (List Int)) (x1 : (List Int)) (x5 : Int) : Option (Bool × Unit) := heads (fulcrumref01_Same.spec.env fulcrumref01_Same.cals T Try.f57) (Func.pts Try.f57) k 4 (fulcrumref01_Same.m4 x0 x1 x5)
theorem fulcrumref01_Same.L4_succ (k : Nat) (x0 : (List Int)) (x1 : (List Int)) (x5 : Int) : fulcrumref01_Same.L4 (k + 1) x0 x1 x5 = fulcrumref01_Same.b4 (fulcrumref01_Same.L4 k) x0 x1 x5 := by kernel_rfl
theorem fulcrumref01_Same.L4_zero (x0 : (List Int)) (x1 : (List Int)) (x5 : Int) : fulcrumref01_Same.L4 0 x0 x1 x5 = none := by kernel_rfl
theorem fulcrumref01_Same.eval (k : Nat) (a0 : (List Int)) (a1 : (List Int)) : evalF fulcrumref01_Same.spec fulcrumref01_Same.cals T Try.f57 k (a0, a1, ()) = fulcrumref01_Same.e (fulcrumref01_Same.L4 k) a0 a1 := by kernel_rfl
theorem fulcrumref01_Same.F_eq (a0 : (List Int)) (a1 : (List Int)) : fulcrumref01_Same.F (a0, a1, ()) = limF fulcrumref01_Same.spec fulcrumref01_Same.cals T Try.f57 (a0, a1, ()) := by kernel_rfl
theorem fulcrumref01_Same.of (k : Nat) (a0 : (List Int)) (a1 : (List Int)) {y : Bool × Unit} (h : fulcrumref01_Same.e (fulcrumref01_Same.L4 k) a0 a1 = some y) : fulcrumref01_Same.F (a0, a1, ()) = some y := (fulcrumref01_Same.F_eq a0 a1).trans (limF_of (q := fulcrumref01_Same.spec) (C := fulcrumref01_Same.cals) (T := T) (f := Try.f57) (x := (a0, a1, ())) (y := y) k ((fulcrumref01_Same.eval k a0 a1).trans h))

/-! ### fulcrum/fulcrumlaw01.same -/
def fulcrumlaw01_same.spec : Spec := ⟨[(false, (.sl 27 (.int .u32))), (false, (.sl 27 (.int .u32)))], [(false, .bool)], .own, fun j => match j with  | _ => []⟩
noncomputable def fulcrumlaw01_same.cals : Cals := (Cals.cons 57 fulcrumref01_Same.sig Cals.nil)
noncomputable def fulcrumlaw01_same.sig : Sig := fulcrumlaw01_same.spec.sig fulcrumlaw01_same.cals T Try.f18
noncomputable def fulcrumlaw01_same.F (x : (List Int) × (List Int) × Unit) : Option (Bool × Unit) := limF fulcrumlaw01_same.spec fulcrumlaw01_same.cals T Try.f18 x
theorem fulcrumlaw01_same.ck : CalsOk Try.prog fulcrumlaw01_same.cals := (CalsOk.cons fulcrumref01_Same.cal CalsOk.nil)
theorem fulcrumlaw01_same.cal : CalOk Try.prog 18 fulcrumlaw01_same.sig := calOk_lim' tabOk fulcrumlaw01_same.ck mix Try.func18 (by kernel_rfl) (by kernel_rfl) (by kernel_rfl) (by kernel_rfl)
noncomputable def fulcrumlaw01_same.e  (a0 : (List Int)) (a1 : (List Int)) : Option (Bool × Unit) :=
  (fulcrumref01_Same.F (a0, a1, ())).bind fun y1 =>
  some (y1.1, ())
theorem fulcrumlaw01_same.eval (k : Nat) (a0 : (List Int)) (a1 : (List Int)) : evalF fulcrumlaw01_same.spec fulcrumlaw01_same.cals T Try.f18 k (a0, a1, ()) = fulcrumlaw01_same.e  a0 a1 := by kernel_rfl
theorem fulcrumlaw01_same.F_eq (a0 : (List Int)) (a1 : (List Int)) : fulcrumlaw01_same.F (a0, a1, ()) = limF fulcrumlaw01_same.spec fulcrumlaw01_same.cals T Try.f18 (a0, a1, ()) := by kernel_rfl
theorem fulcrumlaw01_same.of (k : Nat) (a0 : (List Int)) (a1 : (List Int)) {y : Bool × Unit} (h : fulcrumlaw01_same.e  a0 a1 = some y) : fulcrumlaw01_same.F (a0, a1, ()) = some y := (fulcrumlaw01_same.F_eq a0 a1).trans (limF_of (q := fulcrumlaw01_same.spec) (C := fulcrumlaw01_same.cals) (T := T) (f := Try.f18) (x := (a0, a1, ())) (y := y) k ((fulcrumlaw01_same.eval k a0 a1).trans h))

/-! ### fulcrum/nat.trim -/
def nat_trim.spec : Spec := ⟨[(false, (.sl 27 (.int .u32)))], [(false, (.sl 27 (.int .u32)))], .shared, fun j => match j with | 2 => [(0, .lf (.z 27 (.int .u32) true)), (3, .lf (.v true))] | _ => []⟩
noncomputable def nat_trim.cals : Cals := Cals.nil
noncomputable def nat_trim.sig : Sig := nat_trim.spec.sig nat_trim.cals T Try.f59
noncomputable def nat_trim.F (x : (List Int) × Unit) : Option ((List Int) × Unit) := limF nat_trim.spec nat_trim.cals T Try.f59 x
theorem nat_trim.ck : CalsOk Try.prog nat_trim.cals := CalsOk.nil
theorem nat_trim.cal : CalOk Try.prog 59 nat_trim.sig := calOk_lim' tabOk nat_trim.ck mix Try.func59 (by kernel_rfl) (by kernel_rfl) (by kernel_rfl) (by kernel_rfl)
def nat_trim.m2 (x0 : (List Int)) (x3 : Int) : S := ⟨[(0, .one (.lf (.val true (.sl 27 (.int .u32)) x0))), (3, .one (.lf (.val true (.int .i64) x3)))], ⟨[], []⟩⟩
noncomputable def nat_trim.b2 (f2 : (List Int) → Int → Option ((List Int) × Unit)) (x0 : (List Int)) (x3 : Int) : Option ((List Int) × Unit) :=
  let v1 := decide (x3 > (0 : Int))
  bif v1 then (let v2 := IntKind.i64.wrap (x3 - (1 : Int))
  bif decide (0 ≤ v2) && decide (v2 < (List.length x0 : Int)) then (let v3 := List.getD x0 (Int.toNat v2) (0 : Int)
  let v4 := (v3 == (0 : Int))
  bif v4 then (let v5 := IntKind.i64.wrap (x3 - (1 : Int))
  f2 x0 v5)
  else (bif decide (0 ≤ x3) && decide (x3 ≤ (List.length x0 : Int)) then (let v6 := List.take (Int.toNat x3) x0
  some (v6, ()))
  else none))
  else none)
  else (bif decide (0 ≤ x3) && decide (x3 ≤ (List.length x0 : Int)) then (let v7 := List.take (Int.toNat x3) x0
  some (v7, ()))
  else none)
noncomputable def nat_trim.e (f2 : (List Int) → Int → Option ((List Int) × Unit)) (a0 : (List Int)) : Option ((List Int) × Unit) :=
  let v1 := (List.length a0 : Int)
  f2 a0 v1
noncomputable def nat_trim.L2 (k : Nat) (x0 : (List Int)) (x3 : Int) : Option ((List Int) × Unit) := heads (nat_trim.spec.env nat_trim.cals T Try.f59) (Func.pts Try.f59) k 2 (nat_trim.m2 x0 x3)
theorem nat_trim.L2_succ (k : Nat) (x0 : (List Int)) (x3 : Int) : nat_trim.L2 (k + 1) x0 x3 = nat_trim.b2 (nat_trim.L2 k) x0 x3 := by kernel_rfl
theorem nat_trim.L2_zero (x0 : (List Int)) (x3 : Int) : nat_trim.L2 0 x0 x3 = none := by kernel_rfl
theorem nat_trim.eval (k : Nat) (a0 : (List Int)) : evalF nat_trim.spec nat_trim.cals T Try.f59 k (a0, ()) = nat_trim.e (nat_trim.L2 k) a0 := by kernel_rfl
theorem nat_trim.F_eq (a0 : (List Int)) : nat_trim.F (a0, ()) = limF nat_trim.spec nat_trim.cals T Try.f59 (a0, ()) := by kernel_rfl
theorem nat_trim.of (k : Nat) (a0 : (List Int)) {y : (List Int) × Unit} (h : nat_trim.e (nat_trim.L2 k) a0 = some y) : nat_trim.F (a0, ()) = some y := (nat_trim.F_eq a0).trans (limF_of (q := nat_trim.spec) (C := nat_trim.cals) (T := T) (f := Try.f59) (x := (a0, ())) (y := y) k ((nat_trim.eval k a0).trans h))

/-! ### fulcrum/nat.own -/
def nat_own.spec : Spec := ⟨[(false, (.sl 27 (.int .u32)))], [(false, (.sl 27 (.int .u32)))], .own, fun j => match j with  | _ => []⟩
noncomputable def nat_own.cals : Cals := (Cals.cons 59 nat_trim.sig Cals.nil)
noncomputable def nat_own.sig : Sig := nat_own.spec.sig nat_own.cals T Try.f58
noncomputable def nat_own.F (x : (List Int) × Unit) : Option ((List Int) × Unit) := limF nat_own.spec nat_own.cals T Try.f58 x
theorem nat_own.ck : CalsOk Try.prog nat_own.cals := (CalsOk.cons nat_trim.cal CalsOk.nil)
theorem nat_own.cal : CalOk Try.prog 58 nat_own.sig := calOk_lim' tabOk nat_own.ck mix Try.func58 (by kernel_rfl) (by kernel_rfl) (by kernel_rfl) (by kernel_rfl)
noncomputable def nat_own.e  (a0 : (List Int)) : Option ((List Int) × Unit) :=
  (nat_trim.F (a0, ())).bind fun y1 =>
  let v2 := (List.length y1.1 : Int)
  let v3 := (v2 == (0 : Int))
  bif v3 then (some (([] : List Int), ()))
  else (let v4 := (List.length y1.1 : Int)
  bif decide (0 ≤ v4) && (decide (v4 ≤ v4) && (decide (Int.toNat v4 * 4 ≤ 281474976710656) && Nat.blt 0 4)) then (let v5 := List.replicate (Int.toNat v4) (0 : Int)
  let v6 := List.take (List.length v5) y1.1 ++ List.drop (List.length y1.1) v5
  let v7 := ((Nat.min (List.length y1.1) (List.length v5) : Nat) : Int)
  some (v6, ()))
  else none)
theorem nat_own.eval (k : Nat) (a0 : (List Int)) : evalF nat_own.spec nat_own.cals T Try.f58 k (a0, ()) = nat_own.e  a0 := by kernel_rfl
theorem nat_own.F_eq (a0 : (List Int)) : nat_own.F (a0, ()) = limF nat_own.spec nat_own.cals T Try.f58 (a0, ()) := by kernel_rfl
theorem nat_own.of (k : Nat) (a0 : (List Int)) {y : (List Int) × Unit} (h : nat_own.e  a0 = some y) : nat_own.F (a0, ()) = some y := (nat_own.F_eq a0).trans (limF_of (q := nat_own.spec) (C := nat_own.cals) (T := T) (f := Try.f58) (x := (a0, ())) (y := y) k ((nat_own.eval k a0).trans h))

/-! ### fulcrum/nat.Of -/
def nat_Of.spec : Spec := ⟨[(false, (.int .u64))], [(false, (.sl 27 (.int .u32)))], .own, fun j => match j with  | _ => []⟩
noncomputable def nat_Of.cals : Cals := (Cals.cons 58 nat_own.sig Cals.nil)
noncomputable def nat_Of.sig : Sig := nat_Of.spec.sig nat_Of.cals T Try.f19
noncomputable def nat_Of.F (x : Int × Unit) : Option ((List Int) × Unit) := limF nat_Of.spec nat_Of.cals T Try.f19 x
theorem nat_Of.ck : CalsOk Try.prog nat_Of.cals := (CalsOk.cons nat_own.cal CalsOk.nil)
theorem nat_Of.cal : CalOk Try.prog 19 nat_Of.sig := calOk_lim' tabOk nat_Of.ck mix Try.func19 (by kernel_rfl) (by kernel_rfl) (by kernel_rfl) (by kernel_rfl)
noncomputable def nat_Of.e  (a0 : Int) : Option ((List Int) × Unit) :=
  let v1 := IntKind.u32.wrap a0
  bif decide ((32 : Int) < 0) then none
  else (let v2 := shrI .u64 a0 (32 : Int)
  let v3 := IntKind.u32.wrap v2
  let v4 := ([v1, v3] : List Int)
  (nat_own.F (v4, ())).bind fun y5 =>
  some (y5.1, ()))
theorem nat_Of.eval (k : Nat) (a0 : Int) : evalF nat_Of.spec nat_Of.cals T Try.f19 k (a0, ()) = nat_Of.e  a0 := by kernel_rfl
theorem nat_Of.F_eq (a0 : Int) : nat_Of.F (a0, ()) = limF nat_Of.spec nat_Of.cals T Try.f19 (a0, ()) := by kernel_rfl
theorem nat_Of.of (k : Nat) (a0 : Int) {y : (List Int) × Unit} (h : nat_Of.e  a0 = some y) : nat_Of.F (a0, ()) = some y := (nat_Of.F_eq a0).trans (limF_of (q := nat_Of.spec) (C := nat_Of.cals) (T := T) (f := Try.f19) (x := (a0, ())) (y := y) k ((nat_Of.eval k a0).trans h))

/-! ### fulcrum/fulcrumlaw01.NatConsts -/
def fulcrumlaw01_NatConsts.spec : Spec := ⟨[], [(false, .bool)], .own, fun j => match j with  | _ => []⟩
noncomputable def fulcrumlaw01_NatConsts.cals : Cals := (Cals.cons 19 nat_Of.sig (Cals.cons 18 fulcrumlaw01_same.sig Cals.nil))
noncomputable def fulcrumlaw01_NatConsts.sig : Sig := fulcrumlaw01_NatConsts.spec.sig fulcrumlaw01_NatConsts.cals T Try.f3
noncomputable def fulcrumlaw01_NatConsts.F (x : Unit) : Option (Bool × Unit) := limF fulcrumlaw01_NatConsts.spec fulcrumlaw01_NatConsts.cals T Try.f3 x
theorem fulcrumlaw01_NatConsts.ck : CalsOk Try.prog fulcrumlaw01_NatConsts.cals := (CalsOk.cons nat_Of.cal (CalsOk.cons fulcrumlaw01_same.cal CalsOk.nil))
theorem fulcrumlaw01_NatConsts.cal : CalOk Try.prog 3 fulcrumlaw01_NatConsts.sig := calOk_lim' tabOk fulcrumlaw01_NatConsts.ck mix Try.func3 (by kernel_rfl) (by kernel_rfl) (by kernel_rfl) (by kernel_rfl)
noncomputable def fulcrumlaw01_NatConsts.e   : Option (Bool × Unit) :=
  (nat_Of.F ((7 : Int), ())).bind fun y1 =>
  let v2 := ([(7 : Int)] : List Int)
  (fulcrumlaw01_same.F (y1.1, v2, ())).bind fun y3 =>
  let v4 := not y3.1
  bif v4 then (some (false, ()))
  else (some (true, ()))
theorem fulcrumlaw01_NatConsts.eval (k : Nat)  : evalF fulcrumlaw01_NatConsts.spec fulcrumlaw01_NatConsts.cals T Try.f3 k () = fulcrumlaw01_NatConsts.e   := by kernel_rfl
theorem fulcrumlaw01_NatConsts.F_eq  : fulcrumlaw01_NatConsts.F () = limF fulcrumlaw01_NatConsts.spec fulcrumlaw01_NatConsts.cals T Try.f3 () := by kernel_rfl
theorem fulcrumlaw01_NatConsts.of (k : Nat)  {y : Bool × Unit} (h : fulcrumlaw01_NatConsts.e   = some y) : fulcrumlaw01_NatConsts.F () = some y := (fulcrumlaw01_NatConsts.F_eq ).trans (limF_of (q := fulcrumlaw01_NatConsts.spec) (C := fulcrumlaw01_NatConsts.cals) (T := T) (f := Try.f3) (x := ()) (y := y) k ((fulcrumlaw01_NatConsts.eval k ).trans h))

/-! ### fulcrum/nat.Norm -/
def nat_Norm.spec : Spec := ⟨[(false, (.sl 27 (.int .u32)))], [(false, (.sl 27 (.int .u32)))], .own, fun j => match j with  | _ => []⟩
noncomputable def nat_Norm.cals : Cals := (Cals.cons 58 nat_own.sig Cals.nil)
noncomputable def nat_Norm.sig : Sig := nat_Norm.spec.sig nat_Norm.cals T Try.f20
noncomputable def nat_Norm.F (x : (List Int) × Unit) : Option ((List Int) × Unit) := limF nat_Norm.spec nat_Norm.cals T Try.f20 x
theorem nat_Norm.ck : CalsOk Try.prog nat_Norm.cals := (CalsOk.cons nat_own.cal CalsOk.nil)
theorem nat_Norm.cal : CalOk Try.prog 20 nat_Norm.sig := calOk_lim' tabOk nat_Norm.ck mix Try.func20 (by kernel_rfl) (by kernel_rfl) (by kernel_rfl) (by kernel_rfl)
noncomputable def nat_Norm.e  (a0 : (List Int)) : Option ((List Int) × Unit) :=
  (nat_own.F (a0, ())).bind fun y1 =>
  some (y1.1, ())
theorem nat_Norm.eval (k : Nat) (a0 : (List Int)) : evalF nat_Norm.spec nat_Norm.cals T Try.f20 k (a0, ()) = nat_Norm.e  a0 := by kernel_rfl
theorem nat_Norm.F_eq (a0 : (List Int)) : nat_Norm.F (a0, ()) = limF nat_Norm.spec nat_Norm.cals T Try.f20 (a0, ()) := by kernel_rfl
theorem nat_Norm.of (k : Nat) (a0 : (List Int)) {y : (List Int) × Unit} (h : nat_Norm.e  a0 = some y) : nat_Norm.F (a0, ()) = some y := (nat_Norm.F_eq a0).trans (limF_of (q := nat_Norm.spec) (C := nat_Norm.cals) (T := T) (f := Try.f20) (x := (a0, ())) (y := y) k ((nat_Norm.eval k a0).trans h))

/-! ### fulcrum/fulcrumlaw01.twin -/
def fulcrumlaw01_twin.spec : Spec := ⟨[(false, (.sl 27 (.int .u32)))], [(false, (.sl 27 (.int .u32)))], .own, fun j => match j with | 3 => [(0, .lf (.z 27 (.int .u32) false)), (3, .lf (.o 27 (.int .u32) true)), (4, .lf (.v true))] | _ => []⟩
noncomputable def fulcrumlaw01_twin.cals : Cals := Cals.nil
noncomputable def fulcrumlaw01_twin.sig : Sig := fulcrumlaw01_twin.spec.sig fulcrumlaw01_twin.cals T Try.f21
noncomputable def fulcrumlaw01_twin.F (x : (List Int) × Unit) : Option ((List Int) × Unit) := limF fulcrumlaw01_twin.spec fulcrumlaw01_twin.cals T Try.f21 x
theorem fulcrumlaw01_twin.ck : CalsOk Try.prog fulcrumlaw01_twin.cals := CalsOk.nil
theorem fulcrumlaw01_twin.cal : CalOk Try.prog 21 fulcrumlaw01_twin.sig := calOk_lim' tabOk fulcrumlaw01_twin.ck mix Try.func21 (by kernel_rfl) (by kernel_rfl) (by kernel_rfl) (by kernel_rfl)
def fulcrumlaw01_twin.m3 (x0 : (List Int)) (x3 : (List Int)) (x4 : Int) : S := ⟨[(0, .one (.lf (.val false (.sl 27 (.int .u32)) x0))), (3, .one (.lf (.own 0))), (4, .one (.lf (.val true (.int .i64) x4)))], ⟨[some ⟨27, (.int .u32), true, true, x3⟩], []⟩⟩
noncomputable def fulcrumlaw01_twin.b3 (f3 : (List Int) → (List Int) → Int → Option ((List Int) × Unit)) (x0 : (List Int)) (x3 : (List Int)) (x4 : Int) : Option ((List Int) × Unit) :=
  let v1 := (List.length x0 : Int)
  let v2 := decide (x4 < v1)
  bif v2 then (bif decide (0 ≤ x4) && decide (x4 < (List.length x0 : Int)) then (let v3 := List.getD x0 (Int.toNat x4) (0 : Int)
  bif decide (0 ≤ x4) && decide (x4 < (List.length x3 : Int)) then (let v4 := List.set x3 (Int.toNat x4) v3
  let v5 := IntKind.i64.wrap (x4 + (1 : Int))
  f3 x0 v4 v5)
  else none)
  else none)
  else (some (x3, ()))
noncomputable def fulcrumlaw01_twin.e (f3 : (List Int) → (List Int) → Int → Option ((List Int) × Unit)) (a0 : (List Int)) : Option ((List Int) × Unit) :=
  let v1 := (List.length a0 : Int)
  bif decide (0 ≤ v1) && (decide (v1 ≤ v1) && (decide (Int.toNat v1 * 4 ≤ 281474976710656) && Nat.blt 0 4)) then (let v2 := List.replicate (Int.toNat v1) (0 : Int)
  f3 a0 v2 (0 : Int))
  else none
noncomputable def fulcrumlaw01_twin.L3 (k : Nat) (x0 : (List Int)) (x3 : (List Int)) (x4 : Int) : Option ((List Int) × Unit) := heads (fulcrumlaw01_twin.spec.env fulcrumlaw01_twin.cals T Try.f21) (Func.pts Try.f21) k 3 (fulcrumlaw01_twin.m3 x0 x3 x4)
theorem fulcrumlaw01_twin.L3_succ (k : Nat) (x0 : (List Int)) (x3 : (List Int)) (x4 : Int) : fulcrumlaw01_twin.L3 (k + 1) x0 x3 x4 = fulcrumlaw01_twin.b3 (fulcrumlaw01_twin.L3 k) x0 x3 x4 := by kernel_rfl
theorem fulcrumlaw01_twin.L3_zero (x0 : (List Int)) (x3 : (List Int)) (x4 : Int) : fulcrumlaw01_twin.L3 0 x0 x3 x4 = none := by kernel_rfl
theorem fulcrumlaw01_twin.eval (k : Nat) (a0 : (List Int)) : evalF fulcrumlaw01_twin.spec fulcrumlaw01_twin.cals T Try.f21 k (a0, ()) = fulcrumlaw01_twin.e (fulcrumlaw01_twin.L3 k) a0 := by kernel_rfl
theorem fulcrumlaw01_twin.F_eq (a0 : (List Int)) : fulcrumlaw01_twin.F (a0, ()) = limF fulcrumlaw01_twin.spec fulcrumlaw01_twin.cals T Try.f21 (a0, ()) := by kernel_rfl
theorem fulcrumlaw01_twin.of (k : Nat) (a0 : (List Int)) {y : (List Int) × Unit} (h : fulcrumlaw01_twin.e (fulcrumlaw01_twin.L3 k) a0 = some y) : fulcrumlaw01_twin.F (a0, ()) = some y := (fulcrumlaw01_twin.F_eq a0).trans (limF_of (q := fulcrumlaw01_twin.spec) (C := fulcrumlaw01_twin.cals) (T := T) (f := Try.f21) (x := (a0, ())) (y := y) k ((fulcrumlaw01_twin.eval k a0).trans h))

/-! ### fulcrum/fulcrumref01.Norm -/
def fulcrumref01_Norm.spec : Spec := ⟨[(false, (.sl 27 (.int .u32)))], [(false, (.sl 27 (.int .u32)))], .own, fun j => match j with | 2 => [(0, .lf (.z 27 (.int .u32) false)), (3, .lf (.v true))] | 6 => [(0, .lf (.z 27 (.int .u32) false)), (3, .lf (.v true)), (4, .lf (.o 27 (.int .u32) true)), (5, .lf (.v true))] | _ => []⟩
noncomputable def fulcrumref01_Norm.cals : Cals := Cals.nil
noncomputable def fulcrumref01_Norm.sig : Sig := fulcrumref01_Norm.spec.sig fulcrumref01_Norm.cals T Try.f22
noncomputable def fulcrumref01_Norm.F (x : (List Int) × Unit) : Option ((List Int) × Unit) := limF fulcrumref01_Norm.spec fulcrumref01_Norm.cals T Try.f22 x
theorem fulcrumref01_Norm.ck : CalsOk Try.prog fulcrumref01_Norm.cals := CalsOk.nil
theorem fulcrumref01_Norm.cal : CalOk Try.prog 22 fulcrumref01_Norm.sig := calOk_lim' tabOk fulcrumref01_Norm.ck mix Try.func22 (by kernel_rfl) (by kernel_rfl) (by kernel_rfl) (by kernel_rfl)
def fulcrumref01_Norm.m2 (x0 : (List Int)) (x3 : Int) : S := ⟨[(0, .one (.lf (.val false (.sl 27 (.int .u32)) x0))), (3, .one (.lf (.val true (.int .i64) x3)))], ⟨[], []⟩⟩
def fulcrumref01_Norm.m6 (x0 : (List Int)) (x3 : Int) (x4 : (List Int)) (x5 : Int) : S := ⟨[(0, .one (.lf (.val false (.sl 27 (.int .u32)) x0))), (3, .one (.lf (.val true (.int .i64) x3))), (4, .one (.lf (.own 0))), (5, .one (.lf (.val true (.int .i64) x5)))], ⟨[some ⟨27, (.int .u32), true, true, x4⟩], []⟩⟩
noncomputable def fulcrumref01_Norm.b2 (f2 : (List Int) → Int → Option ((List Int) × Unit)) (f6 : (List Int) → Int → (List Int) → Int → Option ((List Int) × Unit)) (x0 : (List Int)) (x3 : Int) : Option ((List Int) × Unit) :=
  let v1 := decide (x3 > (0 : Int))
  bif v1 then (let v2 := IntKind.i64.wrap (x3 - (1 : Int))
  bif decide (0 ≤ v2) && decide (v2 < (List.length x0 : Int)) then (let v3 := List.getD x0 (Int.toNat v2) (0 : Int)
  let v4 := (v3 == (0 : Int))
  bif v4 then (let v5 := IntKind.i64.wrap (x3 - (1 : Int))
  f2 x0 v5)
  else (bif decide (0 ≤ x3) && (decide (x3 ≤ x3) && (decide (Int.toNat x3 * 4 ≤ 281474976710656) && Nat.blt 0 4)) then (let v6 := List.replicate (Int.toNat x3) (0 : Int)
  f6 x0 x3 v6 (0 : Int))
  else none))
  else none)
  else (bif decide (0 ≤ x3) && (decide (x3 ≤ x3) && (decide (Int.toNat x3 * 4 ≤ 281474976710656) && Nat.blt 0 4)) then (let v7 := List.replicate (Int.toNat x3) (0 : Int)
  f6 x0 x3 v7 (0 : Int))
  else none)
noncomputable def fulcrumref01_Norm.b6 (f2 : (List Int) → Int → Option ((List Int) × Unit)) (f6 : (List Int) → Int → (List Int) → Int → Option ((List Int) × Unit)) (x0 : (List Int)) (x3 : Int) (x4 : (List Int)) (x5 : Int) : Option ((List Int) × Unit) :=
  let v1 := decide (x5 < x3)
  bif v1 then (bif decide (0 ≤ x5) && decide (x5 < (List.length x0 : Int)) then (let v2 := List.getD x0 (Int.toNat x5) (0 : Int)
  bif decide (0 ≤ x5) && decide (x5 < (List.length x4 : Int)) then (let v3 := List.set x4 (Int.toNat x5) v2
  let v4 := IntKind.i64.wrap (x5 + (1 : Int))
  f6 x0 x3 v3 v4)
  else none)
  else none)
  else (some (x4, ()))
noncomputable def fulcrumref01_Norm.e (f2 : (List Int) → Int → Option ((List Int) × Unit)) (f6 : (List Int) → Int → (List Int) → Int → Option ((List Int) × Unit)) (a0 : (List Int)) : Option ((List Int) × Unit) :=
  let v1 := (List.length a0 : Int)
  f2 a0 v1
noncomputable def fulcrumref01_Norm.L2 (k : Nat) (x0 : (List Int)) (x3 : Int) : Option ((List Int) × Unit) := heads (fulcrumref01_Norm.spec.env fulcrumref01_Norm.cals T Try.f22) (Func.pts Try.f22) k 2 (fulcrumref01_Norm.m2 x0 x3)
noncomputable def fulcrumref01_Norm.L6 (k : Nat) (x0 : (List Int)) (x3 : Int) (x4 : (List Int)) (x5 : Int) : Option ((List Int) × Unit) := heads (fulcrumref01_Norm.spec.env fulcrumref01_Norm.cals T Try.f22) (Func.pts Try.f22) k 6 (fulcrumref01_Norm.m6 x0 x3 x4 x5)
theorem fulcrumref01_Norm.L2_succ (k : Nat) (x0 : (List Int)) (x3 : Int) : fulcrumref01_Norm.L2 (k + 1) x0 x3 = fulcrumref01_Norm.b2 (fulcrumref01_Norm.L2 k) (fulcrumref01_Norm.L6 k) x0 x3 := by kernel_rfl
theorem fulcrumref01_Norm.L2_zero (x0 : (List Int)) (x3 : Int) : fulcrumref01_Norm.L2 0 x0 x3 = none := by kernel_rfl
theorem fulcrumref01_Norm.L6_succ (k : Nat) (x0 : (List Int)) (x3 : Int) (x4 : (List Int)) (x5 : Int) : fulcrumref01_Norm.L6 (k + 1) x0 x3 x4 x5 = fulcrumref01_Norm.b6 (fulcrumref01_Norm.L2 k) (fulcrumref01_Norm.L6 k) x0 x3 x4 x5 := by kernel_rfl
theorem fulcrumref01_Norm.L6_zero (x0 : (List Int)) (x3 : Int) (x4 : (List Int)) (x5 : Int) : fulcrumref01_Norm.L6 0 x0 x3 x4 x5 = none := by kernel_rfl
theorem fulcrumref01_Norm.eval (k : Nat) (a0 : (List Int)) : evalF fulcrumref01_Norm.spec fulcrumref01_Norm.cals T Try.f22 k (a0, ()) = fulcrumref01_Norm.e (fulcrumref01_Norm.L2 k) (fulcrumref01_Norm.L6 k) a0 := by kernel_rfl
theorem fulcrumref01_Norm.F_eq (a0 : (List Int)) : fulcrumref01_Norm.F (a0, ()) = limF fulcrumref01_Norm.spec fulcrumref01_Norm.cals T Try.f22 (a0, ()) := by kernel_rfl
theorem fulcrumref01_Norm.of (k : Nat) (a0 : (List Int)) {y : (List Int) × Unit} (h : fulcrumref01_Norm.e (fulcrumref01_Norm.L2 k) (fulcrumref01_Norm.L6 k) a0 = some y) : fulcrumref01_Norm.F (a0, ()) = some y := (fulcrumref01_Norm.F_eq a0).trans (limF_of (q := fulcrumref01_Norm.spec) (C := fulcrumref01_Norm.cals) (T := T) (f := Try.f22) (x := (a0, ())) (y := y) k ((fulcrumref01_Norm.eval k a0).trans h))

/-! ### fulcrum/fulcrumref01.Of -/
def fulcrumref01_Of.spec : Spec := ⟨[(false, (.int .u64))], [(false, (.sl 27 (.int .u32)))], .own, fun j => match j with  | _ => []⟩
noncomputable def fulcrumref01_Of.cals : Cals := (Cals.cons 22 fulcrumref01_Norm.sig Cals.nil)
noncomputable def fulcrumref01_Of.sig : Sig := fulcrumref01_Of.spec.sig fulcrumref01_Of.cals T Try.f23
noncomputable def fulcrumref01_Of.F (x : Int × Unit) : Option ((List Int) × Unit) := limF fulcrumref01_Of.spec fulcrumref01_Of.cals T Try.f23 x
theorem fulcrumref01_Of.ck : CalsOk Try.prog fulcrumref01_Of.cals := (CalsOk.cons fulcrumref01_Norm.cal CalsOk.nil)
theorem fulcrumref01_Of.cal : CalOk Try.prog 23 fulcrumref01_Of.sig := calOk_lim' tabOk fulcrumref01_Of.ck mix Try.func23 (by kernel_rfl) (by kernel_rfl) (by kernel_rfl) (by kernel_rfl)
noncomputable def fulcrumref01_Of.e  (a0 : Int) : Option ((List Int) × Unit) :=
  let v1 := IntKind.u32.wrap a0
  bif decide ((32 : Int) < 0) then none
  else (let v2 := shrI .u64 a0 (32 : Int)
  let v3 := IntKind.u32.wrap v2
  let v4 := ([v1, v3] : List Int)
  (fulcrumref01_Norm.F (v4, ())).bind fun y5 =>
  some (y5.1, ()))
theorem fulcrumref01_Of.eval (k : Nat) (a0 : Int) : evalF fulcrumref01_Of.spec fulcrumref01_Of.cals T Try.f23 k (a0, ()) = fulcrumref01_Of.e  a0 := by kernel_rfl
theorem fulcrumref01_Of.F_eq (a0 : Int) : fulcrumref01_Of.F (a0, ()) = limF fulcrumref01_Of.spec fulcrumref01_Of.cals T Try.f23 (a0, ()) := by kernel_rfl
theorem fulcrumref01_Of.of (k : Nat) (a0 : Int) {y : (List Int) × Unit} (h : fulcrumref01_Of.e  a0 = some y) : fulcrumref01_Of.F (a0, ()) = some y := (fulcrumref01_Of.F_eq a0).trans (limF_of (q := fulcrumref01_Of.spec) (C := fulcrumref01_Of.cals) (T := T) (f := Try.f23) (x := (a0, ())) (y := y) k ((fulcrumref01_Of.eval k a0).trans h))

/-! ### fulcrum/nat.Small -/
def nat_Small.spec : Spec := ⟨[(false, (.sl 27 (.int .u32)))], [(false, (.int .u64)), (false, .bool)], .own, fun j => match j with | 6 => [(0, .lf (.z 27 (.int .u32) false)), (4, .lf (.v true)), (12, .lf (.v true)), (13, .lf (.v true))] | _ => []⟩
noncomputable def nat_Small.cals : Cals := (Cals.cons 59 nat_trim.sig Cals.nil)
noncomputable def nat_Small.sig : Sig := nat_Small.spec.sig nat_Small.cals T Try.f24
noncomputable def nat_Small.F (x : (List Int) × Unit) : Option (Int × Bool × Unit) := limF nat_Small.spec nat_Small.cals T Try.f24 x
theorem nat_Small.ck : CalsOk Try.prog nat_Small.cals := (CalsOk.cons nat_trim.cal CalsOk.nil)
theorem nat_Small.cal : CalOk Try.prog 24 nat_Small.sig := calOk_lim' tabOk nat_Small.ck mix Try.func24 (by kernel_rfl) (by kernel_rfl) (by kernel_rfl) (by kernel_rfl)
def nat_Small.m6 (x0 : (List Int)) (x4 : Int) (x12 : Int) (x13 : Int) : S := ⟨[(0, .one (.lf (.val false (.sl 27 (.int .u32)) x0))), (4, .one (.lf (.val true (.int .u64) x4))), (12, .one (.lf (.val true (.int .i64) x12))), (13, .one (.lf (.val true (.int .i64) x13)))], ⟨[], []⟩⟩
noncomputable def nat_Small.b6 (f6 : (List Int) → Int → Int → Int → Option (Int × Bool × Unit)) (x0 : (List Int)) (x4 : Int) (x12 : Int) (x13 : Int) : Option (Int × Bool × Unit) :=
  let v1 := decide (x13 < x12)
  bif v1 then (bif decide (0 ≤ x13) && decide (x13 < (List.length x0 : Int)) then (let v2 := List.getD x0 (Int.toNat x13) (0 : Int)
  let v3 := IntKind.u64.wrap v2
  let v4 := IntKind.i64.wrap ((32 : Int) * x13)
  bif decide (v4 < 0) then none
  else (let v5 := shlI .u64 v3 v4
  let v6 := bitsOp .or .u64 x4 v5
  let v7 := IntKind.i64.wrap (x13 + (1 : Int))
  f6 x0 v6 x12 v7))
  else none)
  else (some (x4, true, ()))
noncomputable def nat_Small.e (f6 : (List Int) → Int → Int → Int → Option (Int × Bool × Unit)) (a0 : (List Int)) : Option (Int × Bool × Unit) :=
  (nat_trim.F (a0, ())).bind fun y1 =>
  let v2 := (List.length y1.1 : Int)
  let v3 := decide (v2 > (2 : Int))
  bif v3 then (some ((0 : Int), false, ()))
  else (let v4 := (List.length y1.1 : Int)
  f6 y1.1 (0 : Int) v4 (0 : Int))
noncomputable def nat_Small.L6 (k : Nat) (x0 : (List Int)) (x4 : Int) (x12 : Int) (x13 : Int) : Option (Int × Bool × Unit) := heads (nat_Small.spec.env nat_Small.cals T Try.f24) (Func.pts Try.f24) k 6 (nat_Small.m6 x0 x4 x12 x13)
theorem nat_Small.L6_succ (k : Nat) (x0 : (List Int)) (x4 : Int) (x12 : Int) (x13 : Int) : nat_Small.L6 (k + 1) x0 x4 x12 x13 = nat_Small.b6 (nat_Small.L6 k) x0 x4 x12 x13 := by kernel_rfl
theorem nat_Small.L6_zero (x0 : (List Int)) (x4 : Int) (x12 : Int) (x13 : Int) : nat_Small.L6 0 x0 x4 x12 x13 = none := by kernel_rfl
theorem nat_Small.eval (k : Nat) (a0 : (List Int)) : evalF nat_Small.spec nat_Small.cals T Try.f24 k (a0, ()) = nat_Small.e (nat_Small.L6 k) a0 := by kernel_rfl
theorem nat_Small.F_eq (a0 : (List Int)) : nat_Small.F (a0, ()) = limF nat_Small.spec nat_Small.cals T Try.f24 (a0, ()) := by kernel_rfl
theorem nat_Small.of (k : Nat) (a0 : (List Int)) {y : Int × Bool × Unit} (h : nat_Small.e (nat_Small.L6 k) a0 = some y) : nat_Small.F (a0, ()) = some y := (nat_Small.F_eq a0).trans (limF_of (q := nat_Small.spec) (C := nat_Small.cals) (T := T) (f := Try.f24) (x := (a0, ())) (y := y) k ((nat_Small.eval k a0).trans h))

/-! ### fulcrum/fulcrumref01.Small -/
def fulcrumref01_Small.spec : Spec := ⟨[(false, (.sl 27 (.int .u32)))], [(false, (.int .u64)), (false, .bool)], .own, fun j => match j with | 6 => [(0, .lf (.o 27 (.int .u32) true)), (4, .lf (.v true)), (5, .lf (.v true))] | _ => []⟩
noncomputable def fulcrumref01_Small.cals : Cals := (Cals.cons 22 fulcrumref01_Norm.sig Cals.nil)
noncomputable def fulcrumref01_Small.sig : Sig := fulcrumref01_Small.spec.sig fulcrumref01_Small.cals T Try.f25
noncomputable def fulcrumref01_Small.F (x : (List Int) × Unit) : Option (Int × Bool × Unit) := limF fulcrumref01_Small.spec fulcrumref01_Small.cals T Try.f25 x
theorem fulcrumref01_Small.ck : CalsOk Try.prog fulcrumref01_Small.cals := (CalsOk.cons fulcrumref01_Norm.cal CalsOk.nil)
theorem fulcrumref01_Small.cal : CalOk Try.prog 25 fulcrumref01_Small.sig := calOk_lim' tabOk fulcrumref01_Small.ck mix Try.func25 (by kernel_rfl) (by kernel_rfl) (by kernel_rfl) (by kernel_rfl)
def fulcrumref01_Small.m6 (x0 : (List Int)) (x4 : Int) (x5 : Int) : S := ⟨[(0, .one (.lf (.own 0))), (4, .one (.lf (.val true (.int .u64) x4))), (5, .one (.lf (.val true (.int .i64) x5)))], ⟨[some ⟨27, (.int .u32), true, true, x0⟩], []⟩⟩
noncomputable def fulcrumref01_Small.b6 (f6 : (List Int) → Int → Int → Option (Int × Bool × Unit)) (x0 : (List Int)) (x4 : Int) (x5 : Int) : Option (Int × Bool × Unit) :=
  let v1 := decide (x5 ≥ (0 : Int))
  bif v1 then (bif decide ((32 : Int) < 0) then none
  else (let v2 := shlI .u64 x4 (32 : Int)
  bif decide (0 ≤ x5) && decide (x5 < (List.length x0 : Int)) then (let v3 := List.getD x0 (Int.toNat x5) (0 : Int)
  let v4 := IntKind.u64.wrap v3
  let v5 := bitsOp .or .u64 v2 v4
  let v6 := IntKind.i64.wrap (x5 - (1 : Int))
  f6 x0 v5 v6)
  else none))
  else (some (x4, true, ()))
noncomputable def fulcrumref01_Small.e (f6 : (List Int) → Int → Int → Option (Int × Bool × Unit)) (a0 : (List Int)) : Option (Int × Bool × Unit) :=
  (fulcrumref01_Norm.F (a0, ())).bind fun y1 =>
  let v2 := (List.length y1.1 : Int)
  let v3 := decide (v2 > (2 : Int))
  bif v3 then (some ((0 : Int), false, ()))
  else (let v4 := (List.length y1.1 : Int)
  let v5 := IntKind.i64.wrap (v4 - (1 : Int))
  f6 y1.1 (0 : Int) v5)
noncomputable def fulcrumref01_Small.L6 (k : Nat) (x0 : (List Int)) (x4 : Int) (x5 : Int) : Option (Int × Bool × Unit) := heads (fulcrumref01_Small.spec.env fulcrumref01_Small.cals T Try.f25) (Func.pts Try.f25) k 6 (fulcrumref01_Small.m6 x0 x4 x5)
theorem fulcrumref01_Small.L6_succ (k : Nat) (x0 : (List Int)) (x4 : Int) (x5 : Int) : fulcrumref01_Small.L6 (k + 1) x0 x4 x5 = fulcrumref01_Small.b6 (fulcrumref01_Small.L6 k) x0 x4 x5 := by kernel_rfl
theorem fulcrumref01_Small.L6_zero (x0 : (List Int)) (x4 : Int) (x5 : Int) : fulcrumref01_Small.L6 0 x0 x4 x5 = none := by kernel_rfl
theorem fulcrumref01_Small.eval (k : Nat) (a0 : (List Int)) : evalF fulcrumref01_Small.spec fulcrumref01_Small.cals T Try.f25 k (a0, ()) = fulcrumref01_Small.e (fulcrumref01_Small.L6 k) a0 := by kernel_rfl
theorem fulcrumref01_Small.F_eq (a0 : (List Int)) : fulcrumref01_Small.F (a0, ()) = limF fulcrumref01_Small.spec fulcrumref01_Small.cals T Try.f25 (a0, ()) := by kernel_rfl
theorem fulcrumref01_Small.of (k : Nat) (a0 : (List Int)) {y : Int × Bool × Unit} (h : fulcrumref01_Small.e (fulcrumref01_Small.L6 k) a0 = some y) : fulcrumref01_Small.F (a0, ()) = some y := (fulcrumref01_Small.F_eq a0).trans (limF_of (q := fulcrumref01_Small.spec) (C := fulcrumref01_Small.cals) (T := T) (f := Try.f25) (x := (a0, ())) (y := y) k ((fulcrumref01_Small.eval k a0).trans h))

/-! ### fulcrum/fulcrumlaw01.NatNorms -/
def fulcrumlaw01_NatNorms.spec : Spec := ⟨[(false, (.sl 27 (.int .u32))), (false, (.int .u64))], [(false, .bool)], .own, fun j => match j with  | _ => []⟩
noncomputable def fulcrumlaw01_NatNorms.cals : Cals := (Cals.cons 21 fulcrumlaw01_twin.sig (Cals.cons 20 nat_Norm.sig (Cals.cons 22 fulcrumref01_Norm.sig (Cals.cons 18 fulcrumlaw01_same.sig (Cals.cons 19 nat_Of.sig (Cals.cons 23 fulcrumref01_Of.sig (Cals.cons 24 nat_Small.sig (Cals.cons 25 fulcrumref01_Small.sig Cals.nil))))))))
noncomputable def fulcrumlaw01_NatNorms.sig : Sig := fulcrumlaw01_NatNorms.spec.sig fulcrumlaw01_NatNorms.cals T Try.f4
noncomputable def fulcrumlaw01_NatNorms.F (x : (List Int) × Int × Unit) : Option (Bool × Unit) := limF fulcrumlaw01_NatNorms.spec fulcrumlaw01_NatNorms.cals T Try.f4 x
theorem fulcrumlaw01_NatNorms.ck : CalsOk Try.prog fulcrumlaw01_NatNorms.cals := (CalsOk.cons fulcrumlaw01_twin.cal (CalsOk.cons nat_Norm.cal (CalsOk.cons fulcrumref01_Norm.cal (CalsOk.cons fulcrumlaw01_same.cal (CalsOk.cons nat_Of.cal (CalsOk.cons fulcrumref01_Of.cal (CalsOk.cons nat_Small.cal (CalsOk.cons fulcrumref01_Small.cal CalsOk.nil))))))))
theorem fulcrumlaw01_NatNorms.cal : CalOk Try.prog 4 fulcrumlaw01_NatNorms.sig := calOk_lim' tabOk fulcrumlaw01_NatNorms.ck mix Try.func4 (by kernel_rfl) (by kernel_rfl) (by kernel_rfl) (by kernel_rfl)
noncomputable def fulcrumlaw01_NatNorms.e  (a0 : (List Int)) (a1 : Int) : Option (Bool × Unit) :=
  (fulcrumlaw01_twin.F (a0, ())).bind fun y1 =>
  (nat_Norm.F (y1.1, ())).bind fun y2 =>
  (fulcrumref01_Norm.F (a0, ())).bind fun y3 =>
  (fulcrumlaw01_same.F (y2.1, y3.1, ())).bind fun y4 =>
  let v5 := not y4.1
  bif v5 then (some (false, ()))
  else ((nat_Of.F (a1, ())).bind fun y6 =>
  (fulcrumref01_Of.F (a1, ())).bind fun y7 =>
  (fulcrumlaw01_same.F (y6.1, y7.1, ())).bind fun y8 =>
  let v9 := not y8.1
  bif v9 then (some (false, ()))
  else ((fulcrumlaw01_twin.F (a0, ())).bind fun y10 =>
  (nat_Small.F (y10.1, ())).bind fun y11 =>
  (fulcrumref01_Small.F (a0, ())).bind fun y12 =>
  let v13 := (y11.1 != y12.1)
  bif v13 then (some (false, ()))
  else (let v14 := (!(y11.2.1 == y12.2.1))
  bif v14 then (some (false, ()))
  else ((nat_Of.F (a1, ())).bind fun y15 =>
  (nat_Small.F (y15.1, ())).bind fun y16 =>
  bif y16.2.1 then (let v17 := (y16.1 == a1)
  some (v17, ()))
  else (some (false, ()))))))
theorem fulcrumlaw01_NatNorms.eval (k : Nat) (a0 : (List Int)) (a1 : Int) : evalF fulcrumlaw01_NatNorms.spec fulcrumlaw01_NatNorms.cals T Try.f4 k (a0, a1, ()) = fulcrumlaw01_NatNorms.e  a0 a1 := by kernel_rfl
theorem fulcrumlaw01_NatNorms.F_eq (a0 : (List Int)) (a1 : Int) : fulcrumlaw01_NatNorms.F (a0, a1, ()) = limF fulcrumlaw01_NatNorms.spec fulcrumlaw01_NatNorms.cals T Try.f4 (a0, a1, ()) := by kernel_rfl
theorem fulcrumlaw01_NatNorms.of (k : Nat) (a0 : (List Int)) (a1 : Int) {y : Bool × Unit} (h : fulcrumlaw01_NatNorms.e  a0 a1 = some y) : fulcrumlaw01_NatNorms.F (a0, a1, ()) = some y := (fulcrumlaw01_NatNorms.F_eq a0 a1).trans (limF_of (q := fulcrumlaw01_NatNorms.spec) (C := fulcrumlaw01_NatNorms.cals) (T := T) (f := Try.f4) (x := (a0, a1, ())) (y := y) k ((fulcrumlaw01_NatNorms.eval k a0 a1).trans h))

/-! ### math/bits.Len32 -/
def bits_Len32.spec : Spec := ⟨[(false, (.int .u32))], [(false, (.int .i64))], .own, fun j => match j with  | _ => []⟩
noncomputable def bits_Len32.cals : Cals := Cals.nil
noncomputable def bits_Len32.sig : Sig := bits_Len32.spec.sig bits_Len32.cals T Try.f60
noncomputable def bits_Len32.F (x : Int × Unit) : Option (Int × Unit) := limF bits_Len32.spec bits_Len32.cals T Try.f60 x
theorem bits_Len32.ck : CalsOk Try.prog bits_Len32.cals := CalsOk.nil
theorem bits_Len32.cal : CalOk Try.prog 60 bits_Len32.sig := calOk_lim' tabOk bits_Len32.ck mix Try.func60 (by kernel_rfl) (by kernel_rfl) (by kernel_rfl) (by kernel_rfl)
noncomputable def bits_Len32.e  (a0 : Int) : Option (Int × Unit) :=
  let v1 := decide (a0 ≥ (65536 : Int))
  bif v1 then (bif decide ((16 : Int) < 0) then none
  else (let v2 := shrI .u32 a0 (16 : Int)
  let v3 := decide (v2 ≥ (256 : Int))
  bif v3 then (bif decide ((8 : Int) < 0) then none
  else (let v4 := shrI .u32 v2 (8 : Int)
  let v5 := IntKind.i64.wrap ((16 : Int) + (8 : Int))
  let v6 := IntKind.u8.wrap v4
  bif decide (0 ≤ v6) && decide (v6 < (ByteArray.size (⟨#[0, 1, 2, 2, 3, 3, 3, 3, 4, 4, 4, 4, 4, 4, 4, 4, 5, 5, 5, 5, 5, 5, 5, 5, 5, 5, 5, 5, 5, 5, 5, 5, 6, 6, 6, 6, 6, 6, 6, 6, 6, 6, 6, 6, 6, 6, 6, 6, 6, 6, 6, 6, 6, 6, 6, 6, 6, 6, 6, 6, 6, 6, 6, 6, 7, 7, 7, 7, 7, 7, 7, 7, 7, 7, 7, 7, 7, 7, 7, 7, 7, 7, 7, 7, 7, 7, 7, 7, 7, 7, 7, 7, 7, 7, 7, 7, 7, 7, 7, 7, 7, 7, 7, 7, 7, 7, 7, 7, 7, 7, 7, 7, 7, 7, 7, 7, 7, 7, 7, 7, 7, 7, 7, 7, 7, 7, 7, 7, 8, 8, 8, 8, 8, 8, 8, 8, 8, 8, 8, 8, 8, 8, 8, 8, 8, 8, 8, 8, 8, 8, 8, 8, 8, 8, 8, 8, 8, 8, 8, 8, 8, 8, 8, 8, 8, 8, 8, 8, 8, 8, 8, 8, 8, 8, 8, 8, 8, 8, 8, 8, 8, 8, 8, 8, 8, 8, 8, 8, 8, 8, 8, 8, 8, 8, 8, 8, 8, 8, 8, 8, 8, 8, 8, 8, 8, 8, 8, 8, 8, 8, 8, 8, 8, 8, 8, 8, 8, 8, 8, 8, 8, 8, 8, 8, 8, 8, 8, 8, 8, 8, 8, 8, 8, 8, 8, 8, 8, 8, 8, 8, 8, 8, 8, 8, 8, 8, 8, 8, 8, 8, 8, 8, 8, 8, 8, 8]⟩ : ByteArray) : Int)) then (let v7 := btI (⟨#[0, 1, 2, 2, 3, 3, 3, 3, 4, 4, 4, 4, 4, 4, 4, 4, 5, 5, 5, 5, 5, 5, 5, 5, 5, 5, 5, 5, 5, 5, 5, 5, 6, 6, 6, 6, 6, 6, 6, 6, 6, 6, 6, 6, 6, 6, 6, 6, 6, 6, 6, 6, 6, 6, 6, 6, 6, 6, 6, 6, 6, 6, 6, 6, 7, 7, 7, 7, 7, 7, 7, 7, 7, 7, 7, 7, 7, 7, 7, 7, 7, 7, 7, 7, 7, 7, 7, 7, 7, 7, 7, 7, 7, 7, 7, 7, 7, 7, 7, 7, 7, 7, 7, 7, 7, 7, 7, 7, 7, 7, 7, 7, 7, 7, 7, 7, 7, 7, 7, 7, 7, 7, 7, 7, 7, 7, 7, 7, 8, 8, 8, 8, 8, 8, 8, 8, 8, 8, 8, 8, 8, 8, 8, 8, 8, 8, 8, 8, 8, 8, 8, 8, 8, 8, 8, 8, 8, 8, 8, 8, 8, 8, 8, 8, 8, 8, 8, 8, 8, 8, 8, 8, 8, 8, 8, 8, 8, 8, 8, 8, 8, 8, 8, 8, 8, 8, 8, 8, 8, 8, 8, 8, 8, 8, 8, 8, 8, 8, 8, 8, 8, 8, 8, 8, 8, 8, 8, 8, 8, 8, 8, 8, 8, 8, 8, 8, 8, 8, 8, 8, 8, 8, 8, 8, 8, 8, 8, 8, 8, 8, 8, 8, 8, 8, 8, 8, 8, 8, 8, 8, 8, 8, 8, 8, 8, 8, 8, 8, 8, 8, 8, 8, 8, 8, 8, 8]⟩ : ByteArray) v6
  let v8 := IntKind.i64.wrap v7
  let v9 := IntKind.i64.wrap (v5 + v8)
  some (v9, ()))
  else none))
  else (let v10 := IntKind.u8.wrap v2
  bif decide (0 ≤ v10) && decide (v10 < (ByteArray.size (⟨#[0, 1, 2, 2, 3, 3, 3, 3, 4, 4, 4, 4, 4, 4, 4, 4, 5, 5, 5, 5, 5, 5, 5, 5, 5, 5, 5, 5, 5, 5, 5, 5, 6, 6, 6, 6, 6, 6, 6, 6, 6, 6, 6, 6, 6, 6, 6, 6, 6, 6, 6, 6, 6, 6, 6, 6, 6, 6, 6, 6, 6, 6, 6, 6, 7, 7, 7, 7, 7, 7, 7, 7, 7, 7, 7, 7, 7, 7, 7, 7, 7, 7, 7, 7, 7, 7, 7, 7, 7, 7, 7, 7, 7, 7, 7, 7, 7, 7, 7, 7, 7, 7, 7, 7, 7, 7, 7, 7, 7, 7, 7, 7, 7, 7, 7, 7, 7, 7, 7, 7, 7, 7, 7, 7, 7, 7, 7, 7, 8, 8, 8, 8, 8, 8, 8, 8, 8, 8, 8, 8, 8, 8, 8, 8, 8, 8, 8, 8, 8, 8, 8, 8, 8, 8, 8, 8, 8, 8, 8, 8, 8, 8, 8, 8, 8, 8, 8, 8, 8, 8, 8, 8, 8, 8, 8, 8, 8, 8, 8, 8, 8, 8, 8, 8, 8, 8, 8, 8, 8, 8, 8, 8, 8, 8, 8, 8, 8, 8, 8, 8, 8, 8, 8, 8, 8, 8, 8, 8, 8, 8, 8, 8, 8, 8, 8, 8, 8, 8, 8, 8, 8, 8, 8, 8, 8, 8, 8, 8, 8, 8, 8, 8, 8, 8, 8, 8, 8, 8, 8, 8, 8, 8, 8, 8, 8, 8, 8, 8, 8, 8, 8, 8, 8, 8, 8, 8]⟩ : ByteArray) : Int)) then (let v11 := btI (⟨#[0, 1, 2, 2, 3, 3, 3, 3, 4, 4, 4, 4, 4, 4, 4, 4, 5, 5, 5, 5, 5, 5, 5, 5, 5, 5, 5, 5, 5, 5, 5, 5, 6, 6, 6, 6, 6, 6, 6, 6, 6, 6, 6, 6, 6, 6, 6, 6, 6, 6, 6, 6, 6, 6, 6, 6, 6, 6, 6, 6, 6, 6, 6, 6, 7, 7, 7, 7, 7, 7, 7, 7, 7, 7, 7, 7, 7, 7, 7, 7, 7, 7, 7, 7, 7, 7, 7, 7, 7, 7, 7, 7, 7, 7, 7, 7, 7, 7, 7, 7, 7, 7, 7, 7, 7, 7, 7, 7, 7, 7, 7, 7, 7, 7, 7, 7, 7, 7, 7, 7, 7, 7, 7, 7, 7, 7, 7, 7, 8, 8, 8, 8, 8, 8, 8, 8, 8, 8, 8, 8, 8, 8, 8, 8, 8, 8, 8, 8, 8, 8, 8, 8, 8, 8, 8, 8, 8, 8, 8, 8, 8, 8, 8, 8, 8, 8, 8, 8, 8, 8, 8, 8, 8, 8, 8, 8, 8, 8, 8, 8, 8, 8, 8, 8, 8, 8, 8, 8, 8, 8, 8, 8, 8, 8, 8, 8, 8, 8, 8, 8, 8, 8, 8, 8, 8, 8, 8, 8, 8, 8, 8, 8, 8, 8, 8, 8, 8, 8, 8, 8, 8, 8, 8, 8, 8, 8, 8, 8, 8, 8, 8, 8, 8, 8, 8, 8, 8, 8, 8, 8, 8, 8, 8, 8, 8, 8, 8, 8, 8, 8, 8, 8, 8, 8, 8, 8]⟩ : ByteArray) v10
  let v12 := IntKind.i64.wrap v11
  let v13 := IntKind.i64.wrap ((16 : Int) + v12)
  some (v13, ()))
  else none)))
  else (let v14 := decide (a0 ≥ (256 : Int))
  bif v14 then (bif decide ((8 : Int) < 0) then none
  else (let v15 := shrI .u32 a0 (8 : Int)
  let v16 := IntKind.i64.wrap ((0 : Int) + (8 : Int))
  let v17 := IntKind.u8.wrap v15
  bif decide (0 ≤ v17) && decide (v17 < (ByteArray.size (⟨#[0, 1, 2, 2, 3, 3, 3, 3, 4, 4, 4, 4, 4, 4, 4, 4, 5, 5, 5, 5, 5, 5, 5, 5, 5, 5, 5, 5, 5, 5, 5, 5, 6, 6, 6, 6, 6, 6, 6, 6, 6, 6, 6, 6, 6, 6, 6, 6, 6, 6, 6, 6, 6, 6, 6, 6, 6, 6, 6, 6, 6, 6, 6, 6, 7, 7, 7, 7, 7, 7, 7, 7, 7, 7, 7, 7, 7, 7, 7, 7, 7, 7, 7, 7, 7, 7, 7, 7, 7, 7, 7, 7, 7, 7, 7, 7, 7, 7, 7, 7, 7, 7, 7, 7, 7, 7, 7, 7, 7, 7, 7, 7, 7, 7, 7, 7, 7, 7, 7, 7, 7, 7, 7, 7, 7, 7, 7, 7, 8, 8, 8, 8, 8, 8, 8, 8, 8, 8, 8, 8, 8, 8, 8, 8, 8, 8, 8, 8, 8, 8, 8, 8, 8, 8, 8, 8, 8, 8, 8, 8, 8, 8, 8, 8, 8, 8, 8, 8, 8, 8, 8, 8, 8, 8, 8, 8, 8, 8, 8, 8, 8, 8, 8, 8, 8, 8, 8, 8, 8, 8, 8, 8, 8, 8, 8, 8, 8, 8, 8, 8, 8, 8, 8, 8, 8, 8, 8, 8, 8, 8, 8, 8, 8, 8, 8, 8, 8, 8, 8, 8, 8, 8, 8, 8, 8, 8, 8, 8, 8, 8, 8, 8, 8, 8, 8, 8, 8, 8, 8, 8, 8, 8, 8, 8, 8, 8, 8, 8, 8, 8, 8, 8, 8, 8, 8, 8]⟩ : ByteArray) : Int)) then (let v18 := btI (⟨#[0, 1, 2, 2, 3, 3, 3, 3, 4, 4, 4, 4, 4, 4, 4, 4, 5, 5, 5, 5, 5, 5, 5, 5, 5, 5, 5, 5, 5, 5, 5, 5, 6, 6, 6, 6, 6, 6, 6, 6, 6, 6, 6, 6, 6, 6, 6, 6, 6, 6, 6, 6, 6, 6, 6, 6, 6, 6, 6, 6, 6, 6, 6, 6, 7, 7, 7, 7, 7, 7, 7, 7, 7, 7, 7, 7, 7, 7, 7, 7, 7, 7, 7, 7, 7, 7, 7, 7, 7, 7, 7, 7, 7, 7, 7, 7, 7, 7, 7, 7, 7, 7, 7, 7, 7, 7, 7, 7, 7, 7, 7, 7, 7, 7, 7, 7, 7, 7, 7, 7, 7, 7, 7, 7, 7, 7, 7, 7, 8, 8, 8, 8, 8, 8, 8, 8, 8, 8, 8, 8, 8, 8, 8, 8, 8, 8, 8, 8, 8, 8, 8, 8, 8, 8, 8, 8, 8, 8, 8, 8, 8, 8, 8, 8, 8, 8, 8, 8, 8, 8, 8, 8, 8, 8, 8, 8, 8, 8, 8, 8, 8, 8, 8, 8, 8, 8, 8, 8, 8, 8, 8, 8, 8, 8, 8, 8, 8, 8, 8, 8, 8, 8, 8, 8, 8, 8, 8, 8, 8, 8, 8, 8, 8, 8, 8, 8, 8, 8, 8, 8, 8, 8, 8, 8, 8, 8, 8, 8, 8, 8, 8, 8, 8, 8, 8, 8, 8, 8, 8, 8, 8, 8, 8, 8, 8, 8, 8, 8, 8, 8, 8, 8, 8, 8, 8, 8]⟩ : ByteArray) v17
  let v19 := IntKind.i64.wrap v18
  let v20 := IntKind.i64.wrap (v16 + v19)
  some (v20, ()))
  else none))
  else (let v21 := IntKind.u8.wrap a0
  bif decide (0 ≤ v21) && decide (v21 < (ByteArray.size (⟨#[0, 1, 2, 2, 3, 3, 3, 3, 4, 4, 4, 4, 4, 4, 4, 4, 5, 5, 5, 5, 5, 5, 5, 5, 5, 5, 5, 5, 5, 5, 5, 5, 6, 6, 6, 6, 6, 6, 6, 6, 6, 6, 6, 6, 6, 6, 6, 6, 6, 6, 6, 6, 6, 6, 6, 6, 6, 6, 6, 6, 6, 6, 6, 6, 7, 7, 7, 7, 7, 7, 7, 7, 7, 7, 7, 7, 7, 7, 7, 7, 7, 7, 7, 7, 7, 7, 7, 7, 7, 7, 7, 7, 7, 7, 7, 7, 7, 7, 7, 7, 7, 7, 7, 7, 7, 7, 7, 7, 7, 7, 7, 7, 7, 7, 7, 7, 7, 7, 7, 7, 7, 7, 7, 7, 7, 7, 7, 7, 8, 8, 8, 8, 8, 8, 8, 8, 8, 8, 8, 8, 8, 8, 8, 8, 8, 8, 8, 8, 8, 8, 8, 8, 8, 8, 8, 8, 8, 8, 8, 8, 8, 8, 8, 8, 8, 8, 8, 8, 8, 8, 8, 8, 8, 8, 8, 8, 8, 8, 8, 8, 8, 8, 8, 8, 8, 8, 8, 8, 8, 8, 8, 8, 8, 8, 8, 8, 8, 8, 8, 8, 8, 8, 8, 8, 8, 8, 8, 8, 8, 8, 8, 8, 8, 8, 8, 8, 8, 8, 8, 8, 8, 8, 8, 8, 8, 8, 8, 8, 8, 8, 8, 8, 8, 8, 8, 8, 8, 8, 8, 8, 8, 8, 8, 8, 8, 8, 8, 8, 8, 8, 8, 8, 8, 8, 8, 8]⟩ : ByteArray) : Int)) then (let v22 := btI (⟨#[0, 1, 2, 2, 3, 3, 3, 3, 4, 4, 4, 4, 4, 4, 4, 4, 5, 5, 5, 5, 5, 5, 5, 5, 5, 5, 5, 5, 5, 5, 5, 5, 6, 6, 6, 6, 6, 6, 6, 6, 6, 6, 6, 6, 6, 6, 6, 6, 6, 6, 6, 6, 6, 6, 6, 6, 6, 6, 6, 6, 6, 6, 6, 6, 7, 7, 7, 7, 7, 7, 7, 7, 7, 7, 7, 7, 7, 7, 7, 7, 7, 7, 7, 7, 7, 7, 7, 7, 7, 7, 7, 7, 7, 7, 7, 7, 7, 7, 7, 7, 7, 7, 7, 7, 7, 7, 7, 7, 7, 7, 7, 7, 7, 7, 7, 7, 7, 7, 7, 7, 7, 7, 7, 7, 7, 7, 7, 7, 8, 8, 8, 8, 8, 8, 8, 8, 8, 8, 8, 8, 8, 8, 8, 8, 8, 8, 8, 8, 8, 8, 8, 8, 8, 8, 8, 8, 8, 8, 8, 8, 8, 8, 8, 8, 8, 8, 8, 8, 8, 8, 8, 8, 8, 8, 8, 8, 8, 8, 8, 8, 8, 8, 8, 8, 8, 8, 8, 8, 8, 8, 8, 8, 8, 8, 8, 8, 8, 8, 8, 8, 8, 8, 8, 8, 8, 8, 8, 8, 8, 8, 8, 8, 8, 8, 8, 8, 8, 8, 8, 8, 8, 8, 8, 8, 8, 8, 8, 8, 8, 8, 8, 8, 8, 8, 8, 8, 8, 8, 8, 8, 8, 8, 8, 8, 8, 8, 8, 8, 8, 8, 8, 8, 8, 8, 8, 8]⟩ : ByteArray) v21
  let v23 := IntKind.i64.wrap v22
  let v24 := IntKind.i64.wrap ((0 : Int) + v23)
  some (v24, ()))
  else none))
theorem bits_Len32.eval (k : Nat) (a0 : Int) : evalF bits_Len32.spec bits_Len32.cals T Try.f60 k (a0, ()) = bits_Len32.e  a0 := by kernel_rfl
theorem bits_Len32.F_eq (a0 : Int) : bits_Len32.F (a0, ()) = limF bits_Len32.spec bits_Len32.cals T Try.f60 (a0, ()) := by kernel_rfl
theorem bits_Len32.of (k : Nat) (a0 : Int) {y : Int × Unit} (h : bits_Len32.e  a0 = some y) : bits_Len32.F (a0, ()) = some y := (bits_Len32.F_eq a0).trans (limF_of (q := bits_Len32.spec) (C := bits_Len32.cals) (T := T) (f := Try.f60) (x := (a0, ())) (y := y) k ((bits_Len32.eval k a0).trans h))

/-! ### fulcrum/nat.Bits -/
def nat_Bits.spec : Spec := ⟨[(false, (.sl 27 (.int .u32)))], [(false, (.int .i64))], .own, fun j => match j with  | _ => []⟩
noncomputable def nat_Bits.cals : Cals := (Cals.cons 59 nat_trim.sig (Cals.cons 60 bits_Len32.sig Cals.nil))
noncomputable def nat_Bits.sig : Sig := nat_Bits.spec.sig nat_Bits.cals T Try.f26
noncomputable def nat_Bits.F (x : (List Int) × Unit) : Option (Int × Unit) := limF nat_Bits.spec nat_Bits.cals T Try.f26 x
theorem nat_Bits.ck : CalsOk Try.prog nat_Bits.cals := (CalsOk.cons nat_trim.cal (CalsOk.cons bits_Len32.cal CalsOk.nil))
theorem nat_Bits.cal : CalOk Try.prog 26 nat_Bits.sig := calOk_lim' tabOk nat_Bits.ck mix Try.func26 (by kernel_rfl) (by kernel_rfl) (by kernel_rfl) (by kernel_rfl)
noncomputable def nat_Bits.e  (a0 : (List Int)) : Option (Int × Unit) :=
  (nat_trim.F (a0, ())).bind fun y1 =>
  let v2 := (List.length y1.1 : Int)
  let v3 := (v2 == (0 : Int))
  bif v3 then (some ((0 : Int), ()))
  else (let v4 := (List.length y1.1 : Int)
  let v5 := IntKind.i64.wrap (v4 - (1 : Int))
  let v6 := IntKind.i64.wrap ((32 : Int) * v5)
  let v7 := (List.length y1.1 : Int)
  let v8 := IntKind.i64.wrap (v7 - (1 : Int))
  bif decide (0 ≤ v8) && decide (v8 < (List.length y1.1 : Int)) then (let v9 := List.getD y1.1 (Int.toNat v8) (0 : Int)
  (bits_Len32.F (v9, ())).bind fun y10 =>
  let v11 := IntKind.i64.wrap (v6 + y10.1)
  some (v11, ()))
  else none)
theorem nat_Bits.eval (k : Nat) (a0 : (List Int)) : evalF nat_Bits.spec nat_Bits.cals T Try.f26 k (a0, ()) = nat_Bits.e  a0 := by kernel_rfl
theorem nat_Bits.F_eq (a0 : (List Int)) : nat_Bits.F (a0, ()) = limF nat_Bits.spec nat_Bits.cals T Try.f26 (a0, ()) := by kernel_rfl
theorem nat_Bits.of (k : Nat) (a0 : (List Int)) {y : Int × Unit} (h : nat_Bits.e  a0 = some y) : nat_Bits.F (a0, ()) = some y := (nat_Bits.F_eq a0).trans (limF_of (q := nat_Bits.spec) (C := nat_Bits.cals) (T := T) (f := Try.f26) (x := (a0, ())) (y := y) k ((nat_Bits.eval k a0).trans h))

/-! ### fulcrum/fulcrumref01.Bit -/
def fulcrumref01_Bit.spec : Spec := ⟨[(false, (.sl 27 (.int .u32))), (false, (.int .i64))], [(false, .bool)], .own, fun j => match j with  | _ => []⟩
noncomputable def fulcrumref01_Bit.cals : Cals := Cals.nil
noncomputable def fulcrumref01_Bit.sig : Sig := fulcrumref01_Bit.spec.sig fulcrumref01_Bit.cals T Try.f29
noncomputable def fulcrumref01_Bit.F (x : (List Int) × Int × Unit) : Option (Bool × Unit) := limF fulcrumref01_Bit.spec fulcrumref01_Bit.cals T Try.f29 x
theorem fulcrumref01_Bit.ck : CalsOk Try.prog fulcrumref01_Bit.cals := CalsOk.nil
theorem fulcrumref01_Bit.cal : CalOk Try.prog 29 fulcrumref01_Bit.sig := calOk_lim' tabOk fulcrumref01_Bit.ck mix Try.func29 (by kernel_rfl) (by kernel_rfl) (by kernel_rfl) (by kernel_rfl)
noncomputable def fulcrumref01_Bit.e  (a0 : (List Int)) (a1 : Int) : Option (Bool × Unit) :=
  let v1 := decide (a1 ≥ (0 : Int))
  bif v1 then (bif decide ((32 : Int) = 0) then none
  else (let v2 := IntKind.i64.wrap (Int.tdiv a1 (32 : Int))
  let v3 := (List.length a0 : Int)
  let v4 := decide (v2 < v3)
  bif v4 then (bif decide ((32 : Int) = 0) then none
  else (let v5 := IntKind.i64.wrap (Int.tdiv a1 (32 : Int))
  bif decide (0 ≤ v5) && decide (v5 < (List.length a0 : Int)) then (let v6 := List.getD a0 (Int.toNat v5) (0 : Int)
  bif decide ((32 : Int) = 0) then none
  else (let v7 := Int.tmod a1 (32 : Int)
  let v8 := IntKind.u64.wrap v7
  bif decide (v8 < 0) then none
  else (let v9 := shrI .u32 v6 v8
  let v10 := bitsOp .and .u32 v9 (1 : Int)
  let v11 := (v10 == (1 : Int))
  some (v11, ()))))
  else none))
  else (some (false, ()))))
  else (some (false, ()))
theorem fulcrumref01_Bit.eval (k : Nat) (a0 : (List Int)) (a1 : Int) : evalF fulcrumref01_Bit.spec fulcrumref01_Bit.cals T Try.f29 k (a0, a1, ()) = fulcrumref01_Bit.e  a0 a1 := by kernel_rfl
theorem fulcrumref01_Bit.F_eq (a0 : (List Int)) (a1 : Int) : fulcrumref01_Bit.F (a0, a1, ()) = limF fulcrumref01_Bit.spec fulcrumref01_Bit.cals T Try.f29 (a0, a1, ()) := by kernel_rfl
theorem fulcrumref01_Bit.of (k : Nat) (a0 : (List Int)) (a1 : Int) {y : Bool × Unit} (h : fulcrumref01_Bit.e  a0 a1 = some y) : fulcrumref01_Bit.F (a0, a1, ()) = some y := (fulcrumref01_Bit.F_eq a0 a1).trans (limF_of (q := fulcrumref01_Bit.spec) (C := fulcrumref01_Bit.cals) (T := T) (f := Try.f29) (x := (a0, a1, ())) (y := y) k ((fulcrumref01_Bit.eval k a0 a1).trans h))

/-! ### fulcrum/fulcrumref01.Bits -/
def fulcrumref01_Bits.spec : Spec := ⟨[(false, (.sl 27 (.int .u32)))], [(false, (.int .i64))], .own, fun j => match j with | 2 => [(0, .lf (.z 27 (.int .u32) false)), (3, .lf (.v true))] | _ => []⟩
noncomputable def fulcrumref01_Bits.cals : Cals := (Cals.cons 29 fulcrumref01_Bit.sig Cals.nil)
noncomputable def fulcrumref01_Bits.sig : Sig := fulcrumref01_Bits.spec.sig fulcrumref01_Bits.cals T Try.f27
noncomputable def fulcrumref01_Bits.F (x : (List Int) × Unit) : Option (Int × Unit) := limF fulcrumref01_Bits.spec fulcrumref01_Bits.cals T Try.f27 x
theorem fulcrumref01_Bits.ck : CalsOk Try.prog fulcrumref01_Bits.cals := (CalsOk.cons fulcrumref01_Bit.cal CalsOk.nil)
theorem fulcrumref01_Bits.cal : CalOk Try.prog 27 fulcrumref01_Bits.sig := calOk_lim' tabOk fulcrumref01_Bits.ck mix Try.func27 (by kernel_rfl) (by kernel_rfl) (by kernel_rfl) (by kernel_rfl)
def fulcrumref01_Bits.m2 (x0 : (List Int)) (x3 : Int) : S := ⟨[(0, .one (.lf (.val false (.sl 27 (.int .u32)) x0))), (3, .one (.lf (.val true (.int .i64) x3)))], ⟨[], []⟩⟩
noncomputable def fulcrumref01_Bits.b2 (f2 : (List Int) → Int → Option (Int × Unit)) (x0 : (List Int)) (x3 : Int) : Option (Int × Unit) :=
  let v1 := decide (x3 ≥ (0 : Int))
  bif v1 then ((fulcrumref01_Bit.F (x0, x3, ())).bind fun y2 =>
  bif y2.1 then (let v3 := IntKind.i64.wrap (x3 + (1 : Int))
  some (v3, ()))
  else (let v4 := IntKind.i64.wrap (x3 - (1 : Int))
  f2 x0 v4))
  else (some ((0 : Int), ()))
noncomputable def fulcrumref01_Bits.e (f2 : (List Int) → Int → Option (Int × Unit)) (a0 : (List Int)) : Option (Int × Unit) :=
  let v1 := (List.length a0 : Int)
  let v2 := IntKind.i64.wrap ((32 : Int) * v1)
  let v3 := IntKind.i64.wrap (v2 - (1 : Int))
  f2 a0 v3
noncomputable def fulcrumref01_Bits.L2 (k : Nat) (x0 : (List Int)) (x3 : Int) : Option (Int × Unit) := heads (fulcrumref01_Bits.spec.env fulcrumref01_Bits.cals T Try.f27) (Func.pts Try.f27) k 2 (fulcrumref01_Bits.m2 x0 x3)
theorem fulcrumref01_Bits.L2_succ (k : Nat) (x0 : (List Int)) (x3 : Int) : fulcrumref01_Bits.L2 (k + 1) x0 x3 = fulcrumref01_Bits.b2 (fulcrumref01_Bits.L2 k) x0 x3 := by kernel_rfl
theorem fulcrumref01_Bits.L2_zero (x0 : (List Int)) (x3 : Int) : fulcrumref01_Bits.L2 0 x0 x3 = none := by kernel_rfl
theorem fulcrumref01_Bits.eval (k : Nat) (a0 : (List Int)) : evalF fulcrumref01_Bits.spec fulcrumref01_Bits.cals T Try.f27 k (a0, ()) = fulcrumref01_Bits.e (fulcrumref01_Bits.L2 k) a0 := by kernel_rfl
theorem fulcrumref01_Bits.F_eq (a0 : (List Int)) : fulcrumref01_Bits.F (a0, ()) = limF fulcrumref01_Bits.spec fulcrumref01_Bits.cals T Try.f27 (a0, ()) := by kernel_rfl
theorem fulcrumref01_Bits.of (k : Nat) (a0 : (List Int)) {y : Int × Unit} (h : fulcrumref01_Bits.e (fulcrumref01_Bits.L2 k) a0 = some y) : fulcrumref01_Bits.F (a0, ()) = some y := (fulcrumref01_Bits.F_eq a0).trans (limF_of (q := fulcrumref01_Bits.spec) (C := fulcrumref01_Bits.cals) (T := T) (f := Try.f27) (x := (a0, ())) (y := y) k ((fulcrumref01_Bits.eval k a0).trans h))

/-! ### fulcrum/nat.Bit -/
def nat_Bit.spec : Spec := ⟨[(false, (.sl 27 (.int .u32))), (false, (.int .i64))], [(false, .bool)], .own, fun j => match j with  | _ => []⟩
noncomputable def nat_Bit.cals : Cals := Cals.nil
noncomputable def nat_Bit.sig : Sig := nat_Bit.spec.sig nat_Bit.cals T Try.f28
noncomputable def nat_Bit.F (x : (List Int) × Int × Unit) : Option (Bool × Unit) := limF nat_Bit.spec nat_Bit.cals T Try.f28 x
theorem nat_Bit.ck : CalsOk Try.prog nat_Bit.cals := CalsOk.nil
theorem nat_Bit.cal : CalOk Try.prog 28 nat_Bit.sig := calOk_lim' tabOk nat_Bit.ck mix Try.func28 (by kernel_rfl) (by kernel_rfl) (by kernel_rfl) (by kernel_rfl)
noncomputable def nat_Bit.e  (a0 : (List Int)) (a1 : Int) : Option (Bool × Unit) :=
  let v1 := decide (a1 < (0 : Int))
  bif v1 then (some (false, ()))
  else (bif decide ((32 : Int) = 0) then none
  else (let v2 := IntKind.i64.wrap (Int.tdiv a1 (32 : Int))
  let v3 := (List.length a0 : Int)
  let v4 := decide (v2 ≥ v3)
  bif v4 then (some (false, ()))
  else (bif decide ((32 : Int) = 0) then none
  else (let v5 := IntKind.i64.wrap (Int.tdiv a1 (32 : Int))
  bif decide (0 ≤ v5) && decide (v5 < (List.length a0 : Int)) then (let v6 := List.getD a0 (Int.toNat v5) (0 : Int)
  bif decide ((32 : Int) = 0) then none
  else (let v7 := Int.tmod a1 (32 : Int)
  bif decide (v7 < 0) then none
  else (let v8 := shrI .u32 v6 v7
  let v9 := bitsOp .and .u32 v8 (1 : Int)
  let v10 := (v9 == (1 : Int))
  some (v10, ()))))
  else none))))
theorem nat_Bit.eval (k : Nat) (a0 : (List Int)) (a1 : Int) : evalF nat_Bit.spec nat_Bit.cals T Try.f28 k (a0, a1, ()) = nat_Bit.e  a0 a1 := by kernel_rfl
theorem nat_Bit.F_eq (a0 : (List Int)) (a1 : Int) : nat_Bit.F (a0, a1, ()) = limF nat_Bit.spec nat_Bit.cals T Try.f28 (a0, a1, ()) := by kernel_rfl
theorem nat_Bit.of (k : Nat) (a0 : (List Int)) (a1 : Int) {y : Bool × Unit} (h : nat_Bit.e  a0 a1 = some y) : nat_Bit.F (a0, a1, ()) = some y := (nat_Bit.F_eq a0 a1).trans (limF_of (q := nat_Bit.spec) (C := nat_Bit.cals) (T := T) (f := Try.f28) (x := (a0, a1, ())) (y := y) k ((nat_Bit.eval k a0 a1).trans h))

/-! ### fulcrum/fulcrumlaw01.NatBits -/
def fulcrumlaw01_NatBits.spec : Spec := ⟨[(false, (.sl 27 (.int .u32))), (false, (.int .i64))], [(false, .bool)], .own, fun j => match j with  | _ => []⟩
noncomputable def fulcrumlaw01_NatBits.cals : Cals := (Cals.cons 26 nat_Bits.sig (Cals.cons 21 fulcrumlaw01_twin.sig (Cals.cons 27 fulcrumref01_Bits.sig (Cals.cons 28 nat_Bit.sig (Cals.cons 29 fulcrumref01_Bit.sig Cals.nil)))))
noncomputable def fulcrumlaw01_NatBits.sig : Sig := fulcrumlaw01_NatBits.spec.sig fulcrumlaw01_NatBits.cals T Try.f5
noncomputable def fulcrumlaw01_NatBits.F (x : (List Int) × Int × Unit) : Option (Bool × Unit) := limF fulcrumlaw01_NatBits.spec fulcrumlaw01_NatBits.cals T Try.f5 x
theorem fulcrumlaw01_NatBits.ck : CalsOk Try.prog fulcrumlaw01_NatBits.cals := (CalsOk.cons nat_Bits.cal (CalsOk.cons fulcrumlaw01_twin.cal (CalsOk.cons fulcrumref01_Bits.cal (CalsOk.cons nat_Bit.cal (CalsOk.cons fulcrumref01_Bit.cal CalsOk.nil)))))
theorem fulcrumlaw01_NatBits.cal : CalOk Try.prog 5 fulcrumlaw01_NatBits.sig := calOk_lim' tabOk fulcrumlaw01_NatBits.ck mix Try.func5 (by kernel_rfl) (by kernel_rfl) (by kernel_rfl) (by kernel_rfl)
noncomputable def fulcrumlaw01_NatBits.e  (a0 : (List Int)) (a1 : Int) : Option (Bool × Unit) :=
  let v1 := ([(0 : Int), (1 : Int), (0 : Int)] : List Int)
  (nat_Bits.F (v1, ())).bind fun y2 =>
  let v3 := (y2.1 != (33 : Int))
  bif v3 then (some (false, ()))
  else ((fulcrumlaw01_twin.F (a0, ())).bind fun y4 =>
  (nat_Bits.F (y4.1, ())).bind fun y5 =>
  (fulcrumref01_Bits.F (a0, ())).bind fun y6 =>
  let v7 := (y5.1 == y6.1)
  bif v7 then ((fulcrumlaw01_twin.F (a0, ())).bind fun y8 =>
  (nat_Bit.F (y8.1, a1, ())).bind fun y9 =>
  (fulcrumref01_Bit.F (a0, a1, ())).bind fun y10 =>
  let v11 := (y9.1 == y10.1)
  some (v11, ()))
  else (some (false, ())))
theorem fulcrumlaw01_NatBits.eval (k : Nat) (a0 : (List Int)) (a1 : Int) : evalF fulcrumlaw01_NatBits.spec fulcrumlaw01_NatBits.cals T Try.f5 k (a0, a1, ()) = fulcrumlaw01_NatBits.e  a0 a1 := by kernel_rfl
theorem fulcrumlaw01_NatBits.F_eq (a0 : (List Int)) (a1 : Int) : fulcrumlaw01_NatBits.F (a0, a1, ()) = limF fulcrumlaw01_NatBits.spec fulcrumlaw01_NatBits.cals T Try.f5 (a0, a1, ()) := by kernel_rfl
theorem fulcrumlaw01_NatBits.of (k : Nat) (a0 : (List Int)) (a1 : Int) {y : Bool × Unit} (h : fulcrumlaw01_NatBits.e  a0 a1 = some y) : fulcrumlaw01_NatBits.F (a0, a1, ()) = some y := (fulcrumlaw01_NatBits.F_eq a0 a1).trans (limF_of (q := fulcrumlaw01_NatBits.spec) (C := fulcrumlaw01_NatBits.cals) (T := T) (f := Try.f5) (x := (a0, a1, ())) (y := y) k ((fulcrumlaw01_NatBits.eval k a0 a1).trans h))

/-! ### fulcrum/nat.moved -/
def nat_moved.spec : Spec := ⟨[(false, (.sl 27 (.int .u32))), (false, (.int .i64))], [(false, (.sl 27 (.int .u32)))], .own, fun j => match j with | 3 => [(0, .lf (.z 27 (.int .u32) false)), (1, .lf (.v false)), (5, .lf (.o 27 (.int .u32) true)), (12, .lf (.v true)), (13, .lf (.v true))] | _ => []⟩
noncomputable def nat_moved.cals : Cals := Cals.nil
noncomputable def nat_moved.sig : Sig := nat_moved.spec.sig nat_moved.cals T Try.f61
noncomputable def nat_moved.F (x : (List Int) × Int × Unit) : Option ((List Int) × Unit) := limF nat_moved.spec nat_moved.cals T Try.f61 x
theorem nat_moved.ck : CalsOk Try.prog nat_moved.cals := CalsOk.nil
theorem nat_moved.cal : CalOk Try.prog 61 nat_moved.sig := calOk_lim' tabOk nat_moved.ck mix Try.func61 (by kernel_rfl) (by kernel_rfl) (by kernel_rfl) (by kernel_rfl)
def nat_moved.m3 (x0 : (List Int)) (x1 : Int) (x5 : (List Int)) (x12 : Int) (x13 : Int) : S := ⟨[(0, .one (.lf (.val false (.sl 27 (.int .u32)) x0))), (1, .one (.lf (.val false (.int .i64) x1))), (5, .one (.lf (.own 0))), (12, .one (.lf (.val true (.int .i64) x12))), (13, .one (.lf (.val true (.int .i64) x13)))], ⟨[some ⟨27, (.int .u32), true, true, x5⟩], []⟩⟩
noncomputable def nat_moved.b3 (f3 : (List Int) → Int → (List Int) → Int → Int → Option ((List Int) × Unit)) (x0 : (List Int)) (x1 : Int) (x5 : (List Int)) (x12 : Int) (x13 : Int) : Option ((List Int) × Unit) :=
  let v1 := decide (x13 < x12)
  bif v1 then (bif decide (0 ≤ x13) && decide (x13 < (List.length x5 : Int)) then (let v2 := List.getD x5 (Int.toNat x13) (0 : Int)
  bif decide (0 ≤ x13) && decide (x13 < (List.length x0 : Int)) then (let v3 := List.getD x0 (Int.toNat x13) (0 : Int)
  bif decide (x1 < 0) then none
  else (let v4 := shlI .u32 v3 x1
  let v5 := bitsOp .or .u32 v2 v4
  bif decide (0 ≤ x13) && decide (x13 < (List.length x5 : Int)) then (let v6 := List.set x5 (Int.toNat x13) v5
  let v7 := IntKind.i64.wrap (x13 + (1 : Int))
  bif decide (0 ≤ x13) && decide (x13 < (List.length x0 : Int)) then (let v8 := List.getD x0 (Int.toNat x13) (0 : Int)
  let v9 := IntKind.u64.wrap v8
  let v10 := IntKind.i64.wrap ((32 : Int) - x1)
  bif decide (v10 < 0) then none
  else (let v11 := shrI .u64 v9 v10
  let v12 := IntKind.u32.wrap v11
  bif decide (0 ≤ v7) && decide (v7 < (List.length v6 : Int)) then (let v13 := List.set v6 (Int.toNat v7) v12
  let v14 := IntKind.i64.wrap (x13 + (1 : Int))
  f3 x0 x1 v13 x12 v14)
  else none))
  else none)
  else none))
  else none)
  else none)
  else (some (x5, ()))
noncomputable def nat_moved.e (f3 : (List Int) → Int → (List Int) → Int → Int → Option ((List Int) × Unit)) (a0 : (List Int)) (a1 : Int) : Option ((List Int) × Unit) :=
  let v1 := (List.length a0 : Int)
  let v2 := IntKind.i64.wrap (v1 + (1 : Int))
  bif decide (0 ≤ v2) && (decide (v2 ≤ v2) && (decide (Int.toNat v2 * 4 ≤ 281474976710656) && Nat.blt 0 4)) then (let v3 := List.replicate (Int.toNat v2) (0 : Int)
  let v4 := (List.length a0 : Int)
  f3 a0 a1 v3 v4 (0 : Int))
  else none
noncomputable def nat_moved.L3 (k : Nat) (x0 : (List Int)) (x1 : Int) (x5 : (List Int)) (x12 : Int) (x13 : Int) : Option ((List Int) × Unit) := heads (nat_moved.spec.env nat_moved.cals T Try.f61) (Func.pts Try.f61) k 3 (nat_moved.m3 x0 x1 x5 x12 x13)
theorem nat_moved.L3_succ (k : Nat) (x0 : (List Int)) (x1 : Int) (x5 : (List Int)) (x12 : Int) (x13 : Int) : nat_moved.L3 (k + 1) x0 x1 x5 x12 x13 = nat_moved.b3 (nat_moved.L3 k) x0 x1 x5 x12 x13 := by kernel_rfl
theorem nat_moved.L3_zero (x0 : (List Int)) (x1 : Int) (x5 : (List Int)) (x12 : Int) (x13 : Int) : nat_moved.L3 0 x0 x1 x5 x12 x13 = none := by kernel_rfl
theorem nat_moved.eval (k : Nat) (a0 : (List Int)) (a1 : Int) : evalF nat_moved.spec nat_moved.cals T Try.f61 k (a0, a1, ()) = nat_moved.e (nat_moved.L3 k) a0 a1 := by kernel_rfl
theorem nat_moved.F_eq (a0 : (List Int)) (a1 : Int) : nat_moved.F (a0, a1, ()) = limF nat_moved.spec nat_moved.cals T Try.f61 (a0, a1, ()) := by kernel_rfl
theorem nat_moved.of (k : Nat) (a0 : (List Int)) (a1 : Int) {y : (List Int) × Unit} (h : nat_moved.e (nat_moved.L3 k) a0 a1 = some y) : nat_moved.F (a0, a1, ()) = some y := (nat_moved.F_eq a0 a1).trans (limF_of (q := nat_moved.spec) (C := nat_moved.cals) (T := T) (f := Try.f61) (x := (a0, a1, ())) (y := y) k ((nat_moved.eval k a0 a1).trans h))

/-! ### fulcrum/nat.Shift -/
def nat_Shift.spec : Spec := ⟨[(false, (.sl 27 (.int .u32))), (false, (.int .i64))], [(false, (.sl 27 (.int .u32))), (false, (.int .i64))], .own, fun j => match j with | 14 => [(0, .lf (.z 27 (.int .u32) false)), (8, .lf (.v true)), (9, .lf (.o 27 (.int .u32) true)), (56, .lf (.v true)), (57, .lf (.v true))] | _ => []⟩
noncomputable def nat_Shift.cals : Cals := (Cals.withSubs [31] (Cals.cons 59 nat_trim.sig (Cals.cons 61 nat_moved.sig (Cals.cons 58 nat_own.sig Cals.nil))))
noncomputable def nat_Shift.sig : Sig := nat_Shift.spec.sig nat_Shift.cals T Try.f30
noncomputable def nat_Shift.F (x : (List Int) × Int × Unit) : Option ((List Int) × Int × Unit) := limF nat_Shift.spec nat_Shift.cals T Try.f30 x
theorem nat_Shift.ck : CalsOk Try.prog nat_Shift.cals := (CalsOk.withSubs [31] (CalsOk.cons nat_trim.cal (CalsOk.cons nat_moved.cal (CalsOk.cons nat_own.cal CalsOk.nil))))
theorem nat_Shift.cal : CalOk Try.prog 30 nat_Shift.sig := calOk_lim' tabOk nat_Shift.ck mix Try.func30 (by kernel_rfl) (by kernel_rfl) (by kernel_rfl) (by kernel_rfl)
def nat_Shift.m14 (x0 : (List Int)) (x8 : Int) (x9 : (List Int)) (x56 : Int) (x57 : Int) : S := ⟨[(0, .one (.lf (.val false (.sl 27 (.int .u32)) x0))), (8, .one (.lf (.val true (.int .i64) x8))), (9, .one (.lf (.own 0))), (56, .one (.lf (.val true (.int .i64) x56))), (57, .one (.lf (.val true (.int .i64) x57)))], ⟨[some ⟨27, (.int .u32), true, true, x9⟩], []⟩⟩
noncomputable def nat_Shift.b14 (f14 : (List Int) → Int → (List Int) → Int → Int → Option ((List Int) × Int × Unit)) (x0 : (List Int)) (x8 : Int) (x9 : (List Int)) (x56 : Int) (x57 : Int) : Option ((List Int) × Int × Unit) :=
  let v1 := decide (x57 < x56)
  bif v1 then (bif decide (0 ≤ x57) && decide (x57 < (List.length x0 : Int)) then (let v2 := List.getD x0 (Int.toNat x57) (0 : Int)
  bif decide (x8 < 0) then none
  else (let v3 := shrI .u32 v2 x8
  bif decide (0 ≤ x57) && decide (x57 < (List.length x9 : Int)) then (let v4 := List.set x9 (Int.toNat x57) v3
  let v5 := IntKind.i64.wrap (x57 + (1 : Int))
  let v6 := (List.length x0 : Int)
  let v7 := decide (v5 < v6)
  bif v7 then (bif decide (0 ≤ x57) && decide (x57 < (List.length v4 : Int)) then (let v8 := List.getD v4 (Int.toNat x57) (0 : Int)
  let v9 := IntKind.i64.wrap (x57 + (1 : Int))
  bif decide (0 ≤ v9) && decide (v9 < (List.length x0 : Int)) then (let v10 := List.getD x0 (Int.toNat v9) (0 : Int)
  let v11 := IntKind.u64.wrap v10
  let v12 := IntKind.i64.wrap ((32 : Int) - x8)
  bif decide (v12 < 0) then none
  else (let v13 := shlI .u64 v11 v12
  let v14 := IntKind.u32.wrap v13
  let v15 := bitsOp .or .u32 v8 v14
  bif decide (0 ≤ x57) && decide (x57 < (List.length v4 : Int)) then (let v16 := List.set v4 (Int.toNat x57) v15
  let v17 := IntKind.i64.wrap (x57 + (1 : Int))
  f14 x0 x8 v16 x56 v17)
  else none))
  else none)
  else none)
  else (let v18 := IntKind.i64.wrap (x57 + (1 : Int))
  f14 x0 x8 v4 x56 v18))
  else none))
  else none)
  else ((nat_own.F (x9, ())).bind fun y19 =>
  some (y19.1, (0 : Int), ()))
noncomputable def nat_Shift.e (f14 : (List Int) → Int → (List Int) → Int → Int → Option ((List Int) × Int × Unit)) (a0 : (List Int)) (a1 : Int) : Option ((List Int) × Int × Unit) :=
  let v1 := decide (a1 < (-1048576 : Int))
  bif v1 then (some (([] : List Int), (12 : Int), ()))
  else (let v2 := decide (a1 > (1048576 : Int))
  bif v2 then (some (([] : List Int), (12 : Int), ()))
  else ((nat_trim.F (a0, ())).bind fun y3 =>
  let v4 := decide (a1 ≥ (0 : Int))
  bif v4 then (bif decide ((32 : Int) = 0) then none
  else (let v5 := IntKind.i64.wrap (Int.tdiv a1 (32 : Int))
  let v6 := (List.length y3.1 : Int)
  let v7 := IntKind.i64.wrap (v5 + v6)
  let v8 := IntKind.i64.wrap (v7 + (1 : Int))
  bif decide (0 ≤ v8) && (decide (v8 ≤ v8) && (decide (Int.toNat v8 * 4 ≤ 281474976710656) && Nat.blt 0 4)) then (let v9 := List.replicate (Int.toNat v8) (0 : Int)
  bif decide ((32 : Int) = 0) then none
  else (let v10 := IntKind.i64.wrap (Int.tdiv a1 (32 : Int))
  bif decide (0 ≤ v10) && (decide (v10 ≤ (List.length v9 : Int)) && decide ((List.length v9 : Int) ≤ (List.length v9 : Int))) then (bif decide ((32 : Int) = 0) then none
  else (let v11 := Int.tmod a1 (32 : Int)
  (nat_moved.F (y3.1, v11, ())).bind fun y12 =>
  bif Nat.blt 0 (Int.toNat ((List.length v9 : Int) - v10)) && Nat.ble ((Int.toNat v10) + (Int.toNat ((List.length v9 : Int) - v10))) (List.length v9) then (let v13 := List.take (Int.toNat v10) v9 ++ (List.take (Int.toNat ((List.length v9 : Int) - v10)) y12.1 ++ List.drop ((Int.toNat v10) + Nat.min (List.length y12.1) (Int.toNat ((List.length v9 : Int) - v10))) v9)
  let v14 := ((Nat.min (List.length y12.1) (Int.toNat ((List.length v9 : Int) - v10)) : Nat) : Int)
  (nat_own.F (v13, ())).bind fun y15 =>
  some (y15.1, (0 : Int), ()))
  else none))
  else none))
  else none))
  else (let v16 := negI .i64 a1
  bif decide ((32 : Int) = 0) then none
  else (let v17 := IntKind.i64.wrap (Int.tdiv v16 (32 : Int))
  let v18 := negI .i64 a1
  bif decide ((32 : Int) = 0) then none
  else (let v19 := Int.tmod v18 (32 : Int)
  let v20 := (List.length y3.1 : Int)
  let v21 := decide (v17 ≥ v20)
  bif v21 then (some (([] : List Int), (0 : Int), ()))
  else (bif decide (0 ≤ v17) && decide (v17 ≤ (List.length y3.1 : Int)) then (let v22 := List.drop (Int.toNat v17) y3.1
  let v23 := (List.length v22 : Int)
  bif decide (0 ≤ v23) && (decide (v23 ≤ v23) && (decide (Int.toNat v23 * 4 ≤ 281474976710656) && Nat.blt 0 4)) then (let v24 := List.replicate (Int.toNat v23) (0 : Int)
  let v25 := (List.length v22 : Int)
  f14 v22 v19 v24 v25 (0 : Int))
  else none)
  else none))))))
noncomputable def nat_Shift.L14 (k : Nat) (x0 : (List Int)) (x8 : Int) (x9 : (List Int)) (x56 : Int) (x57 : Int) : Option ((List Int) × Int × Unit) := heads (nat_Shift.spec.env nat_Shift.cals T Try.f30) (Func.pts Try.f30) k 14 (nat_Shift.m14 x0 x8 x9 x56 x57)
theorem nat_Shift.L14_succ (k : Nat) (x0 : (List Int)) (x8 : Int) (x9 : (List Int)) (x56 : Int) (x57 : Int) : nat_Shift.L14 (k + 1) x0 x8 x9 x56 x57 = nat_Shift.b14 (nat_Shift.L14 k) x0 x8 x9 x56 x57 := by kernel_rfl
theorem nat_Shift.L14_zero (x0 : (List Int)) (x8 : Int) (x9 : (List Int)) (x56 : Int) (x57 : Int) : nat_Shift.L14 0 x0 x8 x9 x56 x57 = none := by kernel_rfl
theorem nat_Shift.eval (k : Nat) (a0 : (List Int)) (a1 : Int) : evalF nat_Shift.spec nat_Shift.cals T Try.f30 k (a0, a1, ()) = nat_Shift.e (nat_Shift.L14 k) a0 a1 := by kernel_rfl
theorem nat_Shift.F_eq (a0 : (List Int)) (a1 : Int) : nat_Shift.F (a0, a1, ()) = limF nat_Shift.spec nat_Shift.cals T Try.f30 (a0, a1, ()) := by kernel_rfl
theorem nat_Shift.of (k : Nat) (a0 : (List Int)) (a1 : Int) {y : (List Int) × Int × Unit} (h : nat_Shift.e (nat_Shift.L14 k) a0 a1 = some y) : nat_Shift.F (a0, a1, ()) = some y := (nat_Shift.F_eq a0 a1).trans (limF_of (q := nat_Shift.spec) (C := nat_Shift.cals) (T := T) (f := Try.f30) (x := (a0, a1, ())) (y := y) k ((nat_Shift.eval k a0 a1).trans h))

/-! ### fulcrum/fulcrumref01.Shift -/
def fulcrumref01_Shift.spec : Spec := ⟨[(false, (.sl 27 (.int .u32))), (false, (.int .i64))], [(false, (.sl 27 (.int .u32))), (false, (.int .i64))], .own, fun j => match j with | 15 => [(0, .lf (.z 27 (.int .u32) false)), (6, .lf (.v true)), (7, .lf (.o 27 (.int .u32) true)), (8, .lf (.v true)), (9, .lf (.v true)), (10, .lf (.v true))] | _ => []⟩
noncomputable def fulcrumref01_Shift.cals : Cals := (Cals.cons 22 fulcrumref01_Norm.sig Cals.nil)
noncomputable def fulcrumref01_Shift.sig : Sig := fulcrumref01_Shift.spec.sig fulcrumref01_Shift.cals T Try.f31
noncomputable def fulcrumref01_Shift.F (x : (List Int) × Int × Unit) : Option ((List Int) × Int × Unit) := limF fulcrumref01_Shift.spec fulcrumref01_Shift.cals T Try.f31 x
theorem fulcrumref01_Shift.ck : CalsOk Try.prog fulcrumref01_Shift.cals := (CalsOk.cons fulcrumref01_Norm.cal CalsOk.nil)
theorem fulcrumref01_Shift.cal : CalOk Try.prog 31 fulcrumref01_Shift.sig := calOk_lim' tabOk fulcrumref01_Shift.ck mix Try.func31 (by kernel_rfl) (by kernel_rfl) (by kernel_rfl) (by kernel_rfl)
def fulcrumref01_Shift.m15 (x0 : (List Int)) (x6 : Int) (x7 : (List Int)) (x8 : Int) (x9 : Int) (x10 : Int) : S := ⟨[(0, .one (.lf (.val false (.sl 27 (.int .u32)) x0))), (6, .one (.lf (.val true (.int .i64) x6))), (7, .one (.lf (.own 0))), (8, .one (.lf (.val true (.int .i64) x8))), (9, .one (.lf (.val true (.int .i64) x9))), (10, .one (.lf (.val true (.int .i64) x10)))], ⟨[some ⟨27, (.int .u32), true, true, x7⟩], []⟩⟩
noncomputable def fulcrumref01_Shift.b15 (f15 : (List Int) → Int → (List Int) → Int → Int → Int → Option ((List Int) × Int × Unit)) (x0 : (List Int)) (x6 : Int) (x7 : (List Int)) (x8 : Int) (x9 : Int) (x10 : Int) : Option ((List Int) × Int × Unit) :=
  let v1 := (List.length x0 : Int)
  let v2 := decide (x10 < v1)
  bif v2 then (bif decide (0 ≤ x10) && decide (x10 < (List.length x0 : Int)) then (let v3 := List.getD x0 (Int.toNat x10) (0 : Int)
  let v4 := IntKind.u64.wrap v3
  let v5 := IntKind.u64.wrap x9
  bif decide (v5 < 0) then none
  else (let v6 := shlI .u64 v4 v5
  let v7 := IntKind.i64.wrap (x10 + x8)
  let v8 := decide (v7 ≥ (0 : Int))
  bif v8 then (let v9 := IntKind.i64.wrap (x10 + x8)
  let v10 := decide (v9 < x6)
  bif v10 then (let v11 := IntKind.i64.wrap (x10 + x8)
  bif decide (0 ≤ v11) && decide (v11 < (List.length x7 : Int)) then (let v12 := List.getD x7 (Int.toNat v11) (0 : Int)
  let v13 := IntKind.u32.wrap v6
  let v14 := bitsOp .or .u32 v12 v13
  bif decide (0 ≤ v11) && decide (v11 < (List.length x7 : Int)) then (let v15 := List.set x7 (Int.toNat v11) v14
  let v16 := IntKind.i64.wrap (x10 + x8)
  let v17 := IntKind.i64.wrap (v16 + (1 : Int))
  let v18 := decide (v17 ≥ (0 : Int))
  bif v18 then (let v19 := IntKind.i64.wrap (x10 + x8)
  let v20 := IntKind.i64.wrap (v19 + (1 : Int))
  let v21 := decide (v20 < x6)
  bif v21 then (let v22 := IntKind.i64.wrap (x10 + x8)
  let v23 := IntKind.i64.wrap (v22 + (1 : Int))
  bif decide (0 ≤ v23) && decide (v23 < (List.length v15 : Int)) then (let v24 := List.getD v15 (Int.toNat v23) (0 : Int)
  bif decide ((32 : Int) < 0) then none
  else (let v25 := shrI .u64 v6 (32 : Int)
  let v26 := IntKind.u32.wrap v25
  let v27 := bitsOp .or .u32 v24 v26
  bif decide (0 ≤ v23) && decide (v23 < (List.length v15 : Int)) then (let v28 := List.set v15 (Int.toNat v23) v27
  let v29 := IntKind.i64.wrap (x10 + (1 : Int))
  f15 x0 x6 v28 x8 x9 v29)
  else none))
  else none)
  else (let v30 := IntKind.i64.wrap (x10 + (1 : Int))
  f15 x0 x6 v15 x8 x9 v30))
  else (let v31 := IntKind.i64.wrap (x10 + (1 : Int))
  f15 x0 x6 v15 x8 x9 v31))
  else none)
  else none)
  else (let v32 := IntKind.i64.wrap (x10 + x8)
  let v33 := IntKind.i64.wrap (v32 + (1 : Int))
  let v34 := decide (v33 ≥ (0 : Int))
  bif v34 then (let v35 := IntKind.i64.wrap (x10 + x8)
  let v36 := IntKind.i64.wrap (v35 + (1 : Int))
  let v37 := decide (v36 < x6)
  bif v37 then (let v38 := IntKind.i64.wrap (x10 + x8)
  let v39 := IntKind.i64.wrap (v38 + (1 : Int))
  bif decide (0 ≤ v39) && decide (v39 < (List.length x7 : Int)) then (let v40 := List.getD x7 (Int.toNat v39) (0 : Int)
  bif decide ((32 : Int) < 0) then none
  else (let v41 := shrI .u64 v6 (32 : Int)
  let v42 := IntKind.u32.wrap v41
  let v43 := bitsOp .or .u32 v40 v42
  bif decide (0 ≤ v39) && decide (v39 < (List.length x7 : Int)) then (let v44 := List.set x7 (Int.toNat v39) v43
  let v45 := IntKind.i64.wrap (x10 + (1 : Int))
  f15 x0 x6 v44 x8 x9 v45)
  else none))
  else none)
  else (let v46 := IntKind.i64.wrap (x10 + (1 : Int))
  f15 x0 x6 x7 x8 x9 v46))
  else (let v47 := IntKind.i64.wrap (x10 + (1 : Int))
  f15 x0 x6 x7 x8 x9 v47)))
  else (let v48 := IntKind.i64.wrap (x10 + x8)
  let v49 := IntKind.i64.wrap (v48 + (1 : Int))
  let v50 := decide (v49 ≥ (0 : Int))
  bif v50 then (let v51 := IntKind.i64.wrap (x10 + x8)
  let v52 := IntKind.i64.wrap (v51 + (1 : Int))
  let v53 := decide (v52 < x6)
  bif v53 then (let v54 := IntKind.i64.wrap (x10 + x8)
  let v55 := IntKind.i64.wrap (v54 + (1 : Int))
  bif decide (0 ≤ v55) && decide (v55 < (List.length x7 : Int)) then (let v56 := List.getD x7 (Int.toNat v55) (0 : Int)
  bif decide ((32 : Int) < 0) then none
  else (let v57 := shrI .u64 v6 (32 : Int)
  let v58 := IntKind.u32.wrap v57
  let v59 := bitsOp .or .u32 v56 v58
  bif decide (0 ≤ v55) && decide (v55 < (List.length x7 : Int)) then (let v60 := List.set x7 (Int.toNat v55) v59
  let v61 := IntKind.i64.wrap (x10 + (1 : Int))
  f15 x0 x6 v60 x8 x9 v61)
  else none))
  else none)
  else (let v62 := IntKind.i64.wrap (x10 + (1 : Int))
  f15 x0 x6 x7 x8 x9 v62))
  else (let v63 := IntKind.i64.wrap (x10 + (1 : Int))
  f15 x0 x6 x7 x8 x9 v63))))
  else none)
  else ((fulcrumref01_Norm.F (x7, ())).bind fun y64 =>
  some (y64.1, (0 : Int), ()))
noncomputable def fulcrumref01_Shift.e (f15 : (List Int) → Int → (List Int) → Int → Int → Int → Option ((List Int) × Int × Unit)) (a0 : (List Int)) (a1 : Int) : Option ((List Int) × Int × Unit) :=
  let v1 := decide (a1 < (-1048576 : Int))
  bif v1 then (some (([] : List Int), (12 : Int), ()))
  else (let v2 := decide (a1 > (1048576 : Int))
  bif v2 then (some (([] : List Int), (12 : Int), ()))
  else ((fulcrumref01_Norm.F (a0, ())).bind fun y3 =>
  let v4 := (List.length y3.1 : Int)
  let v5 := (v4 == (0 : Int))
  bif v5 then (let v6 := ([] : List Int)
  some (v6, (0 : Int), ()))
  else (let v7 := (List.length a0 : Int)
  let v8 := decide (a1 > (0 : Int))
  bif v8 then (bif decide ((32 : Int) = 0) then none
  else (let v9 := IntKind.i64.wrap (Int.tdiv a1 (32 : Int))
  let v10 := IntKind.i64.wrap (v9 + (1 : Int))
  let v11 := IntKind.i64.wrap (v7 + v10)
  bif decide (0 ≤ v11) && (decide (v11 ≤ v11) && (decide (Int.toNat v11 * 4 ≤ 281474976710656) && Nat.blt 0 4)) then (let v12 := List.replicate (Int.toNat v11) (0 : Int)
  bif decide ((32 : Int) = 0) then none
  else (let v13 := IntKind.i64.wrap (Int.tdiv a1 (32 : Int))
  bif decide ((32 : Int) = 0) then none
  else (let v14 := Int.tmod a1 (32 : Int)
  let v15 := decide (v14 < (0 : Int))
  bif v15 then (let v16 := IntKind.i64.wrap (v13 - (1 : Int))
  let v17 := IntKind.i64.wrap (v14 + (32 : Int))
  f15 a0 v11 v12 v16 v17 (0 : Int))
  else (f15 a0 v11 v12 v13 v14 (0 : Int)))))
  else none))
  else (bif decide (0 ≤ v7) && (decide (v7 ≤ v7) && (decide (Int.toNat v7 * 4 ≤ 281474976710656) && Nat.blt 0 4)) then (let v18 := List.replicate (Int.toNat v7) (0 : Int)
  bif decide ((32 : Int) = 0) then none
  else (let v19 := IntKind.i64.wrap (Int.tdiv a1 (32 : Int))
  bif decide ((32 : Int) = 0) then none
  else (let v20 := Int.tmod a1 (32 : Int)
  let v21 := decide (v20 < (0 : Int))
  bif v21 then (let v22 := IntKind.i64.wrap (v19 - (1 : Int))
  let v23 := IntKind.i64.wrap (v20 + (32 : Int))
  f15 a0 v7 v18 v22 v23 (0 : Int))
  else (f15 a0 v7 v18 v19 v20 (0 : Int)))))
  else none))))
noncomputable def fulcrumref01_Shift.L15 (k : Nat) (x0 : (List Int)) (x6 : Int) (x7 : (List Int)) (x8 : Int) (x9 : Int) (x10 : Int) : Option ((List Int) × Int × Unit) := heads (fulcrumref01_Shift.spec.env fulcrumref01_Shift.cals T Try.f31) (Func.pts Try.f31) k 15 (fulcrumref01_Shift.m15 x0 x6 x7 x8 x9 x10)
theorem fulcrumref01_Shift.L15_succ (k : Nat) (x0 : (List Int)) (x6 : Int) (x7 : (List Int)) (x8 : Int) (x9 : Int) (x10 : Int) : fulcrumref01_Shift.L15 (k + 1) x0 x6 x7 x8 x9 x10 = fulcrumref01_Shift.b15 (fulcrumref01_Shift.L15 k) x0 x6 x7 x8 x9 x10 := by kernel_rfl
theorem fulcrumref01_Shift.L15_zero (x0 : (List Int)) (x6 : Int) (x7 : (List Int)) (x8 : Int) (x9 : Int) (x10 : Int) : fulcrumref01_Shift.L15 0 x0 x6 x7 x8 x9 x10 = none := by kernel_rfl
theorem fulcrumref01_Shift.eval (k : Nat) (a0 : (List Int)) (a1 : Int) : evalF fulcrumref01_Shift.spec fulcrumref01_Shift.cals T Try.f31 k (a0, a1, ()) = fulcrumref01_Shift.e (fulcrumref01_Shift.L15 k) a0 a1 := by kernel_rfl
theorem fulcrumref01_Shift.F_eq (a0 : (List Int)) (a1 : Int) : fulcrumref01_Shift.F (a0, a1, ()) = limF fulcrumref01_Shift.spec fulcrumref01_Shift.cals T Try.f31 (a0, a1, ()) := by kernel_rfl
theorem fulcrumref01_Shift.of (k : Nat) (a0 : (List Int)) (a1 : Int) {y : (List Int) × Int × Unit} (h : fulcrumref01_Shift.e (fulcrumref01_Shift.L15 k) a0 a1 = some y) : fulcrumref01_Shift.F (a0, a1, ()) = some y := (fulcrumref01_Shift.F_eq a0 a1).trans (limF_of (q := fulcrumref01_Shift.spec) (C := fulcrumref01_Shift.cals) (T := T) (f := Try.f31) (x := (a0, a1, ())) (y := y) k ((fulcrumref01_Shift.eval k a0 a1).trans h))

/-! ### fulcrum/fulcrumlaw01.NatShifts -/
def fulcrumlaw01_NatShifts.spec : Spec := ⟨[(false, (.sl 27 (.int .u32))), (false, (.int .i64))], [(false, .bool)], .own, fun j => match j with  | _ => []⟩
noncomputable def fulcrumlaw01_NatShifts.cals : Cals := (Cals.cons 21 fulcrumlaw01_twin.sig (Cals.cons 30 nat_Shift.sig (Cals.cons 31 fulcrumref01_Shift.sig (Cals.cons 18 fulcrumlaw01_same.sig Cals.nil))))
noncomputable def fulcrumlaw01_NatShifts.sig : Sig := fulcrumlaw01_NatShifts.spec.sig fulcrumlaw01_NatShifts.cals T Try.f6
noncomputable def fulcrumlaw01_NatShifts.F (x : (List Int) × Int × Unit) : Option (Bool × Unit) := limF fulcrumlaw01_NatShifts.spec fulcrumlaw01_NatShifts.cals T Try.f6 x
theorem fulcrumlaw01_NatShifts.ck : CalsOk Try.prog fulcrumlaw01_NatShifts.cals := (CalsOk.cons fulcrumlaw01_twin.cal (CalsOk.cons nat_Shift.cal (CalsOk.cons fulcrumref01_Shift.cal (CalsOk.cons fulcrumlaw01_same.cal CalsOk.nil))))
theorem fulcrumlaw01_NatShifts.cal : CalOk Try.prog 6 fulcrumlaw01_NatShifts.sig := calOk_lim' tabOk fulcrumlaw01_NatShifts.ck mix Try.func6 (by kernel_rfl) (by kernel_rfl) (by kernel_rfl) (by kernel_rfl)
noncomputable def fulcrumlaw01_NatShifts.e  (a0 : (List Int)) (a1 : Int) : Option (Bool × Unit) :=
  (fulcrumlaw01_twin.F (a0, ())).bind fun y1 =>
  (nat_Shift.F (y1.1, a1, ())).bind fun y2 =>
  (fulcrumref01_Shift.F (a0, a1, ())).bind fun y3 =>
  let v4 := (y2.2.1 != y3.2.1)
  bif v4 then (some (false, ()))
  else ((fulcrumlaw01_same.F (y2.1, y3.1, ())).bind fun y5 =>
  let v6 := not y5.1
  bif v6 then (some (false, ()))
  else (let v7 := ([(1 : Int)] : List Int)
  (nat_Shift.F (v7, (33 : Int), ())).bind fun y8 =>
  let v9 := (y8.2.1 == (0 : Int))
  bif v9 then (let v10 := ([(0 : Int), (2 : Int)] : List Int)
  (fulcrumlaw01_same.F (y8.1, v10, ())).bind fun y11 =>
  some (y11.1, ()))
  else (some (false, ()))))
theorem fulcrumlaw01_NatShifts.eval (k : Nat) (a0 : (List Int)) (a1 : Int) : evalF fulcrumlaw01_NatShifts.spec fulcrumlaw01_NatShifts.cals T Try.f6 k (a0, a1, ()) = fulcrumlaw01_NatShifts.e  a0 a1 := by kernel_rfl
theorem fulcrumlaw01_NatShifts.F_eq (a0 : (List Int)) (a1 : Int) : fulcrumlaw01_NatShifts.F (a0, a1, ()) = limF fulcrumlaw01_NatShifts.spec fulcrumlaw01_NatShifts.cals T Try.f6 (a0, a1, ()) := by kernel_rfl
theorem fulcrumlaw01_NatShifts.of (k : Nat) (a0 : (List Int)) (a1 : Int) {y : Bool × Unit} (h : fulcrumlaw01_NatShifts.e  a0 a1 = some y) : fulcrumlaw01_NatShifts.F (a0, a1, ()) = some y := (fulcrumlaw01_NatShifts.F_eq a0 a1).trans (limF_of (q := fulcrumlaw01_NatShifts.spec) (C := fulcrumlaw01_NatShifts.cals) (T := T) (f := Try.f6) (x := (a0, a1, ())) (y := y) k ((fulcrumlaw01_NatShifts.eval k a0 a1).trans h))

/-! ### math/bits.Div32 -/
def bits_Div32.spec : Spec := ⟨[(false, (.int .u32)), (false, (.int .u32)), (false, (.int .u32))], [(false, (.int .u32)), (false, (.int .u32))], .own, fun j => match j with  | _ => []⟩
noncomputable def bits_Div32.cals : Cals := Cals.nil
noncomputable def bits_Div32.sig : Sig := bits_Div32.spec.sig bits_Div32.cals T Try.f70
noncomputable def bits_Div32.F (x : Int × Int × Int × Unit) : Option (Int × Int × Unit) := limF bits_Div32.spec bits_Div32.cals T Try.f70 x
theorem bits_Div32.ck : CalsOk Try.prog bits_Div32.cals := CalsOk.nil
theorem bits_Div32.cal : CalOk Try.prog 70 bits_Div32.sig := calOk_lim' tabOk bits_Div32.ck mix Try.func70 (by kernel_rfl) (by kernel_rfl) (by kernel_rfl) (by kernel_rfl)
noncomputable def bits_Div32.e  (a0 : Int) (a1 : Int) (a2 : Int) : Option (Int × Int × Unit) :=
  let v1 := (a2 != (0 : Int))
  bif v1 then (let v2 := decide (a2 ≤ a0)
  bif v2 then (none)
  else (let v3 := IntKind.u64.wrap a0
  bif decide ((32 : Int) < 0) then none
  else (let v4 := shlI .u64 v3 (32 : Int)
  let v5 := IntKind.u64.wrap a1
  let v6 := bitsOp .or .u64 v4 v5
  let v7 := IntKind.u64.wrap a2
  bif decide (v7 = 0) then none
  else (let v8 := IntKind.u64.wrap (Int.tdiv v6 v7)
  let v9 := IntKind.u32.wrap v8
  let v10 := IntKind.u64.wrap a2
  bif decide (v10 = 0) then none
  else (let v11 := Int.tmod v6 v10
  let v12 := IntKind.u32.wrap v11
  some (v9, v12, ()))))))
  else (let v13 := IntKind.u64.wrap a0
  bif decide ((32 : Int) < 0) then none
  else (let v14 := shlI .u64 v13 (32 : Int)
  let v15 := IntKind.u64.wrap a1
  let v16 := bitsOp .or .u64 v14 v15
  let v17 := IntKind.u64.wrap a2
  bif decide (v17 = 0) then none
  else (let v18 := IntKind.u64.wrap (Int.tdiv v16 v17)
  let v19 := IntKind.u32.wrap v18
  let v20 := IntKind.u64.wrap a2
  bif decide (v20 = 0) then none
  else (let v21 := Int.tmod v16 v20
  let v22 := IntKind.u32.wrap v21
  some (v19, v22, ())))))
theorem bits_Div32.eval (k : Nat) (a0 : Int) (a1 : Int) (a2 : Int) : evalF bits_Div32.spec bits_Div32.cals T Try.f70 k (a0, a1, a2, ()) = bits_Div32.e  a0 a1 a2 := by kernel_rfl
theorem bits_Div32.F_eq (a0 : Int) (a1 : Int) (a2 : Int) : bits_Div32.F (a0, a1, a2, ()) = limF bits_Div32.spec bits_Div32.cals T Try.f70 (a0, a1, a2, ()) := by kernel_rfl
theorem bits_Div32.of (k : Nat) (a0 : Int) (a1 : Int) (a2 : Int) {y : Int × Int × Unit} (h : bits_Div32.e  a0 a1 a2 = some y) : bits_Div32.F (a0, a1, a2, ()) = some y := (bits_Div32.F_eq a0 a1 a2).trans (limF_of (q := bits_Div32.spec) (C := bits_Div32.cals) (T := T) (f := Try.f70) (x := (a0, a1, a2, ())) (y := y) k ((bits_Div32.eval k a0 a1 a2).trans h))

/-! ### fulcrum/nat.short -/
def nat_short.spec : Spec := ⟨[(false, (.sl 27 (.int .u32))), (false, (.int .u32))], [(false, (.sl 27 (.int .u32))), (false, (.int .u32))], .own, fun j => match j with | 4 => [(0, .lf (.z 27 (.int .u32) false)), (1, .lf (.v false)), (6, .lf (.o 27 (.int .u32) true)), (7, .lf (.v true)), (8, .lf (.v true))] | _ => []⟩
noncomputable def nat_short.cals : Cals := (Cals.cons 70 bits_Div32.sig Cals.nil)
noncomputable def nat_short.sig : Sig := nat_short.spec.sig nat_short.cals T Try.f62
noncomputable def nat_short.F (x : (List Int) × Int × Unit) : Option ((List Int) × Int × Unit) := limF nat_short.spec nat_short.cals T Try.f62 x
theorem nat_short.ck : CalsOk Try.prog nat_short.cals := (CalsOk.cons bits_Div32.cal CalsOk.nil)
theorem nat_short.cal : CalOk Try.prog 62 nat_short.sig := calOk_lim' tabOk nat_short.ck mix Try.func62 (by kernel_rfl) (by kernel_rfl) (by kernel_rfl) (by kernel_rfl)
def nat_short.m4 (x0 : (List Int)) (x1 : Int) (x6 : (List Int)) (x7 : Int) (x8 : Int) : S := ⟨[(0, .one (.lf (.val false (.sl 27 (.int .u32)) x0))), (1, .one (.lf (.val false (.int .u32) x1))), (6, .one (.lf (.own 0))), (7, .one (.lf (.val true (.int .u32) x7))), (8, .one (.lf (.val true (.int .i64) x8)))], ⟨[some ⟨27, (.int .u32), true, true, x6⟩], []⟩⟩
noncomputable def nat_short.b4 (f4 : (List Int) → Int → (List Int) → Int → Int → Option ((List Int) × Int × Unit)) (x0 : (List Int)) (x1 : Int) (x6 : (List Int)) (x7 : Int) (x8 : Int) : Option ((List Int) × Int × Unit) :=
  let v1 := decide (x8 ≥ (0 : Int))
  bif v1 then (bif decide (0 ≤ x8) && decide (x8 < (List.length x0 : Int)) then (let v2 := List.getD x0 (Int.toNat x8) (0 : Int)
  (bits_Div32.F (x7, v2, x1, ())).bind fun y3 =>
  bif decide (0 ≤ x8) && decide (x8 < (List.length x6 : Int)) then (let v4 := List.set x6 (Int.toNat x8) y3.1
  let v5 := IntKind.i64.wrap (x8 - (1 : Int))
  f4 x0 x1 v4 y3.2.1 v5)
  else none)
  else none)
  else (some (x6, x7, ()))
noncomputable def nat_short.e (f4 : (List Int) → Int → (List Int) → Int → Int → Option ((List Int) × Int × Unit)) (a0 : (List Int)) (a1 : Int) : Option ((List Int) × Int × Unit) :=
  let v1 := (List.length a0 : Int)
  bif decide (0 ≤ v1) && (decide (v1 ≤ v1) && (decide (Int.toNat v1 * 4 ≤ 281474976710656) && Nat.blt 0 4)) then (let v2 := List.replicate (Int.toNat v1) (0 : Int)
  let v3 := (List.length a0 : Int)
  let v4 := IntKind.i64.wrap (v3 - (1 : Int))
  f4 a0 a1 v2 (0 : Int) v4)
  else none
noncomputable def nat_short.L4 (k : Nat) (x0 : (List Int)) (x1 : Int) (x6 : (List Int)) (x7 : Int) (x8 : Int) : Option ((List Int) × Int × Unit) := heads (nat_short.spec.env nat_short.cals T Try.f62) (Func.pts Try.f62) k 4 (nat_short.m4 x0 x1 x6 x7 x8)
theorem nat_short.L4_succ (k : Nat) (x0 : (List Int)) (x1 : Int) (x6 : (List Int)) (x7 : Int) (x8 : Int) : nat_short.L4 (k + 1) x0 x1 x6 x7 x8 = nat_short.b4 (nat_short.L4 k) x0 x1 x6 x7 x8 := by kernel_rfl
theorem nat_short.L4_zero (x0 : (List Int)) (x1 : Int) (x6 : (List Int)) (x7 : Int) (x8 : Int) : nat_short.L4 0 x0 x1 x6 x7 x8 = none := by kernel_rfl
theorem nat_short.eval (k : Nat) (a0 : (List Int)) (a1 : Int) : evalF nat_short.spec nat_short.cals T Try.f62 k (a0, a1, ()) = nat_short.e (nat_short.L4 k) a0 a1 := by kernel_rfl
theorem nat_short.F_eq (a0 : (List Int)) (a1 : Int) : nat_short.F (a0, a1, ()) = limF nat_short.spec nat_short.cals T Try.f62 (a0, a1, ()) := by kernel_rfl
theorem nat_short.of (k : Nat) (a0 : (List Int)) (a1 : Int) {y : (List Int) × Int × Unit} (h : nat_short.e (nat_short.L4 k) a0 a1 = some y) : nat_short.F (a0, a1, ()) = some y := (nat_short.F_eq a0 a1).trans (limF_of (q := nat_short.spec) (C := nat_short.cals) (T := T) (f := Try.f62) (x := (a0, a1, ())) (y := y) k ((nat_short.eval k a0 a1).trans h))

/-! ### fulcrum/nat.Text -/
def nat_Text.spec : Spec := ⟨[(false, (.sl 27 (.int .u32))), (false, (.int .i64))], [(false, .str), (false, (.int .i64))], .own, fun j => match j with | 5 => [(1, .lf (.v false)), (6, .lf (.o 5 (.int .u8) true)), (7, .lf (.z 27 (.int .u32) true))] | 14 => [(6, .lf (.o 5 (.int .u8) true)), (9, .lf (.o 5 (.int .u8) true)), (43, .lf (.v true)), (44, .lf (.v true))] | _ => []⟩
noncomputable def nat_Text.cals : Cals := (Cals.cons 58 nat_own.sig (Cals.cons 62 nat_short.sig (Cals.cons 59 nat_trim.sig Cals.nil)))
noncomputable def nat_Text.sig : Sig := nat_Text.spec.sig nat_Text.cals T Try.f32
noncomputable def nat_Text.F (x : (List Int) × Int × Unit) : Option (ByteArray × Int × Unit) := limF nat_Text.spec nat_Text.cals T Try.f32 x
theorem nat_Text.ck : CalsOk Try.prog nat_Text.cals := (CalsOk.cons nat_own.cal (CalsOk.cons nat_short.cal (CalsOk.cons nat_trim.cal CalsOk.nil)))
theorem nat_Text.cal : CalOk Try.prog 32 nat_Text.sig := calOk_lim' tabOk nat_Text.ck mix Try.func32 (by kernel_rfl) (by kernel_rfl) (by kernel_rfl) (by kernel_rfl)
def nat_Text.m5 (x1 : Int) (x6 : (List Int)) (x7 : (List Int)) : S := ⟨[(1, .one (.lf (.val false (.int .i64) x1))), (6, .one (.lf (.own 0))), (7, .one (.lf (.val true (.sl 27 (.int .u32)) x7)))], ⟨[some ⟨5, (.int .u8), true, true, x6⟩], []⟩⟩
def nat_Text.m14 (x6 : (List Int)) (x9 : (List Int)) (x43 : Int) (x44 : Int) : S := ⟨[(6, .one (.lf (.own 0))), (9, .one (.lf (.own 1))), (43, .one (.lf (.val true (.int .i64) x43))), (44, .one (.lf (.val true (.int .i64) x44)))], ⟨[some ⟨5, (.int .u8), true, true, x6⟩, some ⟨5, (.int .u8), true, true, x9⟩], []⟩⟩
noncomputable def nat_Text.b5 (f5 : Int → (List Int) → (List Int) → Option (ByteArray × Int × Unit)) (f14 : (List Int) → (List Int) → Int → Int → Option (ByteArray × Int × Unit)) (x1 : Int) (x6 : (List Int)) (x7 : (List Int)) : Option (ByteArray × Int × Unit) :=
  let v1 := (List.length x7 : Int)
  let v2 := decide (v1 > (0 : Int))
  bif v2 then (let v3 := IntKind.u32.wrap x1
  (nat_short.F (x7, v3, ())).bind fun y4 =>
  (nat_trim.F (y4.1, ())).bind fun y5 =>
  bif decide (0 ≤ y4.2.1) && decide (y4.2.1 < (ByteArray.size (⟨#[48, 49, 50, 51, 52, 53, 54, 55, 56, 57, 97, 98, 99, 100, 101, 102]⟩ : ByteArray) : Int)) then (let v6 := btI (⟨#[48, 49, 50, 51, 52, 53, 54, 55, 56, 57, 97, 98, 99, 100, 101, 102]⟩ : ByteArray) y4.2.1
  let v7 := ([v6] : List Int)
  bif decide (List.length x6 + List.length v7 < 140737488355328) then (let v8 := List.append x6 v7
  f5 x1 v8 y5.1)
  else none)
  else none)
  else (let v9 := (List.length x6 : Int)
  let v10 := (v9 == (0 : Int))
  bif v10 then (some ((⟨#[48]⟩ : ByteArray), (0 : Int), ()))
  else (let v11 := (List.length x6 : Int)
  bif decide (0 ≤ v11) && (decide (v11 ≤ v11) && (decide (Int.toNat v11 * 1 ≤ 281474976710656) && Nat.blt 0 1)) then (let v12 := List.replicate (Int.toNat v11) (0 : Int)
  let v13 := (List.length x6 : Int)
  f14 x6 v12 v13 (0 : Int))
  else none))
noncomputable def nat_Text.b14 (f5 : Int → (List Int) → (List Int) → Option (ByteArray × Int × Unit)) (f14 : (List Int) → (List Int) → Int → Int → Option (ByteArray × Int × Unit)) (x6 : (List Int)) (x9 : (List Int)) (x43 : Int) (x44 : Int) : Option (ByteArray × Int × Unit) :=
  let v1 := decide (x44 < x43)
  bif v1 then (let v2 := (List.length x6 : Int)
  let v3 := IntKind.i64.wrap (v2 - (1 : Int))
  let v4 := IntKind.i64.wrap (v3 - x44)
  bif decide (0 ≤ x44) && decide (x44 < (List.length x6 : Int)) then (let v5 := List.getD x6 (Int.toNat x44) (0 : Int)
  bif decide (0 ≤ v4) && decide (v4 < (List.length x9 : Int)) then (let v6 := List.set x9 (Int.toNat v4) v5
  let v7 := IntKind.i64.wrap (x44 + (1 : Int))
  f14 x6 v6 x43 v7)
  else none)
  else none)
  else (let v8 := strOfNums x9
  some (v8, (0 : Int), ()))
noncomputable def nat_Text.e (f5 : Int → (List Int) → (List Int) → Option (ByteArray × Int × Unit)) (f14 : (List Int) → (List Int) → Int → Int → Option (ByteArray × Int × Unit)) (a0 : (List Int)) (a1 : Int) : Option (ByteArray × Int × Unit) :=
  let v1 := decide (a1 < (2 : Int))
  bif v1 then (some ((⟨#[]⟩ : ByteArray), (14 : Int), ()))
  else (let v2 := decide (a1 > (16 : Int))
  bif v2 then (some ((⟨#[]⟩ : ByteArray), (14 : Int), ()))
  else ((nat_own.F (a0, ())).bind fun y3 =>
  f5 a1 ([] : List Int) y3.1))
noncomputable def nat_Text.L5 (k : Nat) (x1 : Int) (x6 : (List Int)) (x7 : (List Int)) : Option (ByteArray × Int × Unit) := heads (nat_Text.spec.env nat_Text.cals T Try.f32) (Func.pts Try.f32) k 5 (nat_Text.m5 x1 x6 x7)
noncomputable def nat_Text.L14 (k : Nat) (x6 : (List Int)) (x9 : (List Int)) (x43 : Int) (x44 : Int) : Option (ByteArray × Int × Unit) := heads (nat_Text.spec.env nat_Text.cals T Try.f32) (Func.pts Try.f32) k 14 (nat_Text.m14 x6 x9 x43 x44)
theorem nat_Text.L5_succ (k : Nat) (x1 : Int) (x6 : (List Int)) (x7 : (List Int)) : nat_Text.L5 (k + 1) x1 x6 x7 = nat_Text.b5 (nat_Text.L5 k) (nat_Text.L14 k) x1 x6 x7 := by kernel_rfl
theorem nat_Text.L5_zero (x1 : Int) (x6 : (List Int)) (x7 : (List Int)) : nat_Text.L5 0 x1 x6 x7 = none := by kernel_rfl
theorem nat_Text.L14_succ (k : Nat) (x6 : (List Int)) (x9 : (List Int)) (x43 : Int) (x44 : Int) : nat_Text.L14 (k + 1) x6 x9 x43 x44 = nat_Text.b14 (nat_Text.L5 k) (nat_Text.L14 k) x6 x9 x43 x44 := by kernel_rfl
theorem nat_Text.L14_zero (x6 : (List Int)) (x9 : (List Int)) (x43 : Int) (x44 : Int) : nat_Text.L14 0 x6 x9 x43 x44 = none := by kernel_rfl
theorem nat_Text.eval (k : Nat) (a0 : (List Int)) (a1 : Int) : evalF nat_Text.spec nat_Text.cals T Try.f32 k (a0, a1, ()) = nat_Text.e (nat_Text.L5 k) (nat_Text.L14 k) a0 a1 := by kernel_rfl
theorem nat_Text.F_eq (a0 : (List Int)) (a1 : Int) : nat_Text.F (a0, a1, ()) = limF nat_Text.spec nat_Text.cals T Try.f32 (a0, a1, ()) := by kernel_rfl
theorem nat_Text.of (k : Nat) (a0 : (List Int)) (a1 : Int) {y : ByteArray × Int × Unit} (h : nat_Text.e (nat_Text.L5 k) (nat_Text.L14 k) a0 a1 = some y) : nat_Text.F (a0, a1, ()) = some y := (nat_Text.F_eq a0 a1).trans (limF_of (q := nat_Text.spec) (C := nat_Text.cals) (T := T) (f := Try.f32) (x := (a0, a1, ())) (y := y) k ((nat_Text.eval k a0 a1).trans h))

/-! ### fulcrum/fulcrumref01.tenth -/
def fulcrumref01_tenth.spec : Spec := ⟨[(false, (.sl 27 (.int .u32))), (false, (.int .i64))], [(false, (.sl 27 (.int .u32))), (false, (.int .i64))], .own, fun j => match j with | 4 => [(0, .lf (.z 27 (.int .u32) false)), (1, .lf (.v false)), (6, .lf (.o 27 (.int .u32) true)), (7, .lf (.v true)), (8, .lf (.v true))] | _ => []⟩
noncomputable def fulcrumref01_tenth.cals : Cals := (Cals.cons 22 fulcrumref01_Norm.sig Cals.nil)
noncomputable def fulcrumref01_tenth.sig : Sig := fulcrumref01_tenth.spec.sig fulcrumref01_tenth.cals T Try.f63
noncomputable def fulcrumref01_tenth.F (x : (List Int) × Int × Unit) : Option ((List Int) × Int × Unit) := limF fulcrumref01_tenth.spec fulcrumref01_tenth.cals T Try.f63 x
theorem fulcrumref01_tenth.ck : CalsOk Try.prog fulcrumref01_tenth.cals := (CalsOk.cons fulcrumref01_Norm.cal CalsOk.nil)
theorem fulcrumref01_tenth.cal : CalOk Try.prog 63 fulcrumref01_tenth.sig := calOk_lim' tabOk fulcrumref01_tenth.ck mix Try.func63 (by kernel_rfl) (by kernel_rfl) (by kernel_rfl) (by kernel_rfl)
def fulcrumref01_tenth.m4 (x0 : (List Int)) (x1 : Int) (x6 : (List Int)) (x7 : Int) (x8 : Int) : S := ⟨[(0, .one (.lf (.val false (.sl 27 (.int .u32)) x0))), (1, .one (.lf (.val false (.int .i64) x1))), (6, .one (.lf (.own 0))), (7, .one (.lf (.val true (.int .u64) x7))), (8, .one (.lf (.val true (.int .i64) x8)))], ⟨[some ⟨27, (.int .u32), true, true, x6⟩], []⟩⟩
noncomputable def fulcrumref01_tenth.b4 (f4 : (List Int) → Int → (List Int) → Int → Int → Option ((List Int) × Int × Unit)) (x0 : (List Int)) (x1 : Int) (x6 : (List Int)) (x7 : Int) (x8 : Int) : Option ((List Int) × Int × Unit) :=
  let v1 := decide (x8 ≥ (0 : Int))
  bif v1 then (bif decide ((32 : Int) < 0) then none
  else (let v2 := shlI .u64 x7 (32 : Int)
  bif decide (0 ≤ x8) && decide (x8 < (List.length x0 : Int)) then (let v3 := List.getD x0 (Int.toNat x8) (0 : Int)
  let v4 := IntKind.u64.wrap v3
  let v5 := bitsOp .or .u64 v2 v4
  let v6 := IntKind.u64.wrap x1
  bif decide (v6 = 0) then none
  else (let v7 := IntKind.u64.wrap (Int.tdiv v5 v6)
  let v8 := IntKind.u32.wrap v7
  bif decide (0 ≤ x8) && decide (x8 < (List.length x6 : Int)) then (let v9 := List.set x6 (Int.toNat x8) v8
  let v10 := IntKind.u64.wrap x1
  bif decide (v10 = 0) then none
  else (let v11 := Int.tmod v5 v10
  let v12 := IntKind.i64.wrap (x8 - (1 : Int))
  f4 x0 x1 v9 v11 v12))
  else none))
  else none))
  else ((fulcrumref01_Norm.F (x6, ())).bind fun y13 =>
  let v14 := IntKind.i64.wrap x7
  some (y13.1, v14, ()))
noncomputable def fulcrumref01_tenth.e (f4 : (List Int) → Int → (List Int) → Int → Int → Option ((List Int) × Int × Unit)) (a0 : (List Int)) (a1 : Int) : Option ((List Int) × Int × Unit) :=
  let v1 := (List.length a0 : Int)
  bif decide (0 ≤ v1) && (decide (v1 ≤ v1) && (decide (Int.toNat v1 * 4 ≤ 281474976710656) && Nat.blt 0 4)) then (let v2 := List.replicate (Int.toNat v1) (0 : Int)
  let v3 := (List.length a0 : Int)
  let v4 := IntKind.i64.wrap (v3 - (1 : Int))
  f4 a0 a1 v2 (0 : Int) v4)
  else none
noncomputable def fulcrumref01_tenth.L4 (k : Nat) (x0 : (List Int)) (x1 : Int) (x6 : (List Int)) (x7 : Int) (x8 : Int) : Option ((List Int) × Int × Unit) := heads (fulcrumref01_tenth.spec.env fulcrumref01_tenth.cals T Try.f63) (Func.pts Try.f63) k 4 (fulcrumref01_tenth.m4 x0 x1 x6 x7 x8)
theorem fulcrumref01_tenth.L4_succ (k : Nat) (x0 : (List Int)) (x1 : Int) (x6 : (List Int)) (x7 : Int) (x8 : Int) : fulcrumref01_tenth.L4 (k + 1) x0 x1 x6 x7 x8 = fulcrumref01_tenth.b4 (fulcrumref01_tenth.L4 k) x0 x1 x6 x7 x8 := by kernel_rfl
theorem fulcrumref01_tenth.L4_zero (x0 : (List Int)) (x1 : Int) (x6 : (List Int)) (x7 : Int) (x8 : Int) : fulcrumref01_tenth.L4 0 x0 x1 x6 x7 x8 = none := by kernel_rfl
theorem fulcrumref01_tenth.eval (k : Nat) (a0 : (List Int)) (a1 : Int) : evalF fulcrumref01_tenth.spec fulcrumref01_tenth.cals T Try.f63 k (a0, a1, ()) = fulcrumref01_tenth.e (fulcrumref01_tenth.L4 k) a0 a1 := by kernel_rfl
theorem fulcrumref01_tenth.F_eq (a0 : (List Int)) (a1 : Int) : fulcrumref01_tenth.F (a0, a1, ()) = limF fulcrumref01_tenth.spec fulcrumref01_tenth.cals T Try.f63 (a0, a1, ()) := by kernel_rfl
theorem fulcrumref01_tenth.of (k : Nat) (a0 : (List Int)) (a1 : Int) {y : (List Int) × Int × Unit} (h : fulcrumref01_tenth.e (fulcrumref01_tenth.L4 k) a0 a1 = some y) : fulcrumref01_tenth.F (a0, a1, ()) = some y := (fulcrumref01_tenth.F_eq a0 a1).trans (limF_of (q := fulcrumref01_tenth.spec) (C := fulcrumref01_tenth.cals) (T := T) (f := Try.f63) (x := (a0, a1, ())) (y := y) k ((fulcrumref01_tenth.eval k a0 a1).trans h))

/-! ### fulcrum/fulcrumref01.Text -/
def fulcrumref01_Text.spec : Spec := ⟨[(false, (.sl 27 (.int .u32))), (false, (.int .i64))], [(false, .str), (false, (.int .i64))], .own, fun j => match j with | 5 => [(0, .lf (.o 27 (.int .u32) true)), (1, .lf (.v false)), (6, .lf (.o 5 (.int .u8) true))] | 13 => [(6, .lf (.o 5 (.int .u8) true)), (8, .lf (.o 5 (.int .u8) true)), (9, .lf (.v true))] | _ => []⟩
noncomputable def fulcrumref01_Text.cals : Cals := (Cals.cons 22 fulcrumref01_Norm.sig (Cals.cons 63 fulcrumref01_tenth.sig Cals.nil))
noncomputable def fulcrumref01_Text.sig : Sig := fulcrumref01_Text.spec.sig fulcrumref01_Text.cals T Try.f33
noncomputable def fulcrumref01_Text.F (x : (List Int) × Int × Unit) : Option (ByteArray × Int × Unit) := limF fulcrumref01_Text.spec fulcrumref01_Text.cals T Try.f33 x
theorem fulcrumref01_Text.ck : CalsOk Try.prog fulcrumref01_Text.cals := (CalsOk.cons fulcrumref01_Norm.cal (CalsOk.cons fulcrumref01_tenth.cal CalsOk.nil))
theorem fulcrumref01_Text.cal : CalOk Try.prog 33 fulcrumref01_Text.sig := calOk_lim' tabOk fulcrumref01_Text.ck mix Try.func33 (by kernel_rfl) (by kernel_rfl) (by kernel_rfl) (by kernel_rfl)
def fulcrumref01_Text.m5 (x0 : (List Int)) (x1 : Int) (x6 : (List Int)) : S := ⟨[(0, .one (.lf (.own 0))), (1, .one (.lf (.val false (.int .i64) x1))), (6, .one (.lf (.own 1)))], ⟨[some ⟨27, (.int .u32), true, true, x0⟩, some ⟨5, (.int .u8), true, true, x6⟩], []⟩⟩
def fulcrumref01_Text.m13 (x6 : (List Int)) (x8 : (List Int)) (x9 : Int) : S := ⟨[(6, .one (.lf (.own 0))), (8, .one (.lf (.own 1))), (9, .one (.lf (.val true (.int .i64) x9)))], ⟨[some ⟨5, (.int .u8), true, true, x6⟩, some ⟨5, (.int .u8), true, true, x8⟩], []⟩⟩
noncomputable def fulcrumref01_Text.b5 (f5 : (List Int) → Int → (List Int) → Option (ByteArray × Int × Unit)) (f13 : (List Int) → (List Int) → Int → Option (ByteArray × Int × Unit)) (x0 : (List Int)) (x1 : Int) (x6 : (List Int)) : Option (ByteArray × Int × Unit) :=
  let v1 := (List.length x0 : Int)
  let v2 := decide (v1 > (0 : Int))
  bif v2 then ((fulcrumref01_tenth.F (x0, x1, ())).bind fun y3 =>
  bif decide (0 ≤ y3.2.1) && decide (y3.2.1 < (ByteArray.size (⟨#[48, 49, 50, 51, 52, 53, 54, 55, 56, 57, 97, 98, 99, 100, 101, 102]⟩ : ByteArray) : Int)) then (let v4 := btI (⟨#[48, 49, 50, 51, 52, 53, 54, 55, 56, 57, 97, 98, 99, 100, 101, 102]⟩ : ByteArray) y3.2.1
  let v5 := ([v4] : List Int)
  bif decide (List.length x6 + List.length v5 < 140737488355328) then (let v6 := List.append x6 v5
  f5 y3.1 x1 v6)
  else none)
  else none)
  else (let v7 := (List.length x6 : Int)
  let v8 := (v7 == (0 : Int))
  bif v8 then (some ((⟨#[48]⟩ : ByteArray), (0 : Int), ()))
  else (let v9 := (List.length x6 : Int)
  bif decide (0 ≤ v9) && (decide (v9 ≤ v9) && (decide (Int.toNat v9 * 1 ≤ 281474976710656) && Nat.blt 0 1)) then (let v10 := List.replicate (Int.toNat v9) (0 : Int)
  f13 x6 v10 (0 : Int))
  else none))
noncomputable def fulcrumref01_Text.b13 (f5 : (List Int) → Int → (List Int) → Option (ByteArray × Int × Unit)) (f13 : (List Int) → (List Int) → Int → Option (ByteArray × Int × Unit)) (x6 : (List Int)) (x8 : (List Int)) (x9 : Int) : Option (ByteArray × Int × Unit) :=
  let v1 := (List.length x6 : Int)
  let v2 := decide (x9 < v1)
  bif v2 then (let v3 := (List.length x6 : Int)
  let v4 := IntKind.i64.wrap (v3 - (1 : Int))
  let v5 := IntKind.i64.wrap (v4 - x9)
  bif decide (0 ≤ x9) && decide (x9 < (List.length x6 : Int)) then (let v6 := List.getD x6 (Int.toNat x9) (0 : Int)
  bif decide (0 ≤ v5) && decide (v5 < (List.length x8 : Int)) then (let v7 := List.set x8 (Int.toNat v5) v6
  let v8 := IntKind.i64.wrap (x9 + (1 : Int))
  f13 x6 v7 v8)
  else none)
  else none)
  else (let v9 := strOfNums x8
  some (v9, (0 : Int), ()))
noncomputable def fulcrumref01_Text.e (f5 : (List Int) → Int → (List Int) → Option (ByteArray × Int × Unit)) (f13 : (List Int) → (List Int) → Int → Option (ByteArray × Int × Unit)) (a0 : (List Int)) (a1 : Int) : Option (ByteArray × Int × Unit) :=
  let v1 := decide (a1 < (2 : Int))
  bif v1 then (some ((⟨#[]⟩ : ByteArray), (14 : Int), ()))
  else (let v2 := decide (a1 > (16 : Int))
  bif v2 then (some ((⟨#[]⟩ : ByteArray), (14 : Int), ()))
  else ((fulcrumref01_Norm.F (a0, ())).bind fun y3 =>
  let v4 := ([] : List Int)
  f5 y3.1 a1 v4))
noncomputable def fulcrumref01_Text.L5 (k : Nat) (x0 : (List Int)) (x1 : Int) (x6 : (List Int)) : Option (ByteArray × Int × Unit) := heads (fulcrumref01_Text.spec.env fulcrumref01_Text.cals T Try.f33) (Func.pts Try.f33) k 5 (fulcrumref01_Text.m5 x0 x1 x6)
noncomputable def fulcrumref01_Text.L13 (k : Nat) (x6 : (List Int)) (x8 : (List Int)) (x9 : Int) : Option (ByteArray × Int × Unit) := heads (fulcrumref01_Text.spec.env fulcrumref01_Text.cals T Try.f33) (Func.pts Try.f33) k 13 (fulcrumref01_Text.m13 x6 x8 x9)
theorem fulcrumref01_Text.L5_succ (k : Nat) (x0 : (List Int)) (x1 : Int) (x6 : (List Int)) : fulcrumref01_Text.L5 (k + 1) x0 x1 x6 = fulcrumref01_Text.b5 (fulcrumref01_Text.L5 k) (fulcrumref01_Text.L13 k) x0 x1 x6 := by kernel_rfl
theorem fulcrumref01_Text.L5_zero (x0 : (List Int)) (x1 : Int) (x6 : (List Int)) : fulcrumref01_Text.L5 0 x0 x1 x6 = none := by kernel_rfl
theorem fulcrumref01_Text.L13_succ (k : Nat) (x6 : (List Int)) (x8 : (List Int)) (x9 : Int) : fulcrumref01_Text.L13 (k + 1) x6 x8 x9 = fulcrumref01_Text.b13 (fulcrumref01_Text.L5 k) (fulcrumref01_Text.L13 k) x6 x8 x9 := by kernel_rfl
theorem fulcrumref01_Text.L13_zero (x6 : (List Int)) (x8 : (List Int)) (x9 : Int) : fulcrumref01_Text.L13 0 x6 x8 x9 = none := by kernel_rfl
theorem fulcrumref01_Text.eval (k : Nat) (a0 : (List Int)) (a1 : Int) : evalF fulcrumref01_Text.spec fulcrumref01_Text.cals T Try.f33 k (a0, a1, ()) = fulcrumref01_Text.e (fulcrumref01_Text.L5 k) (fulcrumref01_Text.L13 k) a0 a1 := by kernel_rfl
theorem fulcrumref01_Text.F_eq (a0 : (List Int)) (a1 : Int) : fulcrumref01_Text.F (a0, a1, ()) = limF fulcrumref01_Text.spec fulcrumref01_Text.cals T Try.f33 (a0, a1, ()) := by kernel_rfl
theorem fulcrumref01_Text.of (k : Nat) (a0 : (List Int)) (a1 : Int) {y : ByteArray × Int × Unit} (h : fulcrumref01_Text.e (fulcrumref01_Text.L5 k) (fulcrumref01_Text.L13 k) a0 a1 = some y) : fulcrumref01_Text.F (a0, a1, ()) = some y := (fulcrumref01_Text.F_eq a0 a1).trans (limF_of (q := fulcrumref01_Text.spec) (C := fulcrumref01_Text.cals) (T := T) (f := Try.f33) (x := (a0, a1, ())) (y := y) k ((fulcrumref01_Text.eval k a0 a1).trans h))

/-! ### fulcrum/fulcrumlaw01.NatTexts -/
def fulcrumlaw01_NatTexts.spec : Spec := ⟨[(false, (.sl 27 (.int .u32))), (false, (.int .i64))], [(false, .bool)], .own, fun j => match j with  | _ => []⟩
noncomputable def fulcrumlaw01_NatTexts.cals : Cals := (Cals.cons 21 fulcrumlaw01_twin.sig (Cals.cons 32 nat_Text.sig (Cals.cons 33 fulcrumref01_Text.sig Cals.nil)))
noncomputable def fulcrumlaw01_NatTexts.sig : Sig := fulcrumlaw01_NatTexts.spec.sig fulcrumlaw01_NatTexts.cals T Try.f7
noncomputable def fulcrumlaw01_NatTexts.F (x : (List Int) × Int × Unit) : Option (Bool × Unit) := limF fulcrumlaw01_NatTexts.spec fulcrumlaw01_NatTexts.cals T Try.f7 x
theorem fulcrumlaw01_NatTexts.ck : CalsOk Try.prog fulcrumlaw01_NatTexts.cals := (CalsOk.cons fulcrumlaw01_twin.cal (CalsOk.cons nat_Text.cal (CalsOk.cons fulcrumref01_Text.cal CalsOk.nil)))
theorem fulcrumlaw01_NatTexts.cal : CalOk Try.prog 7 fulcrumlaw01_NatTexts.sig := calOk_lim' tabOk fulcrumlaw01_NatTexts.ck mix Try.func7 (by kernel_rfl) (by kernel_rfl) (by kernel_rfl) (by kernel_rfl)
noncomputable def fulcrumlaw01_NatTexts.e  (a0 : (List Int)) (a1 : Int) : Option (Bool × Unit) :=
  let v1 := (List.length a0 : Int)
  let v2 := decide (v1 ≥ (67108864 : Int))
  bif v2 then ((fulcrumlaw01_twin.F (([] : List Int), ())).bind fun y3 =>
  (nat_Text.F (y3.1, a1, ())).bind fun y4 =>
  (fulcrumref01_Text.F (([] : List Int), a1, ())).bind fun y5 =>
  let v6 := (!(y4.1.toList == y5.1.toList))
  bif v6 then (some (false, ()))
  else (let v7 := (y4.2.1 != y5.2.1)
  bif v7 then (some (false, ()))
  else (let v8 := ([(0 : Int), (1 : Int)] : List Int)
  (nat_Text.F (v8, (10 : Int), ())).bind fun y9 =>
  let v10 := (y9.1.toList == (⟨#[52, 50, 57, 52, 57, 54, 55, 50, 57, 54]⟩ : ByteArray).toList)
  bif v10 then (let v11 := (y9.2.1 == (0 : Int))
  some (v11, ()))
  else (some (false, ())))))
  else ((fulcrumlaw01_twin.F (a0, ())).bind fun y12 =>
  (nat_Text.F (y12.1, a1, ())).bind fun y13 =>
  (fulcrumref01_Text.F (a0, a1, ())).bind fun y14 =>
  let v15 := (!(y13.1.toList == y14.1.toList))
  bif v15 then (some (false, ()))
  else (let v16 := (y13.2.1 != y14.2.1)
  bif v16 then (some (false, ()))
  else (let v17 := ([(0 : Int), (1 : Int)] : List Int)
  (nat_Text.F (v17, (10 : Int), ())).bind fun y18 =>
  let v19 := (y18.1.toList == (⟨#[52, 50, 57, 52, 57, 54, 55, 50, 57, 54]⟩ : ByteArray).toList)
  bif v19 then (let v20 := (y18.2.1 == (0 : Int))
  some (v20, ()))
  else (some (false, ())))))
theorem fulcrumlaw01_NatTexts.eval (k : Nat) (a0 : (List Int)) (a1 : Int) : evalF fulcrumlaw01_NatTexts.spec fulcrumlaw01_NatTexts.cals T Try.f7 k (a0, a1, ()) = fulcrumlaw01_NatTexts.e  a0 a1 := by kernel_rfl
theorem fulcrumlaw01_NatTexts.F_eq (a0 : (List Int)) (a1 : Int) : fulcrumlaw01_NatTexts.F (a0, a1, ()) = limF fulcrumlaw01_NatTexts.spec fulcrumlaw01_NatTexts.cals T Try.f7 (a0, a1, ()) := by kernel_rfl
theorem fulcrumlaw01_NatTexts.of (k : Nat) (a0 : (List Int)) (a1 : Int) {y : Bool × Unit} (h : fulcrumlaw01_NatTexts.e  a0 a1 = some y) : fulcrumlaw01_NatTexts.F (a0, a1, ()) = some y := (fulcrumlaw01_NatTexts.F_eq a0 a1).trans (limF_of (q := fulcrumlaw01_NatTexts.spec) (C := fulcrumlaw01_NatTexts.cals) (T := T) (f := Try.f7) (x := (a0, a1, ())) (y := y) k ((fulcrumlaw01_NatTexts.eval k a0 a1).trans h))

/-! ### fulcrum/nat.Cmp -/
def nat_Cmp.spec : Spec := ⟨[(false, (.sl 27 (.int .u32))), (false, (.sl 27 (.int .u32)))], [(false, (.int .i64))], .own, fun j => match j with | 7 => [(0, .lf (.z 27 (.int .u32) false)), (1, .lf (.z 27 (.int .u32) false)), (5, .lf (.v true))] | _ => []⟩
noncomputable def nat_Cmp.cals : Cals := (Cals.cons 59 nat_trim.sig Cals.nil)
noncomputable def nat_Cmp.sig : Sig := nat_Cmp.spec.sig nat_Cmp.cals T Try.f34
noncomputable def nat_Cmp.F (x : (List Int) × (List Int) × Unit) : Option (Int × Unit) := limF nat_Cmp.spec nat_Cmp.cals T Try.f34 x
theorem nat_Cmp.ck : CalsOk Try.prog nat_Cmp.cals := (CalsOk.cons nat_trim.cal CalsOk.nil)
theorem nat_Cmp.cal : CalOk Try.prog 34 nat_Cmp.sig := calOk_lim' tabOk nat_Cmp.ck mix Try.func34 (by kernel_rfl) (by kernel_rfl) (by kernel_rfl) (by kernel_rfl)
def nat_Cmp.m7 (x0 : (List Int)) (x1 : (List Int)) (x5 : Int) : S := ⟨[(0, .one (.lf (.val false (.sl 27 (.int .u32)) x0))), (1, .one (.lf (.val false (.sl 27 (.int .u32)) x1))), (5, .one (.lf (.val true (.int .i64) x5)))], ⟨[], []⟩⟩
noncomputable def nat_Cmp.b7 (f7 : (List Int) → (List Int) → Int → Option (Int × Unit)) (x0 : (List Int)) (x1 : (List Int)) (x5 : Int) : Option (Int × Unit) :=
  let v1 := decide (x5 ≥ (0 : Int))
  bif v1 then (bif decide (0 ≤ x5) && decide (x5 < (List.length x0 : Int)) then (let v2 := List.getD x0 (Int.toNat x5) (0 : Int)
  bif decide (0 ≤ x5) && decide (x5 < (List.length x1 : Int)) then (let v3 := List.getD x1 (Int.toNat x5) (0 : Int)
  let v4 := (v2 != v3)
  bif v4 then (bif decide (0 ≤ x5) && decide (x5 < (List.length x0 : Int)) then (let v5 := List.getD x0 (Int.toNat x5) (0 : Int)
  bif decide (0 ≤ x5) && decide (x5 < (List.length x1 : Int)) then (let v6 := List.getD x1 (Int.toNat x5) (0 : Int)
  let v7 := decide (v5 < v6)
  bif v7 then (some ((-1 : Int), ()))
  else (some ((1 : Int), ())))
  else none)
  else none)
  else (let v8 := IntKind.i64.wrap (x5 - (1 : Int))
  f7 x0 x1 v8))
  else none)
  else none)
  else (some ((0 : Int), ()))
noncomputable def nat_Cmp.e (f7 : (List Int) → (List Int) → Int → Option (Int × Unit)) (a0 : (List Int)) (a1 : (List Int)) : Option (Int × Unit) :=
  (nat_trim.F (a0, ())).bind fun y1 =>
  (nat_trim.F (a1, ())).bind fun y2 =>
  let v3 := (List.length y1.1 : Int)
  let v4 := (List.length y2.1 : Int)
  let v5 := (v3 != v4)
  bif v5 then (let v6 := (List.length y1.1 : Int)
  let v7 := (List.length y2.1 : Int)
  let v8 := decide (v6 < v7)
  bif v8 then (some ((-1 : Int), ()))
  else (some ((1 : Int), ())))
  else (let v9 := (List.length y1.1 : Int)
  let v10 := IntKind.i64.wrap (v9 - (1 : Int))
  f7 y1.1 y2.1 v10)
noncomputable def nat_Cmp.L7 (k : Nat) (x0 : (List Int)) (x1 : (List Int)) (x5 : Int) : Option (Int × Unit) := heads (nat_Cmp.spec.env nat_Cmp.cals T Try.f34) (Func.pts Try.f34) k 7 (nat_Cmp.m7 x0 x1 x5)
theorem nat_Cmp.L7_succ (k : Nat) (x0 : (List Int)) (x1 : (List Int)) (x5 : Int) : nat_Cmp.L7 (k + 1) x0 x1 x5 = nat_Cmp.b7 (nat_Cmp.L7 k) x0 x1 x5 := by kernel_rfl
theorem nat_Cmp.L7_zero (x0 : (List Int)) (x1 : (List Int)) (x5 : Int) : nat_Cmp.L7 0 x0 x1 x5 = none := by kernel_rfl
theorem nat_Cmp.eval (k : Nat) (a0 : (List Int)) (a1 : (List Int)) : evalF nat_Cmp.spec nat_Cmp.cals T Try.f34 k (a0, a1, ()) = nat_Cmp.e (nat_Cmp.L7 k) a0 a1 := by kernel_rfl
theorem nat_Cmp.F_eq (a0 : (List Int)) (a1 : (List Int)) : nat_Cmp.F (a0, a1, ()) = limF nat_Cmp.spec nat_Cmp.cals T Try.f34 (a0, a1, ()) := by kernel_rfl
theorem nat_Cmp.of (k : Nat) (a0 : (List Int)) (a1 : (List Int)) {y : Int × Unit} (h : nat_Cmp.e (nat_Cmp.L7 k) a0 a1 = some y) : nat_Cmp.F (a0, a1, ()) = some y := (nat_Cmp.F_eq a0 a1).trans (limF_of (q := nat_Cmp.spec) (C := nat_Cmp.cals) (T := T) (f := Try.f34) (x := (a0, a1, ())) (y := y) k ((nat_Cmp.eval k a0 a1).trans h))

/-! ### math/bits.Add32 -/
def bits_Add32.spec : Spec := ⟨[(false, (.int .u32)), (false, (.int .u32)), (false, (.int .u32))], [(false, (.int .u32)), (false, (.int .u32))], .own, fun j => match j with  | _ => []⟩
noncomputable def bits_Add32.cals : Cals := Cals.nil
noncomputable def bits_Add32.sig : Sig := bits_Add32.spec.sig bits_Add32.cals T Try.f64
noncomputable def bits_Add32.F (x : Int × Int × Int × Unit) : Option (Int × Int × Unit) := limF bits_Add32.spec bits_Add32.cals T Try.f64 x
theorem bits_Add32.ck : CalsOk Try.prog bits_Add32.cals := CalsOk.nil
theorem bits_Add32.cal : CalOk Try.prog 64 bits_Add32.sig := calOk_lim' tabOk bits_Add32.ck mix Try.func64 (by kernel_rfl) (by kernel_rfl) (by kernel_rfl) (by kernel_rfl)
noncomputable def bits_Add32.e  (a0 : Int) (a1 : Int) (a2 : Int) : Option (Int × Int × Unit) :=
  let v1 := IntKind.u64.wrap a0
  let v2 := IntKind.u64.wrap a1
  let v3 := IntKind.u64.wrap (v1 + v2)
  let v4 := IntKind.u64.wrap a2
  let v5 := IntKind.u64.wrap (v3 + v4)
  let v6 := IntKind.u32.wrap v5
  bif decide ((32 : Int) < 0) then none
  else (let v7 := shrI .u64 v5 (32 : Int)
  let v8 := IntKind.u32.wrap v7
  some (v6, v8, ()))
theorem bits_Add32.eval (k : Nat) (a0 : Int) (a1 : Int) (a2 : Int) : evalF bits_Add32.spec bits_Add32.cals T Try.f64 k (a0, a1, a2, ()) = bits_Add32.e  a0 a1 a2 := by kernel_rfl
theorem bits_Add32.F_eq (a0 : Int) (a1 : Int) (a2 : Int) : bits_Add32.F (a0, a1, a2, ()) = limF bits_Add32.spec bits_Add32.cals T Try.f64 (a0, a1, a2, ()) := by kernel_rfl
theorem bits_Add32.of (k : Nat) (a0 : Int) (a1 : Int) (a2 : Int) {y : Int × Int × Unit} (h : bits_Add32.e  a0 a1 a2 = some y) : bits_Add32.F (a0, a1, a2, ()) = some y := (bits_Add32.F_eq a0 a1 a2).trans (limF_of (q := bits_Add32.spec) (C := bits_Add32.cals) (T := T) (f := Try.f64) (x := (a0, a1, a2, ())) (y := y) k ((bits_Add32.eval k a0 a1 a2).trans h))

/-! ### fulcrum/nat.Add -/
def nat_Add.spec : Spec := ⟨[(false, (.sl 27 (.int .u32))), (false, (.sl 27 (.int .u32)))], [(false, (.sl 27 (.int .u32)))], .own, fun j => match j with | 6 => [(0, .lf (.z 27 (.int .u32) false)), (1, .lf (.z 27 (.int .u32) false)), (5, .lf (.o 27 (.int .u32) true)), (6, .lf (.v true)), (21, .lf (.v true)), (22, .lf (.v true))] | _ => []⟩
noncomputable def nat_Add.cals : Cals := (Cals.cons 64 bits_Add32.sig (Cals.cons 58 nat_own.sig Cals.nil))
noncomputable def nat_Add.sig : Sig := nat_Add.spec.sig nat_Add.cals T Try.f35
noncomputable def nat_Add.F (x : (List Int) × (List Int) × Unit) : Option ((List Int) × Unit) := limF nat_Add.spec nat_Add.cals T Try.f35 x
theorem nat_Add.ck : CalsOk Try.prog nat_Add.cals := (CalsOk.cons bits_Add32.cal (CalsOk.cons nat_own.cal CalsOk.nil))
theorem nat_Add.cal : CalOk Try.prog 35 nat_Add.sig := calOk_lim' tabOk nat_Add.ck mix Try.func35 (by kernel_rfl) (by kernel_rfl) (by kernel_rfl) (by kernel_rfl)
def nat_Add.m6 (x0 : (List Int)) (x1 : (List Int)) (x5 : (List Int)) (x6 : Int) (x21 : Int) (x22 : Int) : S := ⟨[(0, .one (.lf (.val false (.sl 27 (.int .u32)) x0))), (1, .one (.lf (.val false (.sl 27 (.int .u32)) x1))), (5, .one (.lf (.own 0))), (6, .one (.lf (.val true (.int .u32) x6))), (21, .one (.lf (.val true (.int .i64) x21))), (22, .one (.lf (.val true (.int .i64) x22)))], ⟨[some ⟨27, (.int .u32), true, true, x5⟩], []⟩⟩
noncomputable def nat_Add.b6 (f6 : (List Int) → (List Int) → (List Int) → Int → Int → Int → Option ((List Int) × Unit)) (x0 : (List Int)) (x1 : (List Int)) (x5 : (List Int)) (x6 : Int) (x21 : Int) (x22 : Int) : Option ((List Int) × Unit) :=
  let v1 := decide (x22 < x21)
  bif v1 then (let v2 := (List.length x1 : Int)
  let v3 := decide (x22 < v2)
  bif v3 then (bif decide (0 ≤ x22) && decide (x22 < (List.length x1 : Int)) then (let v4 := List.getD x1 (Int.toNat x22) (0 : Int)
  bif decide (0 ≤ x22) && decide (x22 < (List.length x0 : Int)) then (let v5 := List.getD x0 (Int.toNat x22) (0 : Int)
  (bits_Add32.F (v5, v4, x6, ())).bind fun y6 =>
  bif decide (0 ≤ x22) && decide (x22 < (List.length x5 : Int)) then (let v7 := List.set x5 (Int.toNat x22) y6.1
  let v8 := IntKind.i64.wrap (x22 + (1 : Int))
  f6 x0 x1 v7 y6.2.1 x21 v8)
  else none)
  else none)
  else none)
  else (bif decide (0 ≤ x22) && decide (x22 < (List.length x0 : Int)) then (let v9 := List.getD x0 (Int.toNat x22) (0 : Int)
  (bits_Add32.F (v9, (0 : Int), x6, ())).bind fun y10 =>
  bif decide (0 ≤ x22) && decide (x22 < (List.length x5 : Int)) then (let v11 := List.set x5 (Int.toNat x22) y10.1
  let v12 := IntKind.i64.wrap (x22 + (1 : Int))
  f6 x0 x1 v11 y10.2.1 x21 v12)
  else none)
  else none))
  else (let v13 := (List.length x0 : Int)
  bif decide (0 ≤ v13) && decide (v13 < (List.length x5 : Int)) then (let v14 := List.set x5 (Int.toNat v13) x6
  (nat_own.F (v14, ())).bind fun y15 =>
  some (y15.1, ()))
  else none)
noncomputable def nat_Add.e (f6 : (List Int) → (List Int) → (List Int) → Int → Int → Int → Option ((List Int) × Unit)) (a0 : (List Int)) (a1 : (List Int)) : Option ((List Int) × Unit) :=
  let v1 := (List.length a0 : Int)
  let v2 := (List.length a1 : Int)
  let v3 := decide (v1 < v2)
  bif v3 then (let v4 := (List.length a1 : Int)
  let v5 := IntKind.i64.wrap (v4 + (1 : Int))
  bif decide (0 ≤ v5) && (decide (v5 ≤ v5) && (decide (Int.toNat v5 * 4 ≤ 281474976710656) && Nat.blt 0 4)) then (let v6 := List.replicate (Int.toNat v5) (0 : Int)
  let v7 := (List.length a1 : Int)
  f6 a1 a0 v6 (0 : Int) v7 (0 : Int))
  else none)
  else (let v8 := (List.length a0 : Int)
  let v9 := IntKind.i64.wrap (v8 + (1 : Int))
  bif decide (0 ≤ v9) && (decide (v9 ≤ v9) && (decide (Int.toNat v9 * 4 ≤ 281474976710656) && Nat.blt 0 4)) then (let v10 := List.replicate (Int.toNat v9) (0 : Int)
  let v11 := (List.length a0 : Int)
  f6 a0 a1 v10 (0 : Int) v11 (0 : Int))
  else none)
noncomputable def nat_Add.L6 (k : Nat) (x0 : (List Int)) (x1 : (List Int)) (x5 : (List Int)) (x6 : Int) (x21 : Int) (x22 : Int) : Option ((List Int) × Unit) := heads (nat_Add.spec.env nat_Add.cals T Try.f35) (Func.pts Try.f35) k 6 (nat_Add.m6 x0 x1 x5 x6 x21 x22)
theorem nat_Add.L6_succ (k : Nat) (x0 : (List Int)) (x1 : (List Int)) (x5 : (List Int)) (x6 : Int) (x21 : Int) (x22 : Int) : nat_Add.L6 (k + 1) x0 x1 x5 x6 x21 x22 = nat_Add.b6 (nat_Add.L6 k) x0 x1 x5 x6 x21 x22 := by kernel_rfl
theorem nat_Add.L6_zero (x0 : (List Int)) (x1 : (List Int)) (x5 : (List Int)) (x6 : Int) (x21 : Int) (x22 : Int) : nat_Add.L6 0 x0 x1 x5 x6 x21 x22 = none := by kernel_rfl
theorem nat_Add.eval (k : Nat) (a0 : (List Int)) (a1 : (List Int)) : evalF nat_Add.spec nat_Add.cals T Try.f35 k (a0, a1, ()) = nat_Add.e (nat_Add.L6 k) a0 a1 := by kernel_rfl
theorem nat_Add.F_eq (a0 : (List Int)) (a1 : (List Int)) : nat_Add.F (a0, a1, ()) = limF nat_Add.spec nat_Add.cals T Try.f35 (a0, a1, ()) := by kernel_rfl
theorem nat_Add.of (k : Nat) (a0 : (List Int)) (a1 : (List Int)) {y : (List Int) × Unit} (h : nat_Add.e (nat_Add.L6 k) a0 a1 = some y) : nat_Add.F (a0, a1, ()) = some y := (nat_Add.F_eq a0 a1).trans (limF_of (q := nat_Add.spec) (C := nat_Add.cals) (T := T) (f := Try.f35) (x := (a0, a1, ())) (y := y) k ((nat_Add.eval k a0 a1).trans h))

/-! ### fulcrum/fulcrumlaw01.NatOrder -/
def fulcrumlaw01_NatOrder.spec : Spec := ⟨[(false, (.sl 27 (.int .u32))), (false, (.sl 27 (.int .u32))), (false, (.sl 27 (.int .u32)))], [(false, .bool)], .own, fun j => match j with  | _ => []⟩
noncomputable def fulcrumlaw01_NatOrder.cals : Cals := (Cals.cons 34 nat_Cmp.sig (Cals.cons 21 fulcrumlaw01_twin.sig (Cals.cons 22 fulcrumref01_Norm.sig (Cals.cons 18 fulcrumlaw01_same.sig (Cals.cons 35 nat_Add.sig Cals.nil)))))
noncomputable def fulcrumlaw01_NatOrder.sig : Sig := fulcrumlaw01_NatOrder.spec.sig fulcrumlaw01_NatOrder.cals T Try.f8
noncomputable def fulcrumlaw01_NatOrder.F (x : (List Int) × (List Int) × (List Int) × Unit) : Option (Bool × Unit) := limF fulcrumlaw01_NatOrder.spec fulcrumlaw01_NatOrder.cals T Try.f8 x
theorem fulcrumlaw01_NatOrder.ck : CalsOk Try.prog fulcrumlaw01_NatOrder.cals := (CalsOk.cons nat_Cmp.cal (CalsOk.cons fulcrumlaw01_twin.cal (CalsOk.cons fulcrumref01_Norm.cal (CalsOk.cons fulcrumlaw01_same.cal (CalsOk.cons nat_Add.cal CalsOk.nil)))))
theorem fulcrumlaw01_NatOrder.cal : CalOk Try.prog 8 fulcrumlaw01_NatOrder.sig := calOk_lim' tabOk fulcrumlaw01_NatOrder.ck mix Try.func8 (by kernel_rfl) (by kernel_rfl) (by kernel_rfl) (by kernel_rfl)
noncomputable def fulcrumlaw01_NatOrder.e  (a0 : (List Int)) (a1 : (List Int)) (a2 : (List Int)) : Option (Bool × Unit) :=
  let v1 := ([(1 : Int), (0 : Int)] : List Int)
  let v2 := ([(0 : Int), (1 : Int)] : List Int)
  (nat_Cmp.F (v1, v2, ())).bind fun y3 =>
  let v4 := (y3.1 != (-1 : Int))
  bif v4 then (some (false, ()))
  else ((fulcrumlaw01_twin.F (a0, ())).bind fun y5 =>
  (fulcrumlaw01_twin.F (a1, ())).bind fun y6 =>
  (nat_Cmp.F (y5.1, y6.1, ())).bind fun y7 =>
  (fulcrumlaw01_twin.F (a1, ())).bind fun y8 =>
  (fulcrumlaw01_twin.F (a0, ())).bind fun y9 =>
  (nat_Cmp.F (y8.1, y9.1, ())).bind fun y10 =>
  let v11 := negI .i64 y10.1
  let v12 := (y7.1 != v11)
  bif v12 then (some (false, ()))
  else (let v13 := (y7.1 == (0 : Int))
  (fulcrumref01_Norm.F (a0, ())).bind fun y14 =>
  (fulcrumref01_Norm.F (a1, ())).bind fun y15 =>
  (fulcrumlaw01_same.F (y14.1, y15.1, ())).bind fun y16 =>
  let v17 := (!(v13 == y16.1))
  bif v17 then (some (false, ()))
  else ((fulcrumlaw01_twin.F (a1, ())).bind fun y18 =>
  (fulcrumlaw01_twin.F (a2, ())).bind fun y19 =>
  (nat_Cmp.F (y18.1, y19.1, ())).bind fun y20 =>
  let v21 := (y7.1 == y20.1)
  bif v21 then ((fulcrumlaw01_twin.F (a0, ())).bind fun y22 =>
  (fulcrumlaw01_twin.F (a2, ())).bind fun y23 =>
  (nat_Cmp.F (y22.1, y23.1, ())).bind fun y24 =>
  let v25 := (y24.1 != y7.1)
  bif v25 then (some (false, ()))
  else ((fulcrumlaw01_twin.F (a0, ())).bind fun y26 =>
  (fulcrumlaw01_twin.F (a2, ())).bind fun y27 =>
  (nat_Add.F (y26.1, y27.1, ())).bind fun y28 =>
  (fulcrumlaw01_twin.F (a1, ())).bind fun y29 =>
  (fulcrumlaw01_twin.F (a2, ())).bind fun y30 =>
  (nat_Add.F (y29.1, y30.1, ())).bind fun y31 =>
  (nat_Cmp.F (y28.1, y31.1, ())).bind fun y32 =>
  let v33 := (y32.1 == y7.1)
  some (v33, ())))
  else ((fulcrumlaw01_twin.F (a0, ())).bind fun y34 =>
  (fulcrumlaw01_twin.F (a2, ())).bind fun y35 =>
  (nat_Add.F (y34.1, y35.1, ())).bind fun y36 =>
  (fulcrumlaw01_twin.F (a1, ())).bind fun y37 =>
  (fulcrumlaw01_twin.F (a2, ())).bind fun y38 =>
  (nat_Add.F (y37.1, y38.1, ())).bind fun y39 =>
  (nat_Cmp.F (y36.1, y39.1, ())).bind fun y40 =>
  let v41 := (y40.1 == y7.1)
  some (v41, ())))))
theorem fulcrumlaw01_NatOrder.eval (k : Nat) (a0 : (List Int)) (a1 : (List Int)) (a2 : (List Int)) : evalF fulcrumlaw01_NatOrder.spec fulcrumlaw01_NatOrder.cals T Try.f8 k (a0, a1, a2, ()) = fulcrumlaw01_NatOrder.e  a0 a1 a2 := by kernel_rfl
theorem fulcrumlaw01_NatOrder.F_eq (a0 : (List Int)) (a1 : (List Int)) (a2 : (List Int)) : fulcrumlaw01_NatOrder.F (a0, a1, a2, ()) = limF fulcrumlaw01_NatOrder.spec fulcrumlaw01_NatOrder.cals T Try.f8 (a0, a1, a2, ()) := by kernel_rfl
theorem fulcrumlaw01_NatOrder.of (k : Nat) (a0 : (List Int)) (a1 : (List Int)) (a2 : (List Int)) {y : Bool × Unit} (h : fulcrumlaw01_NatOrder.e  a0 a1 a2 = some y) : fulcrumlaw01_NatOrder.F (a0, a1, a2, ()) = some y := (fulcrumlaw01_NatOrder.F_eq a0 a1 a2).trans (limF_of (q := fulcrumlaw01_NatOrder.spec) (C := fulcrumlaw01_NatOrder.cals) (T := T) (f := Try.f8) (x := (a0, a1, a2, ())) (y := y) k ((fulcrumlaw01_NatOrder.eval k a0 a1 a2).trans h))

/-! ### fulcrum/fulcrumref01.at -/
def fulcrumref01_at.spec : Spec := ⟨[(false, (.sl 27 (.int .u32))), (false, (.int .i64))], [(false, (.int .u64))], .own, fun j => match j with  | _ => []⟩
noncomputable def fulcrumref01_at.cals : Cals := Cals.nil
noncomputable def fulcrumref01_at.sig : Sig := fulcrumref01_at.spec.sig fulcrumref01_at.cals T Try.f65
noncomputable def fulcrumref01_at.F (x : (List Int) × Int × Unit) : Option (Int × Unit) := limF fulcrumref01_at.spec fulcrumref01_at.cals T Try.f65 x
theorem fulcrumref01_at.ck : CalsOk Try.prog fulcrumref01_at.cals := CalsOk.nil
theorem fulcrumref01_at.cal : CalOk Try.prog 65 fulcrumref01_at.sig := calOk_lim' tabOk fulcrumref01_at.ck mix Try.func65 (by kernel_rfl) (by kernel_rfl) (by kernel_rfl) (by kernel_rfl)
noncomputable def fulcrumref01_at.e  (a0 : (List Int)) (a1 : Int) : Option (Int × Unit) :=
  let v1 := (List.length a0 : Int)
  let v2 := decide (a1 ≥ v1)
  bif v2 then (some ((0 : Int), ()))
  else (bif decide (0 ≤ a1) && decide (a1 < (List.length a0 : Int)) then (let v3 := List.getD a0 (Int.toNat a1) (0 : Int)
  let v4 := IntKind.u64.wrap v3
  some (v4, ()))
  else none)
theorem fulcrumref01_at.eval (k : Nat) (a0 : (List Int)) (a1 : Int) : evalF fulcrumref01_at.spec fulcrumref01_at.cals T Try.f65 k (a0, a1, ()) = fulcrumref01_at.e  a0 a1 := by kernel_rfl
theorem fulcrumref01_at.F_eq (a0 : (List Int)) (a1 : Int) : fulcrumref01_at.F (a0, a1, ()) = limF fulcrumref01_at.spec fulcrumref01_at.cals T Try.f65 (a0, a1, ()) := by kernel_rfl
theorem fulcrumref01_at.of (k : Nat) (a0 : (List Int)) (a1 : Int) {y : Int × Unit} (h : fulcrumref01_at.e  a0 a1 = some y) : fulcrumref01_at.F (a0, a1, ()) = some y := (fulcrumref01_at.F_eq a0 a1).trans (limF_of (q := fulcrumref01_at.spec) (C := fulcrumref01_at.cals) (T := T) (f := Try.f65) (x := (a0, a1, ())) (y := y) k ((fulcrumref01_at.eval k a0 a1).trans h))

/-! ### fulcrum/fulcrumref01.Cmp -/
def fulcrumref01_Cmp.spec : Spec := ⟨[(false, (.sl 27 (.int .u32))), (false, (.sl 27 (.int .u32)))], [(false, (.int .i64))], .own, fun j => match j with | 5 => [(0, .lf (.z 27 (.int .u32) false)), (1, .lf (.z 27 (.int .u32) false)), (6, .lf (.v true))] | _ => []⟩
noncomputable def fulcrumref01_Cmp.cals : Cals := (Cals.cons 65 fulcrumref01_at.sig Cals.nil)
noncomputable def fulcrumref01_Cmp.sig : Sig := fulcrumref01_Cmp.spec.sig fulcrumref01_Cmp.cals T Try.f36
noncomputable def fulcrumref01_Cmp.F (x : (List Int) × (List Int) × Unit) : Option (Int × Unit) := limF fulcrumref01_Cmp.spec fulcrumref01_Cmp.cals T Try.f36 x
theorem fulcrumref01_Cmp.ck : CalsOk Try.prog fulcrumref01_Cmp.cals := (CalsOk.cons fulcrumref01_at.cal CalsOk.nil)
theorem fulcrumref01_Cmp.cal : CalOk Try.prog 36 fulcrumref01_Cmp.sig := calOk_lim' tabOk fulcrumref01_Cmp.ck mix Try.func36 (by kernel_rfl) (by kernel_rfl) (by kernel_rfl) (by kernel_rfl)
def fulcrumref01_Cmp.m5 (x0 : (List Int)) (x1 : (List Int)) (x6 : Int) : S := ⟨[(0, .one (.lf (.val false (.sl 27 (.int .u32)) x0))), (1, .one (.lf (.val false (.sl 27 (.int .u32)) x1))), (6, .one (.lf (.val true (.int .i64) x6)))], ⟨[], []⟩⟩
noncomputable def fulcrumref01_Cmp.b5 (f5 : (List Int) → (List Int) → Int → Option (Int × Unit)) (x0 : (List Int)) (x1 : (List Int)) (x6 : Int) : Option (Int × Unit) :=
  let v1 := decide (x6 ≥ (0 : Int))
  bif v1 then ((fulcrumref01_at.F (x0, x6, ())).bind fun y2 =>
  (fulcrumref01_at.F (x1, x6, ())).bind fun y3 =>
  let v4 := decide (y2.1 < y3.1)
  bif v4 then (some ((-1 : Int), ()))
  else ((fulcrumref01_at.F (x0, x6, ())).bind fun y5 =>
  (fulcrumref01_at.F (x1, x6, ())).bind fun y6 =>
  let v7 := decide (y5.1 > y6.1)
  bif v7 then (some ((1 : Int), ()))
  else (let v8 := IntKind.i64.wrap (x6 - (1 : Int))
  f5 x0 x1 v8)))
  else (some ((0 : Int), ()))
noncomputable def fulcrumref01_Cmp.e (f5 : (List Int) → (List Int) → Int → Option (Int × Unit)) (a0 : (List Int)) (a1 : (List Int)) : Option (Int × Unit) :=
  let v1 := (List.length a0 : Int)
  let v2 := (List.length a1 : Int)
  let v3 := decide (v2 > v1)
  bif v3 then (let v4 := (List.length a1 : Int)
  let v5 := IntKind.i64.wrap (v4 - (1 : Int))
  f5 a0 a1 v5)
  else (let v6 := IntKind.i64.wrap (v1 - (1 : Int))
  f5 a0 a1 v6)
noncomputable def fulcrumref01_Cmp.L5 (k : Nat) (x0 : (List Int)) (x1 : (List Int)) (x6 : Int) : Option (Int × Unit) := heads (fulcrumref01_Cmp.spec.env fulcrumref01_Cmp.cals T Try.f36) (Func.pts Try.f36) k 5 (fulcrumref01_Cmp.m5 x0 x1 x6)
theorem fulcrumref01_Cmp.L5_succ (k : Nat) (x0 : (List Int)) (x1 : (List Int)) (x6 : Int) : fulcrumref01_Cmp.L5 (k + 1) x0 x1 x6 = fulcrumref01_Cmp.b5 (fulcrumref01_Cmp.L5 k) x0 x1 x6 := by kernel_rfl
theorem fulcrumref01_Cmp.L5_zero (x0 : (List Int)) (x1 : (List Int)) (x6 : Int) : fulcrumref01_Cmp.L5 0 x0 x1 x6 = none := by kernel_rfl
theorem fulcrumref01_Cmp.eval (k : Nat) (a0 : (List Int)) (a1 : (List Int)) : evalF fulcrumref01_Cmp.spec fulcrumref01_Cmp.cals T Try.f36 k (a0, a1, ()) = fulcrumref01_Cmp.e (fulcrumref01_Cmp.L5 k) a0 a1 := by kernel_rfl
theorem fulcrumref01_Cmp.F_eq (a0 : (List Int)) (a1 : (List Int)) : fulcrumref01_Cmp.F (a0, a1, ()) = limF fulcrumref01_Cmp.spec fulcrumref01_Cmp.cals T Try.f36 (a0, a1, ()) := by kernel_rfl
theorem fulcrumref01_Cmp.of (k : Nat) (a0 : (List Int)) (a1 : (List Int)) {y : Int × Unit} (h : fulcrumref01_Cmp.e (fulcrumref01_Cmp.L5 k) a0 a1 = some y) : fulcrumref01_Cmp.F (a0, a1, ()) = some y := (fulcrumref01_Cmp.F_eq a0 a1).trans (limF_of (q := fulcrumref01_Cmp.spec) (C := fulcrumref01_Cmp.cals) (T := T) (f := Try.f36) (x := (a0, a1, ())) (y := y) k ((fulcrumref01_Cmp.eval k a0 a1).trans h))

/-! ### fulcrum/fulcrumref01.Add -/
def fulcrumref01_Add.spec : Spec := ⟨[(false, (.sl 27 (.int .u32))), (false, (.sl 27 (.int .u32)))], [(false, (.sl 27 (.int .u32)))], .own, fun j => match j with | 7 => [(0, .lf (.z 27 (.int .u32) false)), (1, .lf (.z 27 (.int .u32) false)), (5, .lf (.v true)), (6, .lf (.o 27 (.int .u32) true)), (7, .lf (.v true)), (8, .lf (.v true))] | _ => []⟩
noncomputable def fulcrumref01_Add.cals : Cals := (Cals.cons 65 fulcrumref01_at.sig (Cals.cons 22 fulcrumref01_Norm.sig Cals.nil))
noncomputable def fulcrumref01_Add.sig : Sig := fulcrumref01_Add.spec.sig fulcrumref01_Add.cals T Try.f37
noncomputable def fulcrumref01_Add.F (x : (List Int) × (List Int) × Unit) : Option ((List Int) × Unit) := limF fulcrumref01_Add.spec fulcrumref01_Add.cals T Try.f37 x
theorem fulcrumref01_Add.ck : CalsOk Try.prog fulcrumref01_Add.cals := (CalsOk.cons fulcrumref01_at.cal (CalsOk.cons fulcrumref01_Norm.cal CalsOk.nil))
theorem fulcrumref01_Add.cal : CalOk Try.prog 37 fulcrumref01_Add.sig := calOk_lim' tabOk fulcrumref01_Add.ck mix Try.func37 (by kernel_rfl) (by kernel_rfl) (by kernel_rfl) (by kernel_rfl)
def fulcrumref01_Add.m7 (x0 : (List Int)) (x1 : (List Int)) (x5 : Int) (x6 : (List Int)) (x7 : Int) (x8 : Int) : S := ⟨[(0, .one (.lf (.val false (.sl 27 (.int .u32)) x0))), (1, .one (.lf (.val false (.sl 27 (.int .u32)) x1))), (5, .one (.lf (.val true (.int .i64) x5))), (6, .one (.lf (.own 0))), (7, .one (.lf (.val true (.int .u64) x7))), (8, .one (.lf (.val true (.int .i64) x8)))], ⟨[some ⟨27, (.int .u32), true, true, x6⟩], []⟩⟩
noncomputable def fulcrumref01_Add.b7 (f7 : (List Int) → (List Int) → Int → (List Int) → Int → Int → Option ((List Int) × Unit)) (x0 : (List Int)) (x1 : (List Int)) (x5 : Int) (x6 : (List Int)) (x7 : Int) (x8 : Int) : Option ((List Int) × Unit) :=
  let v1 := decide (x8 ≤ x5)
  bif v1 then ((fulcrumref01_at.F (x0, x8, ())).bind fun y2 =>
  (fulcrumref01_at.F (x1, x8, ())).bind fun y3 =>
  let v4 := IntKind.u64.wrap (y2.1 + y3.1)
  let v5 := IntKind.u64.wrap (v4 + x7)
  let v6 := IntKind.u32.wrap v5
  bif decide (0 ≤ x8) && decide (x8 < (List.length x6 : Int)) then (let v7 := List.set x6 (Int.toNat x8) v6
  bif decide ((32 : Int) < 0) then none
  else (let v8 := shrI .u64 v5 (32 : Int)
  let v9 := IntKind.i64.wrap (x8 + (1 : Int))
  f7 x0 x1 x5 v7 v8 v9))
  else none)
  else ((fulcrumref01_Norm.F (x6, ())).bind fun y10 =>
  some (y10.1, ()))
noncomputable def fulcrumref01_Add.e (f7 : (List Int) → (List Int) → Int → (List Int) → Int → Int → Option ((List Int) × Unit)) (a0 : (List Int)) (a1 : (List Int)) : Option ((List Int) × Unit) :=
  let v1 := (List.length a0 : Int)
  let v2 := (List.length a1 : Int)
  let v3 := decide (v2 > v1)
  bif v3 then (let v4 := (List.length a1 : Int)
  let v5 := IntKind.i64.wrap (v4 + (1 : Int))
  bif decide (0 ≤ v5) && (decide (v5 ≤ v5) && (decide (Int.toNat v5 * 4 ≤ 281474976710656) && Nat.blt 0 4)) then (let v6 := List.replicate (Int.toNat v5) (0 : Int)
  f7 a0 a1 v4 v6 (0 : Int) (0 : Int))
  else none)
  else (let v7 := IntKind.i64.wrap (v1 + (1 : Int))
  bif decide (0 ≤ v7) && (decide (v7 ≤ v7) && (decide (Int.toNat v7 * 4 ≤ 281474976710656) && Nat.blt 0 4)) then (let v8 := List.replicate (Int.toNat v7) (0 : Int)
  f7 a0 a1 v1 v8 (0 : Int) (0 : Int))
  else none)
noncomputable def fulcrumref01_Add.L7 (k : Nat) (x0 : (List Int)) (x1 : (List Int)) (x5 : Int) (x6 : (List Int)) (x7 : Int) (x8 : Int) : Option ((List Int) × Unit) := heads (fulcrumref01_Add.spec.env fulcrumref01_Add.cals T Try.f37) (Func.pts Try.f37) k 7 (fulcrumref01_Add.m7 x0 x1 x5 x6 x7 x8)
theorem fulcrumref01_Add.L7_succ (k : Nat) (x0 : (List Int)) (x1 : (List Int)) (x5 : Int) (x6 : (List Int)) (x7 : Int) (x8 : Int) : fulcrumref01_Add.L7 (k + 1) x0 x1 x5 x6 x7 x8 = fulcrumref01_Add.b7 (fulcrumref01_Add.L7 k) x0 x1 x5 x6 x7 x8 := by kernel_rfl
theorem fulcrumref01_Add.L7_zero (x0 : (List Int)) (x1 : (List Int)) (x5 : Int) (x6 : (List Int)) (x7 : Int) (x8 : Int) : fulcrumref01_Add.L7 0 x0 x1 x5 x6 x7 x8 = none := by kernel_rfl
theorem fulcrumref01_Add.eval (k : Nat) (a0 : (List Int)) (a1 : (List Int)) : evalF fulcrumref01_Add.spec fulcrumref01_Add.cals T Try.f37 k (a0, a1, ()) = fulcrumref01_Add.e (fulcrumref01_Add.L7 k) a0 a1 := by kernel_rfl
theorem fulcrumref01_Add.F_eq (a0 : (List Int)) (a1 : (List Int)) : fulcrumref01_Add.F (a0, a1, ()) = limF fulcrumref01_Add.spec fulcrumref01_Add.cals T Try.f37 (a0, a1, ()) := by kernel_rfl
theorem fulcrumref01_Add.of (k : Nat) (a0 : (List Int)) (a1 : (List Int)) {y : (List Int) × Unit} (h : fulcrumref01_Add.e (fulcrumref01_Add.L7 k) a0 a1 = some y) : fulcrumref01_Add.F (a0, a1, ()) = some y := (fulcrumref01_Add.F_eq a0 a1).trans (limF_of (q := fulcrumref01_Add.spec) (C := fulcrumref01_Add.cals) (T := T) (f := Try.f37) (x := (a0, a1, ())) (y := y) k ((fulcrumref01_Add.eval k a0 a1).trans h))

/-! ### math/bits.Sub32 -/
def bits_Sub32.spec : Spec := ⟨[(false, (.int .u32)), (false, (.int .u32)), (false, (.int .u32))], [(false, (.int .u32)), (false, (.int .u32))], .own, fun j => match j with  | _ => []⟩
noncomputable def bits_Sub32.cals : Cals := Cals.nil
noncomputable def bits_Sub32.sig : Sig := bits_Sub32.spec.sig bits_Sub32.cals T Try.f66
noncomputable def bits_Sub32.F (x : Int × Int × Int × Unit) : Option (Int × Int × Unit) := limF bits_Sub32.spec bits_Sub32.cals T Try.f66 x
theorem bits_Sub32.ck : CalsOk Try.prog bits_Sub32.cals := CalsOk.nil
theorem bits_Sub32.cal : CalOk Try.prog 66 bits_Sub32.sig := calOk_lim' tabOk bits_Sub32.ck mix Try.func66 (by kernel_rfl) (by kernel_rfl) (by kernel_rfl) (by kernel_rfl)
noncomputable def bits_Sub32.e  (a0 : Int) (a1 : Int) (a2 : Int) : Option (Int × Int × Unit) :=
  let v1 := IntKind.u32.wrap (a0 - a1)
  let v2 := IntKind.u32.wrap (v1 - a2)
  let v3 := bitsOp .xor .u32 (if IntKind.u32.signed then -1 else IntKind.u32.max) a0
  let v4 := bitsOp .and .u32 v3 a1
  let v5 := bitsOp .xor .u32 a0 a1
  let v6 := bitsOp .xor .u32 (if IntKind.u32.signed then -1 else IntKind.u32.max) v5
  let v7 := bitsOp .and .u32 v6 v2
  let v8 := bitsOp .or .u32 v4 v7
  bif decide ((31 : Int) < 0) then none
  else (let v9 := shrI .u32 v8 (31 : Int)
  some (v2, v9, ()))
theorem bits_Sub32.eval (k : Nat) (a0 : Int) (a1 : Int) (a2 : Int) : evalF bits_Sub32.spec bits_Sub32.cals T Try.f66 k (a0, a1, a2, ()) = bits_Sub32.e  a0 a1 a2 := by kernel_rfl
theorem bits_Sub32.F_eq (a0 : Int) (a1 : Int) (a2 : Int) : bits_Sub32.F (a0, a1, a2, ()) = limF bits_Sub32.spec bits_Sub32.cals T Try.f66 (a0, a1, a2, ()) := by kernel_rfl
theorem bits_Sub32.of (k : Nat) (a0 : Int) (a1 : Int) (a2 : Int) {y : Int × Int × Unit} (h : bits_Sub32.e  a0 a1 a2 = some y) : bits_Sub32.F (a0, a1, a2, ()) = some y := (bits_Sub32.F_eq a0 a1 a2).trans (limF_of (q := bits_Sub32.spec) (C := bits_Sub32.cals) (T := T) (f := Try.f66) (x := (a0, a1, a2, ())) (y := y) k ((bits_Sub32.eval k a0 a1 a2).trans h))

/-! ### fulcrum/nat.Sub -/
def nat_Sub.spec : Spec := ⟨[(false, (.sl 27 (.int .u32))), (false, (.sl 27 (.int .u32)))], [(false, (.sl 27 (.int .u32))), (false, (.int .i64))], .own, fun j => match j with | 7 => [(0, .lf (.z 27 (.int .u32) false)), (1, .lf (.z 27 (.int .u32) false)), (6, .lf (.o 27 (.int .u32) true)), (7, .lf (.v true)), (20, .lf (.v true)), (21, .lf (.v true))] | _ => []⟩
noncomputable def nat_Sub.cals : Cals := (Cals.cons 34 nat_Cmp.sig (Cals.cons 59 nat_trim.sig (Cals.cons 66 bits_Sub32.sig (Cals.cons 58 nat_own.sig Cals.nil))))
noncomputable def nat_Sub.sig : Sig := nat_Sub.spec.sig nat_Sub.cals T Try.f38
noncomputable def nat_Sub.F (x : (List Int) × (List Int) × Unit) : Option ((List Int) × Int × Unit) := limF nat_Sub.spec nat_Sub.cals T Try.f38 x
theorem nat_Sub.ck : CalsOk Try.prog nat_Sub.cals := (CalsOk.cons nat_Cmp.cal (CalsOk.cons nat_trim.cal (CalsOk.cons bits_Sub32.cal (CalsOk.cons nat_own.cal CalsOk.nil))))
theorem nat_Sub.cal : CalOk Try.prog 38 nat_Sub.sig := calOk_lim' tabOk nat_Sub.ck mix Try.func38 (by kernel_rfl) (by kernel_rfl) (by kernel_rfl) (by kernel_rfl)
def nat_Sub.m7 (x0 : (List Int)) (x1 : (List Int)) (x6 : (List Int)) (x7 : Int) (x20 : Int) (x21 : Int) : S := ⟨[(0, .one (.lf (.val false (.sl 27 (.int .u32)) x0))), (1, .one (.lf (.val false (.sl 27 (.int .u32)) x1))), (6, .one (.lf (.own 0))), (7, .one (.lf (.val true (.int .u32) x7))), (20, .one (.lf (.val true (.int .i64) x20))), (21, .one (.lf (.val true (.int .i64) x21)))], ⟨[some ⟨27, (.int .u32), true, true, x6⟩], []⟩⟩
noncomputable def nat_Sub.b7 (f7 : (List Int) → (List Int) → (List Int) → Int → Int → Int → Option ((List Int) × Int × Unit)) (x0 : (List Int)) (x1 : (List Int)) (x6 : (List Int)) (x7 : Int) (x20 : Int) (x21 : Int) : Option ((List Int) × Int × Unit) :=
  let v1 := decide (x21 < x20)
  bif v1 then (let v2 := (List.length x1 : Int)
  let v3 := decide (x21 < v2)
  bif v3 then (bif decide (0 ≤ x21) && decide (x21 < (List.length x1 : Int)) then (let v4 := List.getD x1 (Int.toNat x21) (0 : Int)
  bif decide (0 ≤ x21) && decide (x21 < (List.length x0 : Int)) then (let v5 := List.getD x0 (Int.toNat x21) (0 : Int)
  (bits_Sub32.F (v5, v4, x7, ())).bind fun y6 =>
  bif decide (0 ≤ x21) && decide (x21 < (List.length x6 : Int)) then (let v7 := List.set x6 (Int.toNat x21) y6.1
  let v8 := IntKind.i64.wrap (x21 + (1 : Int))
  f7 x0 x1 v7 y6.2.1 x20 v8)
  else none)
  else none)
  else none)
  else (bif decide (0 ≤ x21) && decide (x21 < (List.length x0 : Int)) then (let v9 := List.getD x0 (Int.toNat x21) (0 : Int)
  (bits_Sub32.F (v9, (0 : Int), x7, ())).bind fun y10 =>
  bif decide (0 ≤ x21) && decide (x21 < (List.length x6 : Int)) then (let v11 := List.set x6 (Int.toNat x21) y10.1
  let v12 := IntKind.i64.wrap (x21 + (1 : Int))
  f7 x0 x1 v11 y10.2.1 x20 v12)
  else none)
  else none))
  else ((nat_own.F (x6, ())).bind fun y13 =>
  some (y13.1, (0 : Int), ()))
noncomputable def nat_Sub.e (f7 : (List Int) → (List Int) → (List Int) → Int → Int → Int → Option ((List Int) × Int × Unit)) (a0 : (List Int)) (a1 : (List Int)) : Option ((List Int) × Int × Unit) :=
  (nat_Cmp.F (a0, a1, ())).bind fun y1 =>
  let v2 := decide (y1.1 < (0 : Int))
  bif v2 then (some (([] : List Int), (10 : Int), ()))
  else ((nat_trim.F (a1, ())).bind fun y3 =>
  let v4 := (List.length a0 : Int)
  bif decide (0 ≤ v4) && (decide (v4 ≤ v4) && (decide (Int.toNat v4 * 4 ≤ 281474976710656) && Nat.blt 0 4)) then (let v5 := List.replicate (Int.toNat v4) (0 : Int)
  let v6 := (List.length a0 : Int)
  f7 a0 y3.1 v5 (0 : Int) v6 (0 : Int))
  else none)
noncomputable def nat_Sub.L7 (k : Nat) (x0 : (List Int)) (x1 : (List Int)) (x6 : (List Int)) (x7 : Int) (x20 : Int) (x21 : Int) : Option ((List Int) × Int × Unit) := heads (nat_Sub.spec.env nat_Sub.cals T Try.f38) (Func.pts Try.f38) k 7 (nat_Sub.m7 x0 x1 x6 x7 x20 x21)
theorem nat_Sub.L7_succ (k : Nat) (x0 : (List Int)) (x1 : (List Int)) (x6 : (List Int)) (x7 : Int) (x20 : Int) (x21 : Int) : nat_Sub.L7 (k + 1) x0 x1 x6 x7 x20 x21 = nat_Sub.b7 (nat_Sub.L7 k) x0 x1 x6 x7 x20 x21 := by kernel_rfl
theorem nat_Sub.L7_zero (x0 : (List Int)) (x1 : (List Int)) (x6 : (List Int)) (x7 : Int) (x20 : Int) (x21 : Int) : nat_Sub.L7 0 x0 x1 x6 x7 x20 x21 = none := by kernel_rfl
theorem nat_Sub.eval (k : Nat) (a0 : (List Int)) (a1 : (List Int)) : evalF nat_Sub.spec nat_Sub.cals T Try.f38 k (a0, a1, ()) = nat_Sub.e (nat_Sub.L7 k) a0 a1 := by kernel_rfl
theorem nat_Sub.F_eq (a0 : (List Int)) (a1 : (List Int)) : nat_Sub.F (a0, a1, ()) = limF nat_Sub.spec nat_Sub.cals T Try.f38 (a0, a1, ()) := by kernel_rfl
theorem nat_Sub.of (k : Nat) (a0 : (List Int)) (a1 : (List Int)) {y : (List Int) × Int × Unit} (h : nat_Sub.e (nat_Sub.L7 k) a0 a1 = some y) : nat_Sub.F (a0, a1, ()) = some y := (nat_Sub.F_eq a0 a1).trans (limF_of (q := nat_Sub.spec) (C := nat_Sub.cals) (T := T) (f := Try.f38) (x := (a0, a1, ())) (y := y) k ((nat_Sub.eval k a0 a1).trans h))

/-! ### fulcrum/fulcrumref01.Sub -/
def fulcrumref01_Sub.spec : Spec := ⟨[(false, (.sl 27 (.int .u32))), (false, (.sl 27 (.int .u32)))], [(false, (.sl 27 (.int .u32))), (false, (.int .i64))], .own, fun j => match j with | 6 => [(0, .lf (.z 27 (.int .u32) false)), (1, .lf (.z 27 (.int .u32) false)), (6, .lf (.o 27 (.int .u32) true)), (7, .lf (.v true)), (8, .lf (.v true))] | _ => []⟩
noncomputable def fulcrumref01_Sub.cals : Cals := (Cals.cons 36 fulcrumref01_Cmp.sig (Cals.cons 65 fulcrumref01_at.sig (Cals.cons 22 fulcrumref01_Norm.sig Cals.nil)))
noncomputable def fulcrumref01_Sub.sig : Sig := fulcrumref01_Sub.spec.sig fulcrumref01_Sub.cals T Try.f39
noncomputable def fulcrumref01_Sub.F (x : (List Int) × (List Int) × Unit) : Option ((List Int) × Int × Unit) := limF fulcrumref01_Sub.spec fulcrumref01_Sub.cals T Try.f39 x
theorem fulcrumref01_Sub.ck : CalsOk Try.prog fulcrumref01_Sub.cals := (CalsOk.cons fulcrumref01_Cmp.cal (CalsOk.cons fulcrumref01_at.cal (CalsOk.cons fulcrumref01_Norm.cal CalsOk.nil)))
theorem fulcrumref01_Sub.cal : CalOk Try.prog 39 fulcrumref01_Sub.sig := calOk_lim' tabOk fulcrumref01_Sub.ck mix Try.func39 (by kernel_rfl) (by kernel_rfl) (by kernel_rfl) (by kernel_rfl)
def fulcrumref01_Sub.m6 (x0 : (List Int)) (x1 : (List Int)) (x6 : (List Int)) (x7 : Int) (x8 : Int) : S := ⟨[(0, .one (.lf (.val false (.sl 27 (.int .u32)) x0))), (1, .one (.lf (.val false (.sl 27 (.int .u32)) x1))), (6, .one (.lf (.own 0))), (7, .one (.lf (.val true (.int .u64) x7))), (8, .one (.lf (.val true (.int .i64) x8)))], ⟨[some ⟨27, (.int .u32), true, true, x6⟩], []⟩⟩
noncomputable def fulcrumref01_Sub.b6 (f6 : (List Int) → (List Int) → (List Int) → Int → Int → Option ((List Int) × Int × Unit)) (x0 : (List Int)) (x1 : (List Int)) (x6 : (List Int)) (x7 : Int) (x8 : Int) : Option ((List Int) × Int × Unit) :=
  let v1 := (List.length x0 : Int)
  let v2 := decide (x8 < v1)
  bif v2 then ((fulcrumref01_at.F (x0, x8, ())).bind fun y3 =>
  (fulcrumref01_at.F (x1, x8, ())).bind fun y4 =>
  let v5 := IntKind.u64.wrap (y3.1 - y4.1)
  let v6 := IntKind.u64.wrap (v5 - x7)
  let v7 := IntKind.u32.wrap v6
  bif decide (0 ≤ x8) && decide (x8 < (List.length x6 : Int)) then (let v8 := List.set x6 (Int.toNat x8) v7
  bif decide ((63 : Int) < 0) then none
  else (let v9 := shrI .u64 v6 (63 : Int)
  let v10 := IntKind.i64.wrap (x8 + (1 : Int))
  f6 x0 x1 v8 v9 v10))
  else none)
  else ((fulcrumref01_Norm.F (x6, ())).bind fun y11 =>
  some (y11.1, (0 : Int), ()))
noncomputable def fulcrumref01_Sub.e (f6 : (List Int) → (List Int) → (List Int) → Int → Int → Option ((List Int) × Int × Unit)) (a0 : (List Int)) (a1 : (List Int)) : Option ((List Int) × Int × Unit) :=
  (fulcrumref01_Cmp.F (a0, a1, ())).bind fun y1 =>
  let v2 := decide (y1.1 < (0 : Int))
  bif v2 then (some (([] : List Int), (10 : Int), ()))
  else (let v3 := (List.length a0 : Int)
  bif decide (0 ≤ v3) && (decide (v3 ≤ v3) && (decide (Int.toNat v3 * 4 ≤ 281474976710656) && Nat.blt 0 4)) then (let v4 := List.replicate (Int.toNat v3) (0 : Int)
  f6 a0 a1 v4 (0 : Int) (0 : Int))
  else none)
noncomputable def fulcrumref01_Sub.L6 (k : Nat) (x0 : (List Int)) (x1 : (List Int)) (x6 : (List Int)) (x7 : Int) (x8 : Int) : Option ((List Int) × Int × Unit) := heads (fulcrumref01_Sub.spec.env fulcrumref01_Sub.cals T Try.f39) (Func.pts Try.f39) k 6 (fulcrumref01_Sub.m6 x0 x1 x6 x7 x8)
theorem fulcrumref01_Sub.L6_succ (k : Nat) (x0 : (List Int)) (x1 : (List Int)) (x6 : (List Int)) (x7 : Int) (x8 : Int) : fulcrumref01_Sub.L6 (k + 1) x0 x1 x6 x7 x8 = fulcrumref01_Sub.b6 (fulcrumref01_Sub.L6 k) x0 x1 x6 x7 x8 := by kernel_rfl
theorem fulcrumref01_Sub.L6_zero (x0 : (List Int)) (x1 : (List Int)) (x6 : (List Int)) (x7 : Int) (x8 : Int) : fulcrumref01_Sub.L6 0 x0 x1 x6 x7 x8 = none := by kernel_rfl
theorem fulcrumref01_Sub.eval (k : Nat) (a0 : (List Int)) (a1 : (List Int)) : evalF fulcrumref01_Sub.spec fulcrumref01_Sub.cals T Try.f39 k (a0, a1, ()) = fulcrumref01_Sub.e (fulcrumref01_Sub.L6 k) a0 a1 := by kernel_rfl
theorem fulcrumref01_Sub.F_eq (a0 : (List Int)) (a1 : (List Int)) : fulcrumref01_Sub.F (a0, a1, ()) = limF fulcrumref01_Sub.spec fulcrumref01_Sub.cals T Try.f39 (a0, a1, ()) := by kernel_rfl
theorem fulcrumref01_Sub.of (k : Nat) (a0 : (List Int)) (a1 : (List Int)) {y : (List Int) × Int × Unit} (h : fulcrumref01_Sub.e (fulcrumref01_Sub.L6 k) a0 a1 = some y) : fulcrumref01_Sub.F (a0, a1, ()) = some y := (fulcrumref01_Sub.F_eq a0 a1).trans (limF_of (q := fulcrumref01_Sub.spec) (C := fulcrumref01_Sub.cals) (T := T) (f := Try.f39) (x := (a0, a1, ())) (y := y) k ((fulcrumref01_Sub.eval k a0 a1).trans h))

/-! ### fulcrum/fulcrumlaw01.NatSums -/
def fulcrumlaw01_NatSums.spec : Spec := ⟨[(false, (.sl 27 (.int .u32))), (false, (.sl 27 (.int .u32)))], [(false, .bool)], .own, fun j => match j with  | _ => []⟩
noncomputable def fulcrumlaw01_NatSums.cals : Cals := (Cals.cons 21 fulcrumlaw01_twin.sig (Cals.cons 34 nat_Cmp.sig (Cals.cons 36 fulcrumref01_Cmp.sig (Cals.cons 35 nat_Add.sig (Cals.cons 37 fulcrumref01_Add.sig (Cals.cons 18 fulcrumlaw01_same.sig (Cals.cons 38 nat_Sub.sig (Cals.cons 39 fulcrumref01_Sub.sig Cals.nil))))))))
noncomputable def fulcrumlaw01_NatSums.sig : Sig := fulcrumlaw01_NatSums.spec.sig fulcrumlaw01_NatSums.cals T Try.f9
noncomputable def fulcrumlaw01_NatSums.F (x : (List Int) × (List Int) × Unit) : Option (Bool × Unit) := limF fulcrumlaw01_NatSums.spec fulcrumlaw01_NatSums.cals T Try.f9 x
theorem fulcrumlaw01_NatSums.ck : CalsOk Try.prog fulcrumlaw01_NatSums.cals := (CalsOk.cons fulcrumlaw01_twin.cal (CalsOk.cons nat_Cmp.cal (CalsOk.cons fulcrumref01_Cmp.cal (CalsOk.cons nat_Add.cal (CalsOk.cons fulcrumref01_Add.cal (CalsOk.cons fulcrumlaw01_same.cal (CalsOk.cons nat_Sub.cal (CalsOk.cons fulcrumref01_Sub.cal CalsOk.nil))))))))
theorem fulcrumlaw01_NatSums.cal : CalOk Try.prog 9 fulcrumlaw01_NatSums.sig := calOk_lim' tabOk fulcrumlaw01_NatSums.ck mix Try.func9 (by kernel_rfl) (by kernel_rfl) (by kernel_rfl) (by kernel_rfl)
noncomputable def fulcrumlaw01_NatSums.e  (a0 : (List Int)) (a1 : (List Int)) : Option (Bool × Unit) :=
  (fulcrumlaw01_twin.F (a0, ())).bind fun y1 =>
  (fulcrumlaw01_twin.F (a1, ())).bind fun y2 =>
  (nat_Cmp.F (y1.1, y2.1, ())).bind fun y3 =>
  (fulcrumref01_Cmp.F (a0, a1, ())).bind fun y4 =>
  let v5 := (y3.1 != y4.1)
  bif v5 then (some (false, ()))
  else ((fulcrumlaw01_twin.F (a0, ())).bind fun y6 =>
  (fulcrumlaw01_twin.F (a1, ())).bind fun y7 =>
  (nat_Add.F (y6.1, y7.1, ())).bind fun y8 =>
  (fulcrumref01_Add.F (a0, a1, ())).bind fun y9 =>
  (fulcrumlaw01_same.F (y8.1, y9.1, ())).bind fun y10 =>
  let v11 := not y10.1
  bif v11 then (some (false, ()))
  else ((fulcrumlaw01_twin.F (a0, ())).bind fun y12 =>
  (fulcrumlaw01_twin.F (a1, ())).bind fun y13 =>
  (nat_Sub.F (y12.1, y13.1, ())).bind fun y14 =>
  (fulcrumref01_Sub.F (a0, a1, ())).bind fun y15 =>
  let v16 := (y14.2.1 != y15.2.1)
  bif v16 then (some (false, ()))
  else ((fulcrumlaw01_same.F (y14.1, y15.1, ())).bind fun y17 =>
  let v18 := not y17.1
  bif v18 then (some (false, ()))
  else ((fulcrumlaw01_twin.F (a0, ())).bind fun y19 =>
  let v20 := ([(1 : Int)] : List Int)
  (nat_Add.F (y19.1, v20, ())).bind fun y21 =>
  (fulcrumlaw01_twin.F (a0, ())).bind fun y22 =>
  (nat_Sub.F (y21.1, y22.1, ())).bind fun y23 =>
  let v24 := (y23.2.1 == (0 : Int))
  bif v24 then (let v25 := ([(1 : Int)] : List Int)
  (fulcrumlaw01_same.F (y23.1, v25, ())).bind fun y26 =>
  some (y26.1, ()))
  else (some (false, ()))))))
theorem fulcrumlaw01_NatSums.eval (k : Nat) (a0 : (List Int)) (a1 : (List Int)) : evalF fulcrumlaw01_NatSums.spec fulcrumlaw01_NatSums.cals T Try.f9 k (a0, a1, ()) = fulcrumlaw01_NatSums.e  a0 a1 := by kernel_rfl
theorem fulcrumlaw01_NatSums.F_eq (a0 : (List Int)) (a1 : (List Int)) : fulcrumlaw01_NatSums.F (a0, a1, ()) = limF fulcrumlaw01_NatSums.spec fulcrumlaw01_NatSums.cals T Try.f9 (a0, a1, ()) := by kernel_rfl
theorem fulcrumlaw01_NatSums.of (k : Nat) (a0 : (List Int)) (a1 : (List Int)) {y : Bool × Unit} (h : fulcrumlaw01_NatSums.e  a0 a1 = some y) : fulcrumlaw01_NatSums.F (a0, a1, ()) = some y := (fulcrumlaw01_NatSums.F_eq a0 a1).trans (limF_of (q := fulcrumlaw01_NatSums.spec) (C := fulcrumlaw01_NatSums.cals) (T := T) (f := Try.f9) (x := (a0, a1, ())) (y := y) k ((fulcrumlaw01_NatSums.eval k a0 a1).trans h))

/-! ### fulcrum/nat.Mul -/
def nat_Mul.spec : Spec := ⟨[(false, (.sl 27 (.int .u32))), (false, (.sl 27 (.int .u32)))], [(false, (.sl 27 (.int .u32)))], .own, fun j => match j with | 4 => [(0, .lf (.z 27 (.int .u32) false)), (1, .lf (.z 27 (.int .u32) false)), (5, .lf (.o 27 (.int .u32) true)), (21, .lf (.v true)), (22, .lf (.v true))] | 8 => [(0, .lf (.z 27 (.int .u32) false)), (1, .lf (.z 27 (.int .u32) false)), (5, .lf (.o 27 (.int .u32) true)), (6, .lf (.v true)), (7, .lf (.v true)), (21, .lf (.v true)), (22, .lf (.v true)), (26, .lf (.v true)), (27, .lf (.v true))] | _ => []⟩
noncomputable def nat_Mul.cals : Cals := (Cals.cons 59 nat_trim.sig (Cals.cons 58 nat_own.sig Cals.nil))
noncomputable def nat_Mul.sig : Sig := nat_Mul.spec.sig nat_Mul.cals T Try.f40
noncomputable def nat_Mul.F (x : (List Int) × (List Int) × Unit) : Option ((List Int) × Unit) := limF nat_Mul.spec nat_Mul.cals T Try.f40 x
theorem nat_Mul.ck : CalsOk Try.prog nat_Mul.cals := (CalsOk.cons nat_trim.cal (CalsOk.cons nat_own.cal CalsOk.nil))
theorem nat_Mul.cal : CalOk Try.prog 40 nat_Mul.sig := calOk_lim' tabOk nat_Mul.ck mix Try.func40 (by kernel_rfl) (by kernel_rfl) (by kernel_rfl) (by kernel_rfl)
def nat_Mul.m4 (x0 : (List Int)) (x1 : (List Int)) (x5 : (List Int)) (x21 : Int) (x22 : Int) : S := ⟨[(0, .one (.lf (.val false (.sl 27 (.int .u32)) x0))), (1, .one (.lf (.val false (.sl 27 (.int .u32)) x1))), (5, .one (.lf (.own 0))), (21, .one (.lf (.val true (.int .i64) x21))), (22, .one (.lf (.val true (.int .i64) x22)))], ⟨[some ⟨27, (.int .u32), true, true, x5⟩], []⟩⟩
def nat_Mul.m8 (x0 : (List Int)) (x1 : (List Int)) (x5 : (List Int)) (x6 : Int) (x7 : Int) (x21 : Int) (x22 : Int) (x26 : Int) (x27 : Int) : S := ⟨[(0, .one (.lf (.val false (.sl 27 (.int .u32)) x0))), (1, .one (.lf (.val false (.sl 27 (.int .u32)) x1))), (5, .one (.lf (.own 0))), (6, .one (.lf (.val true (.int .i64) x6))), (7, .one (.lf (.val true (.int .u64) x7))), (21, .one (.lf (.val true (.int .i64) x21))), (22, .one (.lf (.val true (.int .i64) x22))), (26, .one (.lf (.val true (.int .i64) x26))), (27, .one (.lf (.val true (.int .i64) x27)))], ⟨[some ⟨27, (.int .u32), true, true, x5⟩], []⟩⟩
noncomputable def nat_Mul.b4 (f4 : (List Int) → (List Int) → (List Int) → Int → Int → Option ((List Int) × Unit)) (f8 : (List Int) → (List Int) → (List Int) → Int → Int → Int → Int → Int → Int → Option ((List Int) × Unit)) (x0 : (List Int)) (x1 : (List Int)) (x5 : (List Int)) (x21 : Int) (x22 : Int) : Option ((List Int) × Unit) :=
  let v1 := decide (x22 < x21)
  bif v1 then (let v2 := (List.length x1 : Int)
  f8 x0 x1 x5 x22 (0 : Int) x21 x22 v2 (0 : Int))
  else ((nat_own.F (x5, ())).bind fun y3 =>
  some (y3.1, ()))
noncomputable def nat_Mul.b8 (f4 : (List Int) → (List Int) → (List Int) → Int → Int → Option ((List Int) × Unit)) (f8 : (List Int) → (List Int) → (List Int) → Int → Int → Int → Int → Int → Int → Option ((List Int) × Unit)) (x0 : (List Int)) (x1 : (List Int)) (x5 : (List Int)) (x6 : Int) (x7 : Int) (x21 : Int) (x22 : Int) (x26 : Int) (x27 : Int) : Option ((List Int) × Unit) :=
  let v1 := decide (x27 < x26)
  bif v1 then (bif decide (0 ≤ x6) && decide (x6 < (List.length x0 : Int)) then (let v2 := List.getD x0 (Int.toNat x6) (0 : Int)
  let v3 := IntKind.u64.wrap v2
  bif decide (0 ≤ x27) && decide (x27 < (List.length x1 : Int)) then (let v4 := List.getD x1 (Int.toNat x27) (0 : Int)
  let v5 := IntKind.u64.wrap v4
  let v6 := IntKind.u64.wrap (v3 * v5)
  let v7 := IntKind.i64.wrap (x6 + x27)
  bif decide (0 ≤ v7) && decide (v7 < (List.length x5 : Int)) then (let v8 := List.getD x5 (Int.toNat v7) (0 : Int)
  let v9 := IntKind.u64.wrap v8
  let v10 := IntKind.u64.wrap (v6 + v9)
  let v11 := IntKind.u64.wrap (v10 + x7)
  let v12 := IntKind.i64.wrap (x6 + x27)
  let v13 := IntKind.u32.wrap v11
  bif decide (0 ≤ v12) && decide (v12 < (List.length x5 : Int)) then (let v14 := List.set x5 (Int.toNat v12) v13
  bif decide ((32 : Int) < 0) then none
  else (let v15 := shrI .u64 v11 (32 : Int)
  let v16 := IntKind.i64.wrap (x27 + (1 : Int))
  f8 x0 x1 v14 x6 v15 x21 x22 x26 v16))
  else none)
  else none)
  else none)
  else none)
  else (let v17 := (List.length x1 : Int)
  let v18 := IntKind.i64.wrap (x6 + v17)
  let v19 := IntKind.u32.wrap x7
  bif decide (0 ≤ v18) && decide (v18 < (List.length x5 : Int)) then (let v20 := List.set x5 (Int.toNat v18) v19
  let v21 := IntKind.i64.wrap (x22 + (1 : Int))
  f4 x0 x1 v20 x21 v21)
  else none)
noncomputable def nat_Mul.e (f4 : (List Int) → (List Int) → (List Int) → Int → Int → Option ((List Int) × Unit)) (f8 : (List Int) → (List Int) → (List Int) → Int → Int → Int → Int → Int → Int → Option ((List Int) × Unit)) (a0 : (List Int)) (a1 : (List Int)) : Option ((List Int) × Unit) :=
  (nat_trim.F (a0, ())).bind fun y1 =>
  (nat_trim.F (a1, ())).bind fun y2 =>
  let v3 := (List.length y1.1 : Int)
  let v4 := (List.length y2.1 : Int)
  let v5 := IntKind.i64.wrap (v3 + v4)
  bif decide (0 ≤ v5) && (decide (v5 ≤ v5) && (decide (Int.toNat v5 * 4 ≤ 281474976710656) && Nat.blt 0 4)) then (let v6 := List.replicate (Int.toNat v5) (0 : Int)
  let v7 := (List.length y1.1 : Int)
  f4 y1.1 y2.1 v6 v7 (0 : Int))
  else none
noncomputable def nat_Mul.L4 (k : Nat) (x0 : (List Int)) (x1 : (List Int)) (x5 : (List Int)) (x21 : Int) (x22 : Int) : Option ((List Int) × Unit) := heads (nat_Mul.spec.env nat_Mul.cals T Try.f40) (Func.pts Try.f40) k 4 (nat_Mul.m4 x0 x1 x5 x21 x22)
noncomputable def nat_Mul.L8 (k : Nat) (x0 : (List Int)) (x1 : (List Int)) (x5 : (List Int)) (x6 : Int) (x7 : Int) (x21 : Int) (x22 : Int) (x26 : Int) (x27 : Int) : Option ((List Int) × Unit) := heads (nat_Mul.spec.env nat_Mul.cals T Try.f40) (Func.pts Try.f40) k 8 (nat_Mul.m8 x0 x1 x5 x6 x7 x21 x22 x26 x27)
theorem nat_Mul.L4_succ (k : Nat) (x0 : (List Int)) (x1 : (List Int)) (x5 : (List Int)) (x21 : Int) (x22 : Int) : nat_Mul.L4 (k + 1) x0 x1 x5 x21 x22 = nat_Mul.b4 (nat_Mul.L4 k) (nat_Mul.L8 k) x0 x1 x5 x21 x22 := by kernel_rfl
theorem nat_Mul.L4_zero (x0 : (List Int)) (x1 : (List Int)) (x5 : (List Int)) (x21 : Int) (x22 : Int) : nat_Mul.L4 0 x0 x1 x5 x21 x22 = none := by kernel_rfl
theorem nat_Mul.L8_succ (k : Nat) (x0 : (List Int)) (x1 : (List Int)) (x5 : (List Int)) (x6 : Int) (x7 : Int) (x21 : Int) (x22 : Int) (x26 : Int) (x27 : Int) : nat_Mul.L8 (k + 1) x0 x1 x5 x6 x7 x21 x22 x26 x27 = nat_Mul.b8 (nat_Mul.L4 k) (nat_Mul.L8 k) x0 x1 x5 x6 x7 x21 x22 x26 x27 := by kernel_rfl
theorem nat_Mul.L8_zero (x0 : (List Int)) (x1 : (List Int)) (x5 : (List Int)) (x6 : Int) (x7 : Int) (x21 : Int) (x22 : Int) (x26 : Int) (x27 : Int) : nat_Mul.L8 0 x0 x1 x5 x6 x7 x21 x22 x26 x27 = none := by kernel_rfl
theorem nat_Mul.eval (k : Nat) (a0 : (List Int)) (a1 : (List Int)) : evalF nat_Mul.spec nat_Mul.cals T Try.f40 k (a0, a1, ()) = nat_Mul.e (nat_Mul.L4 k) (nat_Mul.L8 k) a0 a1 := by kernel_rfl
theorem nat_Mul.F_eq (a0 : (List Int)) (a1 : (List Int)) : nat_Mul.F (a0, a1, ()) = limF nat_Mul.spec nat_Mul.cals T Try.f40 (a0, a1, ()) := by kernel_rfl
theorem nat_Mul.of (k : Nat) (a0 : (List Int)) (a1 : (List Int)) {y : (List Int) × Unit} (h : nat_Mul.e (nat_Mul.L4 k) (nat_Mul.L8 k) a0 a1 = some y) : nat_Mul.F (a0, a1, ()) = some y := (nat_Mul.F_eq a0 a1).trans (limF_of (q := nat_Mul.spec) (C := nat_Mul.cals) (T := T) (f := Try.f40) (x := (a0, a1, ())) (y := y) k ((nat_Mul.eval k a0 a1).trans h))

/-! ### fulcrum/fulcrumlaw01.NatRing -/
def fulcrumlaw01_NatRing.spec : Spec := ⟨[(false, (.sl 27 (.int .u32))), (false, (.sl 27 (.int .u32))), (false, (.sl 27 (.int .u32)))], [(false, .bool)], .own, fun j => match j with  | _ => []⟩
noncomputable def fulcrumlaw01_NatRing.cals : Cals := (Cals.cons 35 nat_Add.sig (Cals.cons 40 nat_Mul.sig (Cals.cons 18 fulcrumlaw01_same.sig (Cals.cons 21 fulcrumlaw01_twin.sig (Cals.cons 38 nat_Sub.sig (Cals.cons 20 nat_Norm.sig Cals.nil))))))
noncomputable def fulcrumlaw01_NatRing.sig : Sig := fulcrumlaw01_NatRing.spec.sig fulcrumlaw01_NatRing.cals T Try.f10
noncomputable def fulcrumlaw01_NatRing.F (x : (List Int) × (List Int) × (List Int) × Unit) : Option (Bool × Unit) := limF fulcrumlaw01_NatRing.spec fulcrumlaw01_NatRing.cals T Try.f10 x
theorem fulcrumlaw01_NatRing.ck : CalsOk Try.prog fulcrumlaw01_NatRing.cals := (CalsOk.cons nat_Add.cal (CalsOk.cons nat_Mul.cal (CalsOk.cons fulcrumlaw01_same.cal (CalsOk.cons fulcrumlaw01_twin.cal (CalsOk.cons nat_Sub.cal (CalsOk.cons nat_Norm.cal CalsOk.nil))))))
theorem fulcrumlaw01_NatRing.cal : CalOk Try.prog 10 fulcrumlaw01_NatRing.sig := calOk_lim' tabOk fulcrumlaw01_NatRing.ck mix Try.func10 (by kernel_rfl) (by kernel_rfl) (by kernel_rfl) (by kernel_rfl)
noncomputable def fulcrumlaw01_NatRing.e  (a0 : (List Int)) (a1 : (List Int)) (a2 : (List Int)) : Option (Bool × Unit) :=
  let v1 := ([(2 : Int)] : List Int)
  let v2 := ([(3 : Int)] : List Int)
  (nat_Add.F (v1, v2, ())).bind fun y3 =>
  let v4 := ([(4 : Int)] : List Int)
  (nat_Mul.F (y3.1, v4, ())).bind fun y5 =>
  let v6 := ([(20 : Int)] : List Int)
  (fulcrumlaw01_same.F (y5.1, v6, ())).bind fun y7 =>
  let v8 := not y7.1
  bif v8 then (some (false, ()))
  else ((fulcrumlaw01_twin.F (a0, ())).bind fun y9 =>
  (fulcrumlaw01_twin.F (a1, ())).bind fun y10 =>
  (nat_Add.F (y9.1, y10.1, ())).bind fun y11 =>
  (fulcrumlaw01_twin.F (a1, ())).bind fun y12 =>
  (fulcrumlaw01_twin.F (a0, ())).bind fun y13 =>
  (nat_Add.F (y12.1, y13.1, ())).bind fun y14 =>
  (fulcrumlaw01_same.F (y11.1, y14.1, ())).bind fun y15 =>
  let v16 := not y15.1
  bif v16 then (some (false, ()))
  else ((fulcrumlaw01_twin.F (a2, ())).bind fun y17 =>
  (nat_Add.F (y11.1, y17.1, ())).bind fun y18 =>
  (fulcrumlaw01_twin.F (a0, ())).bind fun y19 =>
  (fulcrumlaw01_twin.F (a1, ())).bind fun y20 =>
  (fulcrumlaw01_twin.F (a2, ())).bind fun y21 =>
  (nat_Add.F (y20.1, y21.1, ())).bind fun y22 =>
  (nat_Add.F (y19.1, y22.1, ())).bind fun y23 =>
  (fulcrumlaw01_same.F (y18.1, y23.1, ())).bind fun y24 =>
  let v25 := not y24.1
  bif v25 then (some (false, ()))
  else ((fulcrumlaw01_twin.F (a0, ())).bind fun y26 =>
  (fulcrumlaw01_twin.F (a1, ())).bind fun y27 =>
  (nat_Mul.F (y26.1, y27.1, ())).bind fun y28 =>
  (fulcrumlaw01_twin.F (a1, ())).bind fun y29 =>
  (fulcrumlaw01_twin.F (a0, ())).bind fun y30 =>
  (nat_Mul.F (y29.1, y30.1, ())).bind fun y31 =>
  (fulcrumlaw01_same.F (y28.1, y31.1, ())).bind fun y32 =>
  let v33 := not y32.1
  bif v33 then (some (false, ()))
  else ((fulcrumlaw01_twin.F (a2, ())).bind fun y34 =>
  (nat_Mul.F (y28.1, y34.1, ())).bind fun y35 =>
  (fulcrumlaw01_twin.F (a0, ())).bind fun y36 =>
  (fulcrumlaw01_twin.F (a1, ())).bind fun y37 =>
  (fulcrumlaw01_twin.F (a2, ())).bind fun y38 =>
  (nat_Mul.F (y37.1, y38.1, ())).bind fun y39 =>
  (nat_Mul.F (y36.1, y39.1, ())).bind fun y40 =>
  (fulcrumlaw01_same.F (y35.1, y40.1, ())).bind fun y41 =>
  let v42 := not y41.1
  bif v42 then (some (false, ()))
  else ((fulcrumlaw01_twin.F (a2, ())).bind fun y43 =>
  (nat_Mul.F (y11.1, y43.1, ())).bind fun y44 =>
  (fulcrumlaw01_twin.F (a0, ())).bind fun y45 =>
  (fulcrumlaw01_twin.F (a2, ())).bind fun y46 =>
  (nat_Mul.F (y45.1, y46.1, ())).bind fun y47 =>
  (fulcrumlaw01_twin.F (a1, ())).bind fun y48 =>
  (fulcrumlaw01_twin.F (a2, ())).bind fun y49 =>
  (nat_Mul.F (y48.1, y49.1, ())).bind fun y50 =>
  (nat_Add.F (y47.1, y50.1, ())).bind fun y51 =>
  (fulcrumlaw01_same.F (y44.1, y51.1, ())).bind fun y52 =>
  let v53 := not y52.1
  bif v53 then (some (false, ()))
  else ((fulcrumlaw01_twin.F (a1, ())).bind fun y54 =>
  (nat_Sub.F (y11.1, y54.1, ())).bind fun y55 =>
  let v56 := (y55.2.1 == (0 : Int))
  bif v56 then ((fulcrumlaw01_twin.F (a0, ())).bind fun y57 =>
  (nat_Norm.F (y57.1, ())).bind fun y58 =>
  (fulcrumlaw01_same.F (y55.1, y58.1, ())).bind fun y59 =>
  bif y59.1 then ((fulcrumlaw01_twin.F (a0, ())).bind fun y60 =>
  let v61 := ([(1 : Int)] : List Int)
  (nat_Mul.F (y60.1, v61, ())).bind fun y62 =>
  (fulcrumlaw01_twin.F (a0, ())).bind fun y63 =>
  (nat_Norm.F (y63.1, ())).bind fun y64 =>
  (fulcrumlaw01_same.F (y62.1, y64.1, ())).bind fun y65 =>
  some (y65.1, ()))
  else (some (false, ())))
  else (some (false, ()))))))))
theorem fulcrumlaw01_NatRing.eval (k : Nat) (a0 : (List Int)) (a1 : (List Int)) (a2 : (List Int)) : evalF fulcrumlaw01_NatRing.spec fulcrumlaw01_NatRing.cals T Try.f10 k (a0, a1, a2, ()) = fulcrumlaw01_NatRing.e  a0 a1 a2 := by kernel_rfl
theorem fulcrumlaw01_NatRing.F_eq (a0 : (List Int)) (a1 : (List Int)) (a2 : (List Int)) : fulcrumlaw01_NatRing.F (a0, a1, a2, ()) = limF fulcrumlaw01_NatRing.spec fulcrumlaw01_NatRing.cals T Try.f10 (a0, a1, a2, ()) := by kernel_rfl
theorem fulcrumlaw01_NatRing.of (k : Nat) (a0 : (List Int)) (a1 : (List Int)) (a2 : (List Int)) {y : Bool × Unit} (h : fulcrumlaw01_NatRing.e  a0 a1 a2 = some y) : fulcrumlaw01_NatRing.F (a0, a1, a2, ()) = some y := (fulcrumlaw01_NatRing.F_eq a0 a1 a2).trans (limF_of (q := fulcrumlaw01_NatRing.spec) (C := fulcrumlaw01_NatRing.cals) (T := T) (f := Try.f10) (x := (a0, a1, a2, ())) (y := y) k ((fulcrumlaw01_NatRing.eval k a0 a1 a2).trans h))

/-! ### math/bits.LeadingZeros32 -/
def bits_LeadingZeros32.spec : Spec := ⟨[(false, (.int .u32))], [(false, (.int .i64))], .own, fun j => match j with  | _ => []⟩
noncomputable def bits_LeadingZeros32.cals : Cals := (Cals.cons 60 bits_Len32.sig Cals.nil)
noncomputable def bits_LeadingZeros32.sig : Sig := bits_LeadingZeros32.spec.sig bits_LeadingZeros32.cals T Try.f71
noncomputable def bits_LeadingZeros32.F (x : Int × Unit) : Option (Int × Unit) := limF bits_LeadingZeros32.spec bits_LeadingZeros32.cals T Try.f71 x
theorem bits_LeadingZeros32.ck : CalsOk Try.prog bits_LeadingZeros32.cals := (CalsOk.cons bits_Len32.cal CalsOk.nil)
theorem bits_LeadingZeros32.cal : CalOk Try.prog 71 bits_LeadingZeros32.sig := calOk_lim' tabOk bits_LeadingZeros32.ck mix Try.func71 (by kernel_rfl) (by kernel_rfl) (by kernel_rfl) (by kernel_rfl)
noncomputable def bits_LeadingZeros32.e  (a0 : Int) : Option (Int × Unit) :=
  (bits_Len32.F (a0, ())).bind fun y1 =>
  let v2 := IntKind.i64.wrap ((32 : Int) - y1.1)
  some (v2, ())
theorem bits_LeadingZeros32.eval (k : Nat) (a0 : Int) : evalF bits_LeadingZeros32.spec bits_LeadingZeros32.cals T Try.f71 k (a0, ()) = bits_LeadingZeros32.e  a0 := by kernel_rfl
theorem bits_LeadingZeros32.F_eq (a0 : Int) : bits_LeadingZeros32.F (a0, ()) = limF bits_LeadingZeros32.spec bits_LeadingZeros32.cals T Try.f71 (a0, ()) := by kernel_rfl
theorem bits_LeadingZeros32.of (k : Nat) (a0 : Int) {y : Int × Unit} (h : bits_LeadingZeros32.e  a0 = some y) : bits_LeadingZeros32.F (a0, ()) = some y := (bits_LeadingZeros32.F_eq a0).trans (limF_of (q := bits_LeadingZeros32.spec) (C := bits_LeadingZeros32.cals) (T := T) (f := Try.f71) (x := (a0, ())) (y := y) k ((bits_LeadingZeros32.eval k a0).trans h))

/-! ### fulcrum/nat.digit -/
def nat_digit.spec : IoSpec := ⟨27, (.int .u32), [(false, (.sl 27 (.int .u32)))], [(false, (.int .u32))], fun j => match j with | 4 => [(0, .sub true), (1, .lf (.z 27 (.int .u32) false)), (5, .lf (.v true)), (7, .lf (.v true)), (8, .lf (.v true))] | 10 => [(0, .sub true), (1, .lf (.z 27 (.int .u32) false)), (5, .lf (.v true)), (7, .lf (.v true)), (9, .lf (.v true)), (10, .lf (.v true)), (82, .lf (.v true)), (83, .lf (.v true))] | 21 => [(0, .sub true), (1, .lf (.z 27 (.int .u32) false)), (5, .lf (.v true)), (7, .lf (.v true)), (13, .lf (.v true)), (130, .lf (.v true)), (131, .lf (.v true))] | _ => []⟩
noncomputable def nat_digit.cals : Cals := (Cals.cons 66 bits_Sub32.sig (Cals.cons 64 bits_Add32.sig Cals.nil))
noncomputable def nat_digit.sig : IoSig := nat_digit.spec.sig nat_digit.cals T Try.f72
noncomputable def nat_digit.F (zs : List Int) (o n : Nat) (x : (List Int) × Unit) : Option ((Int × Unit) × List Int) := limIO nat_digit.spec nat_digit.cals T Try.f72 zs o n x
theorem nat_digit.ck : CalsOk Try.prog nat_digit.cals := (CalsOk.cons bits_Sub32.cal (CalsOk.cons bits_Add32.cal CalsOk.nil))
theorem nat_digit.cal : IoOk Try.prog 72 nat_digit.sig := io_of' tabOk nat_digit.ck mix Try.func72 (by kernel_rfl) (by kernel_rfl) (by kernel_rfl) (by kernel_rfl)
def nat_digit.m4 (x0 : (List Int)) (x0_o : Nat) (x0_n : Nat) (x0_g : (Nat × Nat)) (x1 : (List Int)) (x5 : Int) (x7 : Int) (x8 : Int) : S := ⟨[(0, .sub 0 x0_o x0_n (some x0_g)), (1, .one (.lf (.val false (.sl 27 (.int .u32)) x1))), (5, .one (.lf (.val true (.int .i64) x5))), (7, .one (.lf (.val true (.int .u64) x7))), (8, .one (.lf (.val true (.int .u64) x8)))], ⟨[some ⟨27, (.int .u32), true, true, x0⟩], []⟩⟩
def nat_digit.m10 (x0 : (List Int)) (x0_o : Nat) (x0_n : Nat) (x0_g : (Nat × Nat)) (x1 : (List Int)) (x5 : Int) (x7 : Int) (x9 : Int) (x10 : Int) (x82 : Int) (x83 : Int) : S := ⟨[(0, .sub 0 x0_o x0_n (some x0_g)), (1, .one (.lf (.val false (.sl 27 (.int .u32)) x1))), (5, .one (.lf (.val true (.int .i64) x5))), (7, .one (.lf (.val true (.int .u64) x7))), (9, .one (.lf (.val true (.int .u32) x9))), (10, .one (.lf (.val true (.int .u64) x10))), (82, .one (.lf (.val true (.int .i64) x82))), (83, .one (.lf (.val true (.int .i64) x83)))], ⟨[some ⟨27, (.int .u32), true, true, x0⟩], []⟩⟩
def nat_digit.m21 (x0 : (List Int)) (x0_o : Nat) (x0_n : Nat) (x0_g : (Nat × Nat)) (x1 : (List Int)) (x5 : Int) (x7 : Int) (x13 : Int) (x130 : Int) (x131 : Int) : S := ⟨[(0, .sub 0 x0_o x0_n (some x0_g)), (1, .one (.lf (.val false (.sl 27 (.int .u32)) x1))), (5, .one (.lf (.val true (.int .i64) x5))), (7, .one (.lf (.val true (.int .u64) x7))), (13, .one (.lf (.val true (.int .u32) x13))), (130, .one (.lf (.val true (.int .i64) x130))), (131, .one (.lf (.val true (.int .i64) x131)))], ⟨[some ⟨27, (.int .u32), true, true, x0⟩], []⟩⟩
noncomputable def nat_digit.b4 (f4 : (List Int) → Nat → Nat → (Nat × Nat) → (List Int) → Int → Int → Int → Option ((Int × Unit) × List Int × (Nat × Nat))) (f10 : (List Int) → Nat → Nat → (Nat × Nat) → (List Int) → Int → Int → Int → Int → Int → Int → Option ((Int × Unit) × List Int × (Nat × Nat))) (f21 : (List Int) → Nat → Nat → (Nat × Nat) → (List Int) → Int → Int → Int → Int → Int → Option ((Int × Unit) × List Int × (Nat × Nat))) (x0 : (List Int)) (x0_o : Nat) (x0_n : Nat) (x0_g : (Nat × Nat)) (x1 : (List Int)) (x5 : Int) (x7 : Int) (x8 : Int) : Option ((Int × Unit) × List Int × (Nat × Nat)) :=
  bif decide ((32 : Int) < 0) then none
  else (let v1 := shrI .u64 x7 (32 : Int)
  let v2 := (v1 != (0 : Int))
  bif v2 then (let v3 := IntKind.u64.wrap (x7 - (1 : Int))
  let v4 := IntKind.i64.wrap (x5 - (1 : Int))
  bif decide (0 ≤ v4) && decide (v4 < (List.length x1 : Int)) then (let v5 := List.getD x1 (Int.toNat v4) (0 : Int)
  let v6 := IntKind.u64.wrap v5
  let v7 := IntKind.u64.wrap (x8 + v6)
  bif decide ((32 : Int) < 0) then none
  else (let v8 := shrI .u64 v7 (32 : Int)
  let v9 := (v8 != (0 : Int))
  bif v9 then (f10 x0 x0_o x0_n x0_g x1 x5 v3 (0 : Int) (0 : Int) x5 (0 : Int))
  else (f4 x0 x0_o x0_n x0_g x1 x5 v3 v7)))
  else none)
  else (let v10 := IntKind.i64.wrap (x5 - (2 : Int))
  bif decide (0 ≤ v10) && decide (v10 < (List.length x1 : Int)) then (let v11 := List.getD x1 (Int.toNat v10) (0 : Int)
  let v12 := IntKind.u64.wrap v11
  let v13 := IntKind.u64.wrap (x7 * v12)
  bif decide ((32 : Int) < 0) then none
  else (let v14 := shlI .u64 x8 (32 : Int)
  let v15 := IntKind.i64.wrap (x5 - (2 : Int))
  bif decide (0 ≤ v15) && decide (v15 < ((x0_n : Nat) : Int)) then (let v16 := List.getD x0 (x0_o + Int.toNat v15) (0 : Int)
  let v17 := IntKind.u64.wrap v16
  let v18 := bitsOp .or .u64 v14 v17
  let v19 := decide (v13 > v18)
  bif v19 then (let v20 := IntKind.u64.wrap (x7 - (1 : Int))
  let v21 := IntKind.i64.wrap (x5 - (1 : Int))
  bif decide (0 ≤ v21) && decide (v21 < (List.length x1 : Int)) then (let v22 := List.getD x1 (Int.toNat v21) (0 : Int)
  let v23 := IntKind.u64.wrap v22
  let v24 := IntKind.u64.wrap (x8 + v23)
  bif decide ((32 : Int) < 0) then none
  else (let v25 := shrI .u64 v24 (32 : Int)
  let v26 := (v25 != (0 : Int))
  bif v26 then (f10 x0 x0_o x0_n x0_g x1 x5 v20 (0 : Int) (0 : Int) x5 (0 : Int))
  else (f4 x0 x0_o x0_n x0_g x1 x5 v20 v24)))
  else none)
  else (f10 x0 x0_o x0_n x0_g x1 x5 x7 (0 : Int) (0 : Int) x5 (0 : Int)))
  else none))
  else none))
noncomputable def nat_digit.b10 (f4 : (List Int) → Nat → Nat → (Nat × Nat) → (List Int) → Int → Int → Int → Option ((Int × Unit) × List Int × (Nat × Nat))) (f10 : (List Int) → Nat → Nat → (Nat × Nat) → (List Int) → Int → Int → Int → Int → Int → Int → Option ((Int × Unit) × List Int × (Nat × Nat))) (f21 : (List Int) → Nat → Nat → (Nat × Nat) → (List Int) → Int → Int → Int → Int → Int → Option ((Int × Unit) × List Int × (Nat × Nat))) (x0 : (List Int)) (x0_o : Nat) (x0_n : Nat) (x0_g : (Nat × Nat)) (x1 : (List Int)) (x5 : Int) (x7 : Int) (x9 : Int) (x10 : Int) (x82 : Int) (x83 : Int) : Option ((Int × Unit) × List Int × (Nat × Nat)) :=
  let v1 := decide (x83 < x82)
  bif v1 then (bif decide (0 ≤ x83) && decide (x83 < (List.length x1 : Int)) then (let v2 := List.getD x1 (Int.toNat x83) (0 : Int)
  let v3 := IntKind.u64.wrap v2
  let v4 := IntKind.u64.wrap (x7 * v3)
  let v5 := IntKind.u64.wrap (v4 + x10)
  bif decide ((32 : Int) < 0) then none
  else (let v6 := shrI .u64 v5 (32 : Int)
  bif decide (0 ≤ x83) && decide (x83 < ((x0_n : Nat) : Int)) then (let v7 := List.getD x0 (x0_o + Int.toNat x83) (0 : Int)
  let v8 := IntKind.u32.wrap v5
  (bits_Sub32.F (v7, v8, x9, ())).bind fun y9 =>
  bif decide (0 ≤ x83) && decide (x83 < ((x0_n : Nat) : Int)) then (let v10 := List.set x0 (x0_o + Int.toNat x83) y9.1
  let v11 := IntKind.i64.wrap (x83 + (1 : Int))
  f10 v10 x0_o x0_n x0_g x1 x5 x7 y9.2.1 v6 x82 v11)
  else none)
  else none))
  else none)
  else (bif decide (0 ≤ x5) && decide (x5 < ((x0_n : Nat) : Int)) then (let v12 := List.getD x0 (x0_o + Int.toNat x5) (0 : Int)
  let v13 := IntKind.u32.wrap x10
  (bits_Sub32.F (v12, v13, x9, ())).bind fun y14 =>
  bif decide (0 ≤ x5) && decide (x5 < ((x0_n : Nat) : Int)) then (let v15 := List.set x0 (x0_o + Int.toNat x5) y14.1
  let v16 := (y14.2.1 == (1 : Int))
  bif v16 then (let v17 := IntKind.u64.wrap (x7 - (1 : Int))
  f21 v15 x0_o x0_n x0_g x1 x5 v17 (0 : Int) x5 (0 : Int))
  else (let v18 := IntKind.u32.wrap x7
  bif Nat.blt 0 x0_n && true then (some ((v18, ()), v15, x0_g))
  else none))
  else none)
  else none)
noncomputable def nat_digit.b21 (f4 : (List Int) → Nat → Nat → (Nat × Nat) → (List Int) → Int → Int → Int → Option ((Int × Unit) × List Int × (Nat × Nat))) (f10 : (List Int) → Nat → Nat → (Nat × Nat) → (List Int) → Int → Int → Int → Int → Int → Int → Option ((Int × Unit) × List Int × (Nat × Nat))) (f21 : (List Int) → Nat → Nat → (Nat × Nat) → (List Int) → Int → Int → Int → Int → Int → Option ((Int × Unit) × List Int × (Nat × Nat))) (x0 : (List Int)) (x0_o : Nat) (x0_n : Nat) (x0_g : (Nat × Nat)) (x1 : (List Int)) (x5 : Int) (x7 : Int) (x13 : Int) (x130 : Int) (x131 : Int) : Option ((Int × Unit) × List Int × (Nat × Nat)) :=
  let v1 := decide (x131 < x130)
  bif v1 then (bif decide (0 ≤ x131) && decide (x131 < ((x0_n : Nat) : Int)) then (let v2 := List.getD x0 (x0_o + Int.toNat x131) (0 : Int)
  bif decide (0 ≤ x131) && decide (x131 < (List.length x1 : Int)) then (let v3 := List.getD x1 (Int.toNat x131) (0 : Int)
  (bits_Add32.F (v2, v3, x13, ())).bind fun y4 =>
  bif decide (0 ≤ x131) && decide (x131 < ((x0_n : Nat) : Int)) then (let v5 := List.set x0 (x0_o + Int.toNat x131) y4.1
  let v6 := IntKind.i64.wrap (x131 + (1 : Int))
  f21 v5 x0_o x0_n x0_g x1 x5 x7 y4.2.1 x130 v6)
  else none)
  else none)
  else none)
  else (bif decide (0 ≤ x5) && decide (x5 < ((x0_n : Nat) : Int)) then (let v7 := List.getD x0 (x0_o + Int.toNat x5) (0 : Int)
  let v8 := IntKind.u32.wrap (v7 + x13)
  bif decide (0 ≤ x5) && decide (x5 < ((x0_n : Nat) : Int)) then (let v9 := List.set x0 (x0_o + Int.toNat x5) v8
  let v10 := IntKind.u32.wrap x7
  bif Nat.blt 0 x0_n && true then (some ((v10, ()), v9, x0_g))
  else none)
  else none)
  else none)
noncomputable def nat_digit.e (f4 : (List Int) → Nat → Nat → (Nat × Nat) → (List Int) → Int → Int → Int → Option ((Int × Unit) × List Int × (Nat × Nat))) (f10 : (List Int) → Nat → Nat → (Nat × Nat) → (List Int) → Int → Int → Int → Int → Int → Int → Option ((Int × Unit) × List Int × (Nat × Nat))) (f21 : (List Int) → Nat → Nat → (Nat × Nat) → (List Int) → Int → Int → Int → Int → Int → Option ((Int × Unit) × List Int × (Nat × Nat))) (zs : List Int) (o n : Nat) (g : Nat × Nat) (a1 : (List Int)) : Option ((Int × Unit) × List Int × (Nat × Nat)) :=
  let v1 := (List.length a1 : Int)
  bif decide (0 ≤ v1) && decide (v1 < ((n : Nat) : Int)) then (let v2 := List.getD zs (o + Int.toNat v1) (0 : Int)
  let v3 := IntKind.u64.wrap v2
  bif decide ((32 : Int) < 0) then none
  else (let v4 := shlI .u64 v3 (32 : Int)
  let v5 := IntKind.i64.wrap (v1 - (1 : Int))
  bif decide (0 ≤ v5) && decide (v5 < ((n : Nat) : Int)) then (let v6 := List.getD zs (o + Int.toNat v5) (0 : Int)
  let v7 := IntKind.u64.wrap v6
  let v8 := bitsOp .or .u64 v4 v7
  let v9 := IntKind.i64.wrap (v1 - (1 : Int))
  bif decide (0 ≤ v9) && decide (v9 < (List.length a1 : Int)) then (let v10 := List.getD a1 (Int.toNat v9) (0 : Int)
  let v11 := IntKind.u64.wrap v10
  bif decide (v11 = 0) then none
  else (let v12 := IntKind.u64.wrap (Int.tdiv v8 v11)
  let v13 := IntKind.i64.wrap (v1 - (1 : Int))
  bif decide (0 ≤ v13) && decide (v13 < (List.length a1 : Int)) then (let v14 := List.getD a1 (Int.toNat v13) (0 : Int)
  let v15 := IntKind.u64.wrap v14
  bif decide (v15 = 0) then none
  else (let v16 := Int.tmod v8 v15
  f4 zs o n g a1 v1 v12 v16))
  else none))
  else none)
  else none))
  else none
noncomputable def nat_digit.L4 (k : Nat) (x0 : (List Int)) (x0_o : Nat) (x0_n : Nat) (x0_g : (Nat × Nat)) (x1 : (List Int)) (x5 : Int) (x7 : Int) (x8 : Int) : Option ((Int × Unit) × List Int × (Nat × Nat)) := heads (nat_digit.spec.env nat_digit.cals T Try.f72) (Func.pts Try.f72) k 4 (nat_digit.m4 x0 x0_o x0_n x0_g x1 x5 x7 x8)
noncomputable def nat_digit.L10 (k : Nat) (x0 : (List Int)) (x0_o : Nat) (x0_n : Nat) (x0_g : (Nat × Nat)) (x1 : (List Int)) (x5 : Int) (x7 : Int) (x9 : Int) (x10 : Int) (x82 : Int) (x83 : Int) : Option ((Int × Unit) × List Int × (Nat × Nat)) := heads (nat_digit.spec.env nat_digit.cals T Try.f72) (Func.pts Try.f72) k 10 (nat_digit.m10 x0 x0_o x0_n x0_g x1 x5 x7 x9 x10 x82 x83)
noncomputable def nat_digit.L21 (k : Nat) (x0 : (List Int)) (x0_o : Nat) (x0_n : Nat) (x0_g : (Nat × Nat)) (x1 : (List Int)) (x5 : Int) (x7 : Int) (x13 : Int) (x130 : Int) (x131 : Int) : Option ((Int × Unit) × List Int × (Nat × Nat)) := heads (nat_digit.spec.env nat_digit.cals T Try.f72) (Func.pts Try.f72) k 21 (nat_digit.m21 x0 x0_o x0_n x0_g x1 x5 x7 x13 x130 x131)
theorem nat_digit.L4_succ (k : Nat) (x0 : (List Int)) (x0_o : Nat) (x0_n : Nat) (x0_g : (Nat × Nat)) (x1 : (List Int)) (x5 : Int) (x7 : Int) (x8 : Int) : nat_digit.L4 (k + 1) x0 x0_o x0_n x0_g x1 x5 x7 x8 = nat_digit.b4 (nat_digit.L4 k) (nat_digit.L10 k) (nat_digit.L21 k) x0 x0_o x0_n x0_g x1 x5 x7 x8 := by kernel_rfl
theorem nat_digit.L4_zero (x0 : (List Int)) (x0_o : Nat) (x0_n : Nat) (x0_g : (Nat × Nat)) (x1 : (List Int)) (x5 : Int) (x7 : Int) (x8 : Int) : nat_digit.L4 0 x0 x0_o x0_n x0_g x1 x5 x7 x8 = none := by kernel_rfl
theorem nat_digit.L10_succ (k : Nat) (x0 : (List Int)) (x0_o : Nat) (x0_n : Nat) (x0_g : (Nat × Nat)) (x1 : (List Int)) (x5 : Int) (x7 : Int) (x9 : Int) (x10 : Int) (x82 : Int) (x83 : Int) : nat_digit.L10 (k + 1) x0 x0_o x0_n x0_g x1 x5 x7 x9 x10 x82 x83 = nat_digit.b10 (nat_digit.L4 k) (nat_digit.L10 k) (nat_digit.L21 k) x0 x0_o x0_n x0_g x1 x5 x7 x9 x10 x82 x83 := by kernel_rfl
theorem nat_digit.L10_zero (x0 : (List Int)) (x0_o : Nat) (x0_n : Nat) (x0_g : (Nat × Nat)) (x1 : (List Int)) (x5 : Int) (x7 : Int) (x9 : Int) (x10 : Int) (x82 : Int) (x83 : Int) : nat_digit.L10 0 x0 x0_o x0_n x0_g x1 x5 x7 x9 x10 x82 x83 = none := by kernel_rfl
theorem nat_digit.L21_succ (k : Nat) (x0 : (List Int)) (x0_o : Nat) (x0_n : Nat) (x0_g : (Nat × Nat)) (x1 : (List Int)) (x5 : Int) (x7 : Int) (x13 : Int) (x130 : Int) (x131 : Int) : nat_digit.L21 (k + 1) x0 x0_o x0_n x0_g x1 x5 x7 x13 x130 x131 = nat_digit.b21 (nat_digit.L4 k) (nat_digit.L10 k) (nat_digit.L21 k) x0 x0_o x0_n x0_g x1 x5 x7 x13 x130 x131 := by kernel_rfl
theorem nat_digit.L21_zero (x0 : (List Int)) (x0_o : Nat) (x0_n : Nat) (x0_g : (Nat × Nat)) (x1 : (List Int)) (x5 : Int) (x7 : Int) (x13 : Int) (x130 : Int) (x131 : Int) : nat_digit.L21 0 x0 x0_o x0_n x0_g x1 x5 x7 x13 x130 x131 = none := by kernel_rfl
theorem nat_digit.eval (k : Nat) (zs : List Int) (o n : Nat) (g : Nat × Nat) (a1 : (List Int)) : evalIO nat_digit.spec nat_digit.cals T Try.f72 k zs o n g (a1, ()) = nat_digit.e (nat_digit.L4 k) (nat_digit.L10 k) (nat_digit.L21 k) zs o n g a1 := by kernel_rfl
theorem nat_digit.of (zs : List Int) (o n : Nat) (a1 : (List Int)) (y : (Int × Unit)) (ws : List Int) (h : ∀ g, ∃ k, nat_digit.e (nat_digit.L4 k) (nat_digit.L10 k) (nat_digit.L21 k) zs o n g a1 = some (y, ws, g)) : nat_digit.F zs o n (a1, ()) = some (y, ws) := limIO_of (q := nat_digit.spec) (C := nat_digit.cals) (T := T) (f := Try.f72) (x := (a1, ())) y ws fun g => (h g).imp fun k hk => (nat_digit.eval k zs o n g a1).trans hk

/-! ### fulcrum/nat.long -/
def nat_long.spec : Spec := ⟨[(false, (.sl 27 (.int .u32))), (false, (.sl 27 (.int .u32)))], [(false, (.sl 27 (.int .u32))), (false, (.sl 27 (.int .u32)))], .own, fun j => match j with | 7 => [(6, .lf (.v true)), (7, .lf (.z 27 (.int .u32) true)), (8, .lf (.o 27 (.int .u32) true)), (9, .lf (.v true)), (10, .lf (.o 27 (.int .u32) true)), (11, .lf (.v true))] | 12 => [(6, .lf (.v true)), (8, .lf (.o 27 (.int .u32) true)), (10, .lf (.o 27 (.int .u32) true)), (12, .lf (.o 27 (.int .u32) true)), (60, .lf (.v true)), (61, .lf (.v true))] | _ => []⟩
noncomputable def nat_long.cals : Cals := (Cals.withSubs [54] (Cals.consIo 72 nat_digit.sig (Cals.cons 71 bits_LeadingZeros32.sig (Cals.cons 61 nat_moved.sig (Cals.cons 58 nat_own.sig Cals.nil)))))
noncomputable def nat_long.sig : Sig := nat_long.spec.sig nat_long.cals T Try.f68
noncomputable def nat_long.F (x : (List Int) × (List Int) × Unit) : Option ((List Int) × (List Int) × Unit) := limF nat_long.spec nat_long.cals T Try.f68 x
theorem nat_long.ck : CalsOk Try.prog nat_long.cals := (CalsOk.withSubs [54] (CalsOk.consIo nat_digit.cal (CalsOk.cons bits_LeadingZeros32.cal (CalsOk.cons nat_moved.cal (CalsOk.cons nat_own.cal CalsOk.nil)))))
theorem nat_long.cal : CalOk Try.prog 68 nat_long.sig := calOk_lim' tabOk nat_long.ck mix Try.func68 (by kernel_rfl) (by kernel_rfl) (by kernel_rfl) (by kernel_rfl)
def nat_long.m7 (x6 : Int) (x7 : (List Int)) (x8 : (List Int)) (x9 : Int) (x10 : (List Int)) (x11 : Int) : S := ⟨[(6, .one (.lf (.val true (.int .i64) x6))), (7, .one (.lf (.val true (.sl 27 (.int .u32)) x7))), (8, .one (.lf (.own 0))), (9, .one (.lf (.val true (.int .i64) x9))), (10, .one (.lf (.own 1))), (11, .one (.lf (.val true (.int .i64) x11)))], ⟨[some ⟨27, (.int .u32), true, true, x8⟩, some ⟨27, (.int .u32), true, true, x10⟩], []⟩⟩
def nat_long.m12 (x6 : Int) (x8 : (List Int)) (x10 : (List Int)) (x12 : (List Int)) (x60 : Int) (x61 : Int) : S := ⟨[(6, .one (.lf (.val true (.int .i64) x6))), (8, .one (.lf (.own 0))), (10, .one (.lf (.own 1))), (12, .one (.lf (.own 2))), (60, .one (.lf (.val true (.int .i64) x60))), (61, .one (.lf (.val true (.int .i64) x61)))], ⟨[some ⟨27, (.int .u32), true, true, x8⟩, some ⟨27, (.int .u32), true, true, x10⟩, some ⟨27, (.int .u32), true, true, x12⟩], []⟩⟩
noncomputable def nat_long.b7 (f7 : Int → (List Int) → (List Int) → Int → (List Int) → Int → Option ((List Int) × (List Int) × Unit)) (f12 : Int → (List Int) → (List Int) → (List Int) → Int → Int → Option ((List Int) × (List Int) × Unit)) (x6 : Int) (x7 : (List Int)) (x8 : (List Int)) (x9 : Int) (x10 : (List Int)) (x11 : Int) : Option ((List Int) × (List Int) × Unit) :=
  let v1 := decide (x11 ≥ (0 : Int))
  bif v1 then (let v2 := IntKind.i64.wrap (x11 + x9)
  let v3 := IntKind.i64.wrap (v2 + (1 : Int))
  bif decide (0 ≤ x11) && (decide (x11 ≤ v3) && decide (v3 ≤ (List.length x8 : Int))) then (bif Nat.blt 0 (Int.toNat (v3 - x11)) && true then ((nat_digit.F x8 (Int.toNat x11) (Int.toNat (v3 - x11)) (x7, ())).bind fun y4 =>
  bif Nat.beq (List.length y4.2) (List.length x8) then (bif decide (0 ≤ x11) && decide (x11 < (List.length x10 : Int)) then (let v5 := List.set x10 (Int.toNat x11) y4.1.1
  let v6 := IntKind.i64.wrap (x11 - (1 : Int))
  f7 x6 x7 y4.2 x9 v5 v6)
  else none)
  else none)
  else none)
  else none)
  else (bif decide (0 ≤ x9) && (decide (x9 ≤ x9) && (decide (Int.toNat x9 * 4 ≤ 281474976710656) && Nat.blt 0 4)) then (let v7 := List.replicate (Int.toNat x9) (0 : Int)
  f12 x6 x8 x10 v7 x9 (0 : Int))
  else none)
noncomputable def nat_long.b12 (f7 : Int → (List Int) → (List Int) → Int → (List Int) → Int → Option ((List Int) × (List Int) × Unit)) (f12 : Int → (List Int) → (List Int) → (List Int) → Int → Int → Option ((List Int) × (List Int) × Unit)) (x6 : Int) (x8 : (List Int)) (x10 : (List Int)) (x12 : (List Int)) (x60 : Int) (x61 : Int) : Option ((List Int) × (List Int) × Unit) :=
  let v1 := decide (x61 < x60)
  bif v1 then (bif decide (0 ≤ x61) && decide (x61 < (List.length x8 : Int)) then (let v2 := List.getD x8 (Int.toNat x61) (0 : Int)
  bif decide (x6 < 0) then none
  else (let v3 := shrI .u32 v2 x6
  let v4 := IntKind.i64.wrap (x61 + (1 : Int))
  bif decide (0 ≤ v4) && decide (v4 < (List.length x8 : Int)) then (let v5 := List.getD x8 (Int.toNat v4) (0 : Int)
  let v6 := IntKind.u64.wrap v5
  let v7 := IntKind.i64.wrap ((32 : Int) - x6)
  bif decide (v7 < 0) then none
  else (let v8 := shlI .u64 v6 v7
  let v9 := IntKind.u32.wrap v8
  let v10 := bitsOp .or .u32 v3 v9
  bif decide (0 ≤ x61) && decide (x61 < (List.length x12 : Int)) then (let v11 := List.set x12 (Int.toNat x61) v10
  let v12 := IntKind.i64.wrap (x61 + (1 : Int))
  f12 x6 x8 x10 v11 x60 v12)
  else none))
  else none))
  else none)
  else ((nat_own.F (x10, ())).bind fun y13 =>
  (nat_own.F (x12, ())).bind fun y14 =>
  some (y13.1, y14.1, ()))
noncomputable def nat_long.e (f7 : Int → (List Int) → (List Int) → Int → (List Int) → Int → Option ((List Int) × (List Int) × Unit)) (f12 : Int → (List Int) → (List Int) → (List Int) → Int → Int → Option ((List Int) × (List Int) × Unit)) (a0 : (List Int)) (a1 : (List Int)) : Option ((List Int) × (List Int) × Unit) :=
  let v1 := (List.length a1 : Int)
  let v2 := IntKind.i64.wrap (v1 - (1 : Int))
  bif decide (0 ≤ v2) && decide (v2 < (List.length a1 : Int)) then (let v3 := List.getD a1 (Int.toNat v2) (0 : Int)
  (bits_LeadingZeros32.F (v3, ())).bind fun y4 =>
  (nat_moved.F (a1, y4.1, ())).bind fun y5 =>
  let v6 := (List.length a1 : Int)
  bif decide (0 ≤ v6) && decide (v6 ≤ (List.length y5.1 : Int)) then (let v7 := List.take (Int.toNat v6) y5.1
  (nat_moved.F (a0, y4.1, ())).bind fun y8 =>
  let v9 := (List.length v7 : Int)
  let v10 := (List.length y8.1 : Int)
  let v11 := IntKind.i64.wrap (v10 - v9)
  bif decide (0 ≤ v11) && (decide (v11 ≤ v11) && (decide (Int.toNat v11 * 4 ≤ 281474976710656) && Nat.blt 0 4)) then (let v12 := List.replicate (Int.toNat v11) (0 : Int)
  let v13 := (List.length y8.1 : Int)
  let v14 := IntKind.i64.wrap (v13 - v9)
  let v15 := IntKind.i64.wrap (v14 - (1 : Int))
  f7 y4.1 v7 y8.1 v9 v12 v15)
  else none)
  else none)
  else none
noncomputable def nat_long.L7 (k : Nat) (x6 : Int) (x7 : (List Int)) (x8 : (List Int)) (x9 : Int) (x10 : (List Int)) (x11 : Int) : Option ((List Int) × (List Int) × Unit) := heads (nat_long.spec.env nat_long.cals T Try.f68) (Func.pts Try.f68) k 7 (nat_long.m7 x6 x7 x8 x9 x10 x11)
noncomputable def nat_long.L12 (k : Nat) (x6 : Int) (x8 : (List Int)) (x10 : (List Int)) (x12 : (List Int)) (x60 : Int) (x61 : Int) : Option ((List Int) × (List Int) × Unit) := heads (nat_long.spec.env nat_long.cals T Try.f68) (Func.pts Try.f68) k 12 (nat_long.m12 x6 x8 x10 x12 x60 x61)
theorem nat_long.L7_succ (k : Nat) (x6 : Int) (x7 : (List Int)) (x8 : (List Int)) (x9 : Int) (x10 : (List Int)) (x11 : Int) : nat_long.L7 (k + 1) x6 x7 x8 x9 x10 x11 = nat_long.b7 (nat_long.L7 k) (nat_long.L12 k) x6 x7 x8 x9 x10 x11 := by kernel_rfl
theorem nat_long.L7_zero (x6 : Int) (x7 : (List Int)) (x8 : (List Int)) (x9 : Int) (x10 : (List Int)) (x11 : Int) : nat_long.L7 0 x6 x7 x8 x9 x10 x11 = none := by kernel_rfl
theorem nat_long.L12_succ (k : Nat) (x6 : Int) (x8 : (List Int)) (x10 : (List Int)) (x12 : (List Int)) (x60 : Int) (x61 : Int) : nat_long.L12 (k + 1) x6 x8 x10 x12 x60 x61 = nat_long.b12 (nat_long.L7 k) (nat_long.L12 k) x6 x8 x10 x12 x60 x61 := by kernel_rfl
theorem nat_long.L12_zero (x6 : Int) (x8 : (List Int)) (x10 : (List Int)) (x12 : (List Int)) (x60 : Int) (x61 : Int) : nat_long.L12 0 x6 x8 x10 x12 x60 x61 = none := by kernel_rfl
theorem nat_long.eval (k : Nat) (a0 : (List Int)) (a1 : (List Int)) : evalF nat_long.spec nat_long.cals T Try.f68 k (a0, a1, ()) = nat_long.e (nat_long.L7 k) (nat_long.L12 k) a0 a1 := by kernel_rfl
theorem nat_long.F_eq (a0 : (List Int)) (a1 : (List Int)) : nat_long.F (a0, a1, ()) = limF nat_long.spec nat_long.cals T Try.f68 (a0, a1, ()) := by kernel_rfl
theorem nat_long.of (k : Nat) (a0 : (List Int)) (a1 : (List Int)) {y : (List Int) × (List Int) × Unit} (h : nat_long.e (nat_long.L7 k) (nat_long.L12 k) a0 a1 = some y) : nat_long.F (a0, a1, ()) = some y := (nat_long.F_eq a0 a1).trans (limF_of (q := nat_long.spec) (C := nat_long.cals) (T := T) (f := Try.f68) (x := (a0, a1, ())) (y := y) k ((nat_long.eval k a0 a1).trans h))

/-! ### fulcrum/nat.Div -/
def nat_Div.spec : Spec := ⟨[(false, (.sl 27 (.int .u32))), (false, (.sl 27 (.int .u32)))], [(false, (.sl 27 (.int .u32))), (false, (.sl 27 (.int .u32))), (false, (.int .i64))], .own, fun j => match j with  | _ => []⟩
noncomputable def nat_Div.cals : Cals := (Cals.cons 59 nat_trim.sig (Cals.cons 34 nat_Cmp.sig (Cals.cons 58 nat_own.sig (Cals.cons 62 nat_short.sig (Cals.cons 68 nat_long.sig Cals.nil)))))
noncomputable def nat_Div.sig : Sig := nat_Div.spec.sig nat_Div.cals T Try.f44
noncomputable def nat_Div.F (x : (List Int) × (List Int) × Unit) : Option ((List Int) × (List Int) × Int × Unit) := limF nat_Div.spec nat_Div.cals T Try.f44 x
theorem nat_Div.ck : CalsOk Try.prog nat_Div.cals := (CalsOk.cons nat_trim.cal (CalsOk.cons nat_Cmp.cal (CalsOk.cons nat_own.cal (CalsOk.cons nat_short.cal (CalsOk.cons nat_long.cal CalsOk.nil)))))
theorem nat_Div.cal : CalOk Try.prog 44 nat_Div.sig := calOk_lim' tabOk nat_Div.ck mix Try.func44 (by kernel_rfl) (by kernel_rfl) (by kernel_rfl) (by kernel_rfl)
noncomputable def nat_Div.e  (a0 : (List Int)) (a1 : (List Int)) : Option ((List Int) × (List Int) × Int × Unit) :=
  (nat_trim.F (a0, ())).bind fun y1 =>
  (nat_trim.F (a1, ())).bind fun y2 =>
  let v3 := (List.length y2.1 : Int)
  let v4 := (v3 == (0 : Int))
  bif v4 then (some (([] : List Int), ([] : List Int), (11 : Int), ()))
  else ((nat_Cmp.F (y1.1, y2.1, ())).bind fun y5 =>
  let v6 := decide (y5.1 < (0 : Int))
  bif v6 then ((nat_own.F (y1.1, ())).bind fun y7 =>
  some (([] : List Int), y7.1, (0 : Int), ()))
  else (let v8 := (List.length y2.1 : Int)
  let v9 := (v8 == (1 : Int))
  bif v9 then (bif decide (0 ≤ (0 : Int)) && decide ((0 : Int) < (List.length y2.1 : Int)) then (let v10 := List.getD y2.1 (Int.toNat (0 : Int)) (0 : Int)
  (nat_short.F (y1.1, v10, ())).bind fun y11 =>
  (nat_own.F (y11.1, ())).bind fun y12 =>
  let v13 := ([y11.2.1] : List Int)
  (nat_own.F (v13, ())).bind fun y14 =>
  some (y12.1, y14.1, (0 : Int), ()))
  else none)
  else ((nat_long.F (y1.1, y2.1, ())).bind fun y15 =>
  some (y15.1, y15.2.1, (0 : Int), ()))))
theorem nat_Div.eval (k : Nat) (a0 : (List Int)) (a1 : (List Int)) : evalF nat_Div.spec nat_Div.cals T Try.f44 k (a0, a1, ()) = nat_Div.e  a0 a1 := by kernel_rfl
theorem nat_Div.F_eq (a0 : (List Int)) (a1 : (List Int)) : nat_Div.F (a0, a1, ()) = limF nat_Div.spec nat_Div.cals T Try.f44 (a0, a1, ()) := by kernel_rfl
theorem nat_Div.of (k : Nat) (a0 : (List Int)) (a1 : (List Int)) {y : (List Int) × (List Int) × Int × Unit} (h : nat_Div.e  a0 a1 = some y) : nat_Div.F (a0, a1, ()) = some y := (nat_Div.F_eq a0 a1).trans (limF_of (q := nat_Div.spec) (C := nat_Div.cals) (T := T) (f := Try.f44) (x := (a0, a1, ())) (y := y) k ((nat_Div.eval k a0 a1).trans h))

/-! ### fulcrum/nat.Gcd -/
def nat_Gcd.spec : Spec := ⟨[(false, (.sl 27 (.int .u32))), (false, (.sl 27 (.int .u32)))], [(false, (.sl 27 (.int .u32)))], .own, fun j => match j with | 2 => [(0, .lf (.o 27 (.int .u32) true)), (1, .lf (.o 27 (.int .u32) true))] | _ => []⟩
noncomputable def nat_Gcd.cals : Cals := (Cals.cons 58 nat_own.sig (Cals.cons 44 nat_Div.sig Cals.nil))
noncomputable def nat_Gcd.sig : Sig := nat_Gcd.spec.sig nat_Gcd.cals T Try.f41
noncomputable def nat_Gcd.F (x : (List Int) × (List Int) × Unit) : Option ((List Int) × Unit) := limF nat_Gcd.spec nat_Gcd.cals T Try.f41 x
theorem nat_Gcd.ck : CalsOk Try.prog nat_Gcd.cals := (CalsOk.cons nat_own.cal (CalsOk.cons nat_Div.cal CalsOk.nil))
theorem nat_Gcd.cal : CalOk Try.prog 41 nat_Gcd.sig := calOk_lim' tabOk nat_Gcd.ck mix Try.func41 (by kernel_rfl) (by kernel_rfl) (by kernel_rfl) (by kernel_rfl)
def nat_Gcd.m2 (x0 : (List Int)) (x1 : (List Int)) : S := ⟨[(0, .one (.lf (.own 0))), (1, .one (.lf (.own 1)))], ⟨[some ⟨27, (.int .u32), true, true, x0⟩, some ⟨27, (.int .u32), true, true, x1⟩], []⟩⟩
noncomputable def nat_Gcd.b2 (f2 : (List Int) → (List Int) → Option ((List Int) × Unit)) (x0 : (List Int)) (x1 : (List Int)) : Option ((List Int) × Unit) :=
  let v1 := (List.length x1 : Int)
  let v2 := decide (v1 > (0 : Int))
  bif v2 then ((nat_Div.F (x0, x1, ())).bind fun y3 =>
  f2 x1 y3.2.1)
  else (some (x0, ()))
noncomputable def nat_Gcd.e (f2 : (List Int) → (List Int) → Option ((List Int) × Unit)) (a0 : (List Int)) (a1 : (List Int)) : Option ((List Int) × Unit) :=
  (nat_own.F (a0, ())).bind fun y1 =>
  (nat_own.F (a1, ())).bind fun y2 =>
  f2 y1.1 y2.1
noncomputable def nat_Gcd.L2 (k : Nat) (x0 : (List Int)) (x1 : (List Int)) : Option ((List Int) × Unit) := heads (nat_Gcd.spec.env nat_Gcd.cals T Try.f41) (Func.pts Try.f41) k 2 (nat_Gcd.m2 x0 x1)
theorem nat_Gcd.L2_succ (k : Nat) (x0 : (List Int)) (x1 : (List Int)) : nat_Gcd.L2 (k + 1) x0 x1 = nat_Gcd.b2 (nat_Gcd.L2 k) x0 x1 := by kernel_rfl
theorem nat_Gcd.L2_zero (x0 : (List Int)) (x1 : (List Int)) : nat_Gcd.L2 0 x0 x1 = none := by kernel_rfl
theorem nat_Gcd.eval (k : Nat) (a0 : (List Int)) (a1 : (List Int)) : evalF nat_Gcd.spec nat_Gcd.cals T Try.f41 k (a0, a1, ()) = nat_Gcd.e (nat_Gcd.L2 k) a0 a1 := by kernel_rfl
theorem nat_Gcd.F_eq (a0 : (List Int)) (a1 : (List Int)) : nat_Gcd.F (a0, a1, ()) = limF nat_Gcd.spec nat_Gcd.cals T Try.f41 (a0, a1, ()) := by kernel_rfl
theorem nat_Gcd.of (k : Nat) (a0 : (List Int)) (a1 : (List Int)) {y : (List Int) × Unit} (h : nat_Gcd.e (nat_Gcd.L2 k) a0 a1 = some y) : nat_Gcd.F (a0, a1, ()) = some y := (nat_Gcd.F_eq a0 a1).trans (limF_of (q := nat_Gcd.spec) (C := nat_Gcd.cals) (T := T) (f := Try.f41) (x := (a0, a1, ())) (y := y) k ((nat_Gcd.eval k a0 a1).trans h))

/-! ### fulcrum/fulcrumref01.twice -/
def fulcrumref01_twice.spec : Spec := ⟨[(false, (.sl 27 (.int .u32))), (false, .bool)], [(false, (.sl 27 (.int .u32)))], .own, fun j => match j with | 6 => [(0, .lf (.z 27 (.int .u32) false)), (5, .lf (.o 27 (.int .u32) true)), (6, .lf (.v true)), (7, .lf (.v true))] | _ => []⟩
noncomputable def fulcrumref01_twice.cals : Cals := (Cals.cons 22 fulcrumref01_Norm.sig Cals.nil)
noncomputable def fulcrumref01_twice.sig : Sig := fulcrumref01_twice.spec.sig fulcrumref01_twice.cals T Try.f67
noncomputable def fulcrumref01_twice.F (x : (List Int) × Bool × Unit) : Option ((List Int) × Unit) := limF fulcrumref01_twice.spec fulcrumref01_twice.cals T Try.f67 x
theorem fulcrumref01_twice.ck : CalsOk Try.prog fulcrumref01_twice.cals := (CalsOk.cons fulcrumref01_Norm.cal CalsOk.nil)
theorem fulcrumref01_twice.cal : CalOk Try.prog 67 fulcrumref01_twice.sig := calOk_lim' tabOk fulcrumref01_twice.ck mix Try.func67 (by kernel_rfl) (by kernel_rfl) (by kernel_rfl) (by kernel_rfl)
def fulcrumref01_twice.m6 (x0 : (List Int)) (x5 : (List Int)) (x6 : Int) (x7 : Int) : S := ⟨[(0, .one (.lf (.val false (.sl 27 (.int .u32)) x0))), (5, .one (.lf (.own 0))), (6, .one (.lf (.val true (.int .u32) x6))), (7, .one (.lf (.val true (.int .i64) x7)))], ⟨[some ⟨27, (.int .u32), true, true, x5⟩], []⟩⟩
noncomputable def fulcrumref01_twice.b6 (f6 : (List Int) → (List Int) → Int → Int → Option ((List Int) × Unit)) (x0 : (List Int)) (x5 : (List Int)) (x6 : Int) (x7 : Int) : Option ((List Int) × Unit) :=
  let v1 := (List.length x0 : Int)
  let v2 := decide (x7 < v1)
  bif v2 then (bif decide (0 ≤ x7) && decide (x7 < (List.length x0 : Int)) then (let v3 := List.getD x0 (Int.toNat x7) (0 : Int)
  bif decide ((1 : Int) < 0) then none
  else (let v4 := shlI .u32 v3 (1 : Int)
  let v5 := bitsOp .or .u32 v4 x6
  bif decide (0 ≤ x7) && decide (x7 < (List.length x5 : Int)) then (let v6 := List.set x5 (Int.toNat x7) v5
  bif decide (0 ≤ x7) && decide (x7 < (List.length x0 : Int)) then (let v7 := List.getD x0 (Int.toNat x7) (0 : Int)
  bif decide ((31 : Int) < 0) then none
  else (let v8 := shrI .u32 v7 (31 : Int)
  let v9 := IntKind.i64.wrap (x7 + (1 : Int))
  f6 x0 v6 v8 v9))
  else none)
  else none))
  else none)
  else (let v10 := (List.length x0 : Int)
  bif decide (0 ≤ v10) && decide (v10 < (List.length x5 : Int)) then (let v11 := List.set x5 (Int.toNat v10) x6
  (fulcrumref01_Norm.F (v11, ())).bind fun y12 =>
  some (y12.1, ()))
  else none)
noncomputable def fulcrumref01_twice.e (f6 : (List Int) → (List Int) → Int → Int → Option ((List Int) × Unit)) (a0 : (List Int)) (a1 : Bool) : Option ((List Int) × Unit) :=
  let v1 := (List.length a0 : Int)
  let v2 := IntKind.i64.wrap (v1 + (1 : Int))
  bif decide (0 ≤ v2) && (decide (v2 ≤ v2) && (decide (Int.toNat v2 * 4 ≤ 281474976710656) && Nat.blt 0 4)) then (let v3 := List.replicate (Int.toNat v2) (0 : Int)
  bif a1 then (f6 a0 v3 (1 : Int) (0 : Int))
  else (f6 a0 v3 (0 : Int) (0 : Int)))
  else none
noncomputable def fulcrumref01_twice.L6 (k : Nat) (x0 : (List Int)) (x5 : (List Int)) (x6 : Int) (x7 : Int) : Option ((List Int) × Unit) := heads (fulcrumref01_twice.spec.env fulcrumref01_twice.cals T Try.f67) (Func.pts Try.f67) k 6 (fulcrumref01_twice.m6 x0 x5 x6 x7)
theorem fulcrumref01_twice.L6_succ (k : Nat) (x0 : (List Int)) (x5 : (List Int)) (x6 : Int) (x7 : Int) : fulcrumref01_twice.L6 (k + 1) x0 x5 x6 x7 = fulcrumref01_twice.b6 (fulcrumref01_twice.L6 k) x0 x5 x6 x7 := by kernel_rfl
theorem fulcrumref01_twice.L6_zero (x0 : (List Int)) (x5 : (List Int)) (x6 : Int) (x7 : Int) : fulcrumref01_twice.L6 0 x0 x5 x6 x7 = none := by kernel_rfl
theorem fulcrumref01_twice.eval (k : Nat) (a0 : (List Int)) (a1 : Bool) : evalF fulcrumref01_twice.spec fulcrumref01_twice.cals T Try.f67 k (a0, a1, ()) = fulcrumref01_twice.e (fulcrumref01_twice.L6 k) a0 a1 := by kernel_rfl
theorem fulcrumref01_twice.F_eq (a0 : (List Int)) (a1 : Bool) : fulcrumref01_twice.F (a0, a1, ()) = limF fulcrumref01_twice.spec fulcrumref01_twice.cals T Try.f67 (a0, a1, ()) := by kernel_rfl
theorem fulcrumref01_twice.of (k : Nat) (a0 : (List Int)) (a1 : Bool) {y : (List Int) × Unit} (h : fulcrumref01_twice.e (fulcrumref01_twice.L6 k) a0 a1 = some y) : fulcrumref01_twice.F (a0, a1, ()) = some y := (fulcrumref01_twice.F_eq a0 a1).trans (limF_of (q := fulcrumref01_twice.spec) (C := fulcrumref01_twice.cals) (T := T) (f := Try.f67) (x := (a0, a1, ())) (y := y) k ((fulcrumref01_twice.eval k a0 a1).trans h))

/-! ### fulcrum/fulcrumref01.Gcd -/
def fulcrumref01_Gcd.spec : Spec := ⟨[(false, (.sl 27 (.int .u32))), (false, (.sl 27 (.int .u32)))], [(false, (.sl 27 (.int .u32)))], .own, fun j => match j with | 11 => [(0, .lf (.o 27 (.int .u32) true)), (1, .lf (.o 27 (.int .u32) true)), (6, .lf (.v true))] | 15 => [(0, .lf (.o 27 (.int .u32) true)), (1, .lf (.o 27 (.int .u32) true)), (6, .lf (.v true))] | 16 => [(0, .lf (.o 27 (.int .u32) true)), (1, .lf (.o 27 (.int .u32) true)), (6, .lf (.v true))] | 18 => [(0, .lf (.o 27 (.int .u32) true)), (1, .lf (.o 27 (.int .u32) true)), (6, .lf (.v true))] | 24 => [(0, .lf (.o 27 (.int .u32) true)), (6, .lf (.v true)), (7, .lf (.v true))] | _ => []⟩
noncomputable def fulcrumref01_Gcd.cals : Cals := (Cals.cons 22 fulcrumref01_Norm.sig (Cals.cons 36 fulcrumref01_Cmp.sig (Cals.cons 29 fulcrumref01_Bit.sig (Cals.cons 31 fulcrumref01_Shift.sig (Cals.cons 39 fulcrumref01_Sub.sig (Cals.cons 67 fulcrumref01_twice.sig Cals.nil))))))
noncomputable def fulcrumref01_Gcd.sig : Sig := fulcrumref01_Gcd.spec.sig fulcrumref01_Gcd.cals T Try.f42
noncomputable def fulcrumref01_Gcd.F (x : (List Int) × (List Int) × Unit) : Option ((List Int) × Unit) := limF fulcrumref01_Gcd.spec fulcrumref01_Gcd.cals T Try.f42 x
theorem fulcrumref01_Gcd.ck : CalsOk Try.prog fulcrumref01_Gcd.cals := (CalsOk.cons fulcrumref01_Norm.cal (CalsOk.cons fulcrumref01_Cmp.cal (CalsOk.cons fulcrumref01_Bit.cal (CalsOk.cons fulcrumref01_Shift.cal (CalsOk.cons fulcrumref01_Sub.cal (CalsOk.cons fulcrumref01_twice.cal CalsOk.nil))))))
theorem fulcrumref01_Gcd.cal : CalOk Try.prog 42 fulcrumref01_Gcd.sig := calOk_lim' tabOk fulcrumref01_Gcd.ck mix Try.func42 (by kernel_rfl) (by kernel_rfl) (by kernel_rfl) (by kernel_rfl)
def fulcrumref01_Gcd.m11 (x0 : (List Int)) (x1 : (List Int)) (x6 : Int) : S := ⟨[(0, .one (.lf (.own 0))), (1, .one (.lf (.own 1))), (6, .one (.lf (.val true (.int .i64) x6)))], ⟨[some ⟨27, (.int .u32), true, true, x0⟩, some ⟨27, (.int .u32), true, true, x1⟩], []⟩⟩
def fulcrumref01_Gcd.m15 (x0 : (List Int)) (x1 : (List Int)) (x6 : Int) : S := ⟨[(0, .one (.lf (.own 0))), (1, .one (.lf (.own 1))), (6, .one (.lf (.val true (.int .i64) x6)))], ⟨[some ⟨27, (.int .u32), true, true, x0⟩, some ⟨27, (.int .u32), true, true, x1⟩], []⟩⟩
def fulcrumref01_Gcd.m16 (x0 : (List Int)) (x1 : (List Int)) (x6 : Int) : S := ⟨[(0, .one (.lf (.own 0))), (1, .one (.lf (.own 1))), (6, .one (.lf (.val true (.int .i64) x6)))], ⟨[some ⟨27, (.int .u32), true, true, x0⟩, some ⟨27, (.int .u32), true, true, x1⟩], []⟩⟩
def fulcrumref01_Gcd.m18 (x0 : (List Int)) (x1 : (List Int)) (x6 : Int) : S := ⟨[(0, .one (.lf (.own 0))), (1, .one (.lf (.own 1))), (6, .one (.lf (.val true (.int .i64) x6)))], ⟨[some ⟨27, (.int .u32), true, true, x0⟩, some ⟨27, (.int .u32), true, true, x1⟩], []⟩⟩
def fulcrumref01_Gcd.m24 (x0 : (List Int)) (x6 : Int) (x7 : Int) : S := ⟨[(0, .one (.lf (.own 0))), (6, .one (.lf (.val true (.int .i64) x6))), (7, .one (.lf (.val true (.int .i64) x7)))], ⟨[some ⟨27, (.int .u32), true, true, x0⟩], []⟩⟩
noncomputable def fulcrumref01_Gcd.b11 (f11 : (List Int) → (List Int) → Int → Option ((List Int) × Unit)) (f15 : (List Int) → (List Int) → Int → Option ((List Int) × Unit)) (f16 : (List Int) → (List Int) → Int → Option ((List Int) × Unit)) (f18 : (List Int) → (List Int) → Int → Option ((List Int) × Unit)) (f24 : (List Int) → Int → Int → Option ((List Int) × Unit)) (x0 : (List Int)) (x1 : (List Int)) (x6 : Int) : Option ((List Int) × Unit) :=
  (fulcrumref01_Bit.F (x0, (0 : Int), ())).bind fun y1 =>
  let v2 := not y1.1
  bif v2 then ((fulcrumref01_Bit.F (x1, (0 : Int), ())).bind fun y3 =>
  let v4 := not y3.1
  bif v4 then ((fulcrumref01_Shift.F (x0, (-1 : Int), ())).bind fun y5 =>
  (fulcrumref01_Shift.F (x1, (-1 : Int), ())).bind fun y6 =>
  let v7 := IntKind.i64.wrap (x6 + (1 : Int))
  f11 y5.1 y6.1 v7)
  else (f15 x0 x1 x6))
  else (f15 x0 x1 x6)
noncomputable def fulcrumref01_Gcd.b15 (f11 : (List Int) → (List Int) → Int → Option ((List Int) × Unit)) (f15 : (List Int) → (List Int) → Int → Option ((List Int) × Unit)) (f16 : (List Int) → (List Int) → Int → Option ((List Int) × Unit)) (f18 : (List Int) → (List Int) → Int → Option ((List Int) × Unit)) (f24 : (List Int) → Int → Int → Option ((List Int) × Unit)) (x0 : (List Int)) (x1 : (List Int)) (x6 : Int) : Option ((List Int) × Unit) :=
  let v1 := (List.length x1 : Int)
  let v2 := decide (v1 > (0 : Int))
  bif v2 then (f16 x0 x1 x6)
  else (f24 x0 x6 (0 : Int))
noncomputable def fulcrumref01_Gcd.b16 (f11 : (List Int) → (List Int) → Int → Option ((List Int) × Unit)) (f15 : (List Int) → (List Int) → Int → Option ((List Int) × Unit)) (f16 : (List Int) → (List Int) → Int → Option ((List Int) × Unit)) (f18 : (List Int) → (List Int) → Int → Option ((List Int) × Unit)) (f24 : (List Int) → Int → Int → Option ((List Int) × Unit)) (x0 : (List Int)) (x1 : (List Int)) (x6 : Int) : Option ((List Int) × Unit) :=
  (fulcrumref01_Bit.F (x0, (0 : Int), ())).bind fun y1 =>
  let v2 := not y1.1
  bif v2 then ((fulcrumref01_Shift.F (x0, (-1 : Int), ())).bind fun y3 =>
  f16 y3.1 x1 x6)
  else (f18 x0 x1 x6)
noncomputable def fulcrumref01_Gcd.b18 (f11 : (List Int) → (List Int) → Int → Option ((List Int) × Unit)) (f15 : (List Int) → (List Int) → Int → Option ((List Int) × Unit)) (f16 : (List Int) → (List Int) → Int → Option ((List Int) × Unit)) (f18 : (List Int) → (List Int) → Int → Option ((List Int) × Unit)) (f24 : (List Int) → Int → Int → Option ((List Int) × Unit)) (x0 : (List Int)) (x1 : (List Int)) (x6 : Int) : Option ((List Int) × Unit) :=
  (fulcrumref01_Bit.F (x1, (0 : Int), ())).bind fun y1 =>
  let v2 := not y1.1
  bif v2 then ((fulcrumref01_Shift.F (x1, (-1 : Int), ())).bind fun y3 =>
  f18 x0 y3.1 x6)
  else ((fulcrumref01_Cmp.F (x0, x1, ())).bind fun y4 =>
  let v5 := decide (y4.1 > (0 : Int))
  bif v5 then ((fulcrumref01_Sub.F (x0, x1, ())).bind fun y6 =>
  f15 x1 y6.1 x6)
  else ((fulcrumref01_Sub.F (x1, x0, ())).bind fun y7 =>
  f15 x0 y7.1 x6))
noncomputable def fulcrumref01_Gcd.b24 (f11 : (List Int) → (List Int) → Int → Option ((List Int) × Unit)) (f15 : (List Int) → (List Int) → Int → Option ((List Int) × Unit)) (f16 : (List Int) → (List Int) → Int → Option ((List Int) × Unit)) (f18 : (List Int) → (List Int) → Int → Option ((List Int) × Unit)) (f24 : (List Int) → Int → Int → Option ((List Int) × Unit)) (x0 : (List Int)) (x6 : Int) (x7 : Int) : Option ((List Int) × Unit) :=
  let v1 := decide (x7 < x6)
  bif v1 then ((fulcrumref01_twice.F (x0, false, ())).bind fun y2 =>
  let v3 := IntKind.i64.wrap (x7 + (1 : Int))
  f24 y2.1 x6 v3)
  else (some (x0, ()))
noncomputable def fulcrumref01_Gcd.e (f11 : (List Int) → (List Int) → Int → Option ((List Int) × Unit)) (f15 : (List Int) → (List Int) → Int → Option ((List Int) × Unit)) (f16 : (List Int) → (List Int) → Int → Option ((List Int) × Unit)) (f18 : (List Int) → (List Int) → Int → Option ((List Int) × Unit)) (f24 : (List Int) → Int → Int → Option ((List Int) × Unit)) (a0 : (List Int)) (a1 : (List Int)) : Option ((List Int) × Unit) :=
  (fulcrumref01_Norm.F (a0, ())).bind fun y1 =>
  (fulcrumref01_Norm.F (a1, ())).bind fun y2 =>
  let v3 := (List.length y1.1 : Int)
  let v4 := (v3 == (0 : Int))
  bif v4 then (some (y2.1, ()))
  else (let v5 := (List.length y2.1 : Int)
  let v6 := (v5 == (0 : Int))
  bif v6 then (some (y1.1, ()))
  else (let v7 := ([(1 : Int)] : List Int)
  (fulcrumref01_Cmp.F (y1.1, v7, ())).bind fun y8 =>
  let v9 := (y8.1 == (0 : Int))
  bif v9 then (some (v7, ()))
  else ((fulcrumref01_Cmp.F (y2.1, v7, ())).bind fun y10 =>
  let v11 := (y10.1 == (0 : Int))
  bif v11 then (some (v7, ()))
  else (f11 y1.1 y2.1 (0 : Int)))))
noncomputable def fulcrumref01_Gcd.L11 (k : Nat) (x0 : (List Int)) (x1 : (List Int)) (x6 : Int) : Option ((List Int) × Unit) := heads (fulcrumref01_Gcd.spec.env fulcrumref01_Gcd.cals T Try.f42) (Func.pts Try.f42) k 11 (fulcrumref01_Gcd.m11 x0 x1 x6)
noncomputable def fulcrumref01_Gcd.L15 (k : Nat) (x0 : (List Int)) (x1 : (List Int)) (x6 : Int) : Option ((List Int) × Unit) := heads (fulcrumref01_Gcd.spec.env fulcrumref01_Gcd.cals T Try.f42) (Func.pts Try.f42) k 15 (fulcrumref01_Gcd.m15 x0 x1 x6)
noncomputable def fulcrumref01_Gcd.L16 (k : Nat) (x0 : (List Int)) (x1 : (List Int)) (x6 : Int) : Option ((List Int) × Unit) := heads (fulcrumref01_Gcd.spec.env fulcrumref01_Gcd.cals T Try.f42) (Func.pts Try.f42) k 16 (fulcrumref01_Gcd.m16 x0 x1 x6)
noncomputable def fulcrumref01_Gcd.L18 (k : Nat) (x0 : (List Int)) (x1 : (List Int)) (x6 : Int) : Option ((List Int) × Unit) := heads (fulcrumref01_Gcd.spec.env fulcrumref01_Gcd.cals T Try.f42) (Func.pts Try.f42) k 18 (fulcrumref01_Gcd.m18 x0 x1 x6)
noncomputable def fulcrumref01_Gcd.L24 (k : Nat) (x0 : (List Int)) (x6 : Int) (x7 : Int) : Option ((List Int) × Unit) := heads (fulcrumref01_Gcd.spec.env fulcrumref01_Gcd.cals T Try.f42) (Func.pts Try.f42) k 24 (fulcrumref01_Gcd.m24 x0 x6 x7)
theorem fulcrumref01_Gcd.L11_succ (k : Nat) (x0 : (List Int)) (x1 : (List Int)) (x6 : Int) : fulcrumref01_Gcd.L11 (k + 1) x0 x1 x6 = fulcrumref01_Gcd.b11 (fulcrumref01_Gcd.L11 k) (fulcrumref01_Gcd.L15 k) (fulcrumref01_Gcd.L16 k) (fulcrumref01_Gcd.L18 k) (fulcrumref01_Gcd.L24 k) x0 x1 x6 := by kernel_rfl
theorem fulcrumref01_Gcd.L11_zero (x0 : (List Int)) (x1 : (List Int)) (x6 : Int) : fulcrumref01_Gcd.L11 0 x0 x1 x6 = none := by kernel_rfl
theorem fulcrumref01_Gcd.L15_succ (k : Nat) (x0 : (List Int)) (x1 : (List Int)) (x6 : Int) : fulcrumref01_Gcd.L15 (k + 1) x0 x1 x6 = fulcrumref01_Gcd.b15 (fulcrumref01_Gcd.L11 k) (fulcrumref01_Gcd.L15 k) (fulcrumref01_Gcd.L16 k) (fulcrumref01_Gcd.L18 k) (fulcrumref01_Gcd.L24 k) x0 x1 x6 := by kernel_rfl
theorem fulcrumref01_Gcd.L15_zero (x0 : (List Int)) (x1 : (List Int)) (x6 : Int) : fulcrumref01_Gcd.L15 0 x0 x1 x6 = none := by kernel_rfl
theorem fulcrumref01_Gcd.L16_succ (k : Nat) (x0 : (List Int)) (x1 : (List Int)) (x6 : Int) : fulcrumref01_Gcd.L16 (k + 1) x0 x1 x6 = fulcrumref01_Gcd.b16 (fulcrumref01_Gcd.L11 k) (fulcrumref01_Gcd.L15 k) (fulcrumref01_Gcd.L16 k) (fulcrumref01_Gcd.L18 k) (fulcrumref01_Gcd.L24 k) x0 x1 x6 := by kernel_rfl
theorem fulcrumref01_Gcd.L16_zero (x0 : (List Int)) (x1 : (List Int)) (x6 : Int) : fulcrumref01_Gcd.L16 0 x0 x1 x6 = none := by kernel_rfl
theorem fulcrumref01_Gcd.L18_succ (k : Nat) (x0 : (List Int)) (x1 : (List Int)) (x6 : Int) : fulcrumref01_Gcd.L18 (k + 1) x0 x1 x6 = fulcrumref01_Gcd.b18 (fulcrumref01_Gcd.L11 k) (fulcrumref01_Gcd.L15 k) (fulcrumref01_Gcd.L16 k) (fulcrumref01_Gcd.L18 k) (fulcrumref01_Gcd.L24 k) x0 x1 x6 := by kernel_rfl
theorem fulcrumref01_Gcd.L18_zero (x0 : (List Int)) (x1 : (List Int)) (x6 : Int) : fulcrumref01_Gcd.L18 0 x0 x1 x6 = none := by kernel_rfl
theorem fulcrumref01_Gcd.L24_succ (k : Nat) (x0 : (List Int)) (x6 : Int) (x7 : Int) : fulcrumref01_Gcd.L24 (k + 1) x0 x6 x7 = fulcrumref01_Gcd.b24 (fulcrumref01_Gcd.L11 k) (fulcrumref01_Gcd.L15 k) (fulcrumref01_Gcd.L16 k) (fulcrumref01_Gcd.L18 k) (fulcrumref01_Gcd.L24 k) x0 x6 x7 := by kernel_rfl
theorem fulcrumref01_Gcd.L24_zero (x0 : (List Int)) (x6 : Int) (x7 : Int) : fulcrumref01_Gcd.L24 0 x0 x6 x7 = none := by kernel_rfl
theorem fulcrumref01_Gcd.eval (k : Nat) (a0 : (List Int)) (a1 : (List Int)) : evalF fulcrumref01_Gcd.spec fulcrumref01_Gcd.cals T Try.f42 k (a0, a1, ()) = fulcrumref01_Gcd.e (fulcrumref01_Gcd.L11 k) (fulcrumref01_Gcd.L15 k) (fulcrumref01_Gcd.L16 k) (fulcrumref01_Gcd.L18 k) (fulcrumref01_Gcd.L24 k) a0 a1 := by kernel_rfl
theorem fulcrumref01_Gcd.F_eq (a0 : (List Int)) (a1 : (List Int)) : fulcrumref01_Gcd.F (a0, a1, ()) = limF fulcrumref01_Gcd.spec fulcrumref01_Gcd.cals T Try.f42 (a0, a1, ()) := by kernel_rfl
theorem fulcrumref01_Gcd.of (k : Nat) (a0 : (List Int)) (a1 : (List Int)) {y : (List Int) × Unit} (h : fulcrumref01_Gcd.e (fulcrumref01_Gcd.L11 k) (fulcrumref01_Gcd.L15 k) (fulcrumref01_Gcd.L16 k) (fulcrumref01_Gcd.L18 k) (fulcrumref01_Gcd.L24 k) a0 a1 = some y) : fulcrumref01_Gcd.F (a0, a1, ()) = some y := (fulcrumref01_Gcd.F_eq a0 a1).trans (limF_of (q := fulcrumref01_Gcd.spec) (C := fulcrumref01_Gcd.cals) (T := T) (f := Try.f42) (x := (a0, a1, ())) (y := y) k ((fulcrumref01_Gcd.eval k a0 a1).trans h))

/-! ### fulcrum/fulcrumlaw01.NatDivisors -/
def fulcrumlaw01_NatDivisors.spec : Spec := ⟨[(false, (.sl 27 (.int .u32))), (false, (.sl 27 (.int .u32)))], [(false, .bool)], .own, fun j => match j with  | _ => []⟩
noncomputable def fulcrumlaw01_NatDivisors.cals : Cals := (Cals.cons 41 nat_Gcd.sig (Cals.cons 18 fulcrumlaw01_same.sig (Cals.cons 21 fulcrumlaw01_twin.sig (Cals.cons 42 fulcrumref01_Gcd.sig Cals.nil))))
noncomputable def fulcrumlaw01_NatDivisors.sig : Sig := fulcrumlaw01_NatDivisors.spec.sig fulcrumlaw01_NatDivisors.cals T Try.f11
noncomputable def fulcrumlaw01_NatDivisors.F (x : (List Int) × (List Int) × Unit) : Option (Bool × Unit) := limF fulcrumlaw01_NatDivisors.spec fulcrumlaw01_NatDivisors.cals T Try.f11 x
theorem fulcrumlaw01_NatDivisors.ck : CalsOk Try.prog fulcrumlaw01_NatDivisors.cals := (CalsOk.cons nat_Gcd.cal (CalsOk.cons fulcrumlaw01_same.cal (CalsOk.cons fulcrumlaw01_twin.cal (CalsOk.cons fulcrumref01_Gcd.cal CalsOk.nil))))
theorem fulcrumlaw01_NatDivisors.cal : CalOk Try.prog 11 fulcrumlaw01_NatDivisors.sig := calOk_lim' tabOk fulcrumlaw01_NatDivisors.ck mix Try.func11 (by kernel_rfl) (by kernel_rfl) (by kernel_rfl) (by kernel_rfl)
noncomputable def fulcrumlaw01_NatDivisors.e  (a0 : (List Int)) (a1 : (List Int)) : Option (Bool × Unit) :=
  let v1 := ([(12 : Int)] : List Int)
  let v2 := ([(18 : Int)] : List Int)
  (nat_Gcd.F (v1, v2, ())).bind fun y3 =>
  let v4 := ([(6 : Int)] : List Int)
  (fulcrumlaw01_same.F (y3.1, v4, ())).bind fun y5 =>
  let v6 := not y5.1
  bif v6 then (some (false, ()))
  else ((fulcrumlaw01_twin.F (a0, ())).bind fun y7 =>
  (fulcrumlaw01_twin.F (a1, ())).bind fun y8 =>
  (nat_Gcd.F (y7.1, y8.1, ())).bind fun y9 =>
  (fulcrumref01_Gcd.F (a0, a1, ())).bind fun y10 =>
  (fulcrumlaw01_same.F (y9.1, y10.1, ())).bind fun y11 =>
  some (y11.1, ()))
theorem fulcrumlaw01_NatDivisors.eval (k : Nat) (a0 : (List Int)) (a1 : (List Int)) : evalF fulcrumlaw01_NatDivisors.spec fulcrumlaw01_NatDivisors.cals T Try.f11 k (a0, a1, ()) = fulcrumlaw01_NatDivisors.e  a0 a1 := by kernel_rfl
theorem fulcrumlaw01_NatDivisors.F_eq (a0 : (List Int)) (a1 : (List Int)) : fulcrumlaw01_NatDivisors.F (a0, a1, ()) = limF fulcrumlaw01_NatDivisors.spec fulcrumlaw01_NatDivisors.cals T Try.f11 (a0, a1, ()) := by kernel_rfl
theorem fulcrumlaw01_NatDivisors.of (k : Nat) (a0 : (List Int)) (a1 : (List Int)) {y : Bool × Unit} (h : fulcrumlaw01_NatDivisors.e  a0 a1 = some y) : fulcrumlaw01_NatDivisors.F (a0, a1, ()) = some y := (fulcrumlaw01_NatDivisors.F_eq a0 a1).trans (limF_of (q := fulcrumlaw01_NatDivisors.spec) (C := fulcrumlaw01_NatDivisors.cals) (T := T) (f := Try.f11) (x := (a0, a1, ())) (y := y) k ((fulcrumlaw01_NatDivisors.eval k a0 a1).trans h))

/-! ### fulcrum/fulcrumref01.Mul -/
def fulcrumref01_Mul.spec : Spec := ⟨[(false, (.sl 27 (.int .u32))), (false, (.sl 27 (.int .u32)))], [(false, (.sl 27 (.int .u32)))], .own, fun j => match j with | 3 => [(0, .lf (.z 27 (.int .u32) false)), (1, .lf (.z 27 (.int .u32) false)), (5, .lf (.o 27 (.int .u32) true)), (6, .lf (.v true))] | 7 => [(0, .lf (.z 27 (.int .u32) false)), (1, .lf (.z 27 (.int .u32) false)), (5, .lf (.o 27 (.int .u32) true)), (6, .lf (.v true)), (7, .lf (.v true)), (8, .lf (.v true))] | _ => []⟩
noncomputable def fulcrumref01_Mul.cals : Cals := (Cals.cons 22 fulcrumref01_Norm.sig Cals.nil)
noncomputable def fulcrumref01_Mul.sig : Sig := fulcrumref01_Mul.spec.sig fulcrumref01_Mul.cals T Try.f43
noncomputable def fulcrumref01_Mul.F (x : (List Int) × (List Int) × Unit) : Option ((List Int) × Unit) := limF fulcrumref01_Mul.spec fulcrumref01_Mul.cals T Try.f43 x
theorem fulcrumref01_Mul.ck : CalsOk Try.prog fulcrumref01_Mul.cals := (CalsOk.cons fulcrumref01_Norm.cal CalsOk.nil)
theorem fulcrumref01_Mul.cal : CalOk Try.prog 43 fulcrumref01_Mul.sig := calOk_lim' tabOk fulcrumref01_Mul.ck mix Try.func43 (by kernel_rfl) (by kernel_rfl) (by kernel_rfl) (by kernel_rfl)
def fulcrumref01_Mul.m3 (x0 : (List Int)) (x1 : (List Int)) (x5 : (List Int)) (x6 : Int) : S := ⟨[(0, .one (.lf (.val false (.sl 27 (.int .u32)) x0))), (1, .one (.lf (.val false (.sl 27 (.int .u32)) x1))), (5, .one (.lf (.own 0))), (6, .one (.lf (.val true (.int .i64) x6)))], ⟨[some ⟨27, (.int .u32), true, true, x5⟩], []⟩⟩
def fulcrumref01_Mul.m7 (x0 : (List Int)) (x1 : (List Int)) (x5 : (List Int)) (x6 : Int) (x7 : Int) (x8 : Int) : S := ⟨[(0, .one (.lf (.val false (.sl 27 (.int .u32)) x0))), (1, .one (.lf (.val false (.sl 27 (.int .u32)) x1))), (5, .one (.lf (.own 0))), (6, .one (.lf (.val true (.int .i64) x6))), (7, .one (.lf (.val true (.int .u64) x7))), (8, .one (.lf (.val true (.int .i64) x8)))], ⟨[some ⟨27, (.int .u32), true, true, x5⟩], []⟩⟩
noncomputable def fulcrumref01_Mul.b3 (f3 : (List Int) → (List Int) → (List Int) → Int → Option ((List Int) × Unit)) (f7 : (List Int) → (List Int) → (List Int) → Int → Int → Int → Option ((List Int) × Unit)) (x0 : (List Int)) (x1 : (List Int)) (x5 : (List Int)) (x6 : Int) : Option ((List Int) × Unit) :=
  let v1 := (List.length x0 : Int)
  let v2 := decide (x6 < v1)
  bif v2 then (f7 x0 x1 x5 x6 (0 : Int) (0 : Int))
  else ((fulcrumref01_Norm.F (x5, ())).bind fun y3 =>
  some (y3.1, ()))
noncomputable def fulcrumref01_Mul.b7 (f3 : (List Int) → (List Int) → (List Int) → Int → Option ((List Int) × Unit)) (f7 : (List Int) → (List Int) → (List Int) → Int → Int → Int → Option ((List Int) × Unit)) (x0 : (List Int)) (x1 : (List Int)) (x5 : (List Int)) (x6 : Int) (x7 : Int) (x8 : Int) : Option ((List Int) × Unit) :=
  let v1 := (List.length x1 : Int)
  let v2 := decide (x8 < v1)
  bif v2 then (bif decide (0 ≤ x6) && decide (x6 < (List.length x0 : Int)) then (let v3 := List.getD x0 (Int.toNat x6) (0 : Int)
  let v4 := IntKind.u64.wrap v3
  bif decide (0 ≤ x8) && decide (x8 < (List.length x1 : Int)) then (let v5 := List.getD x1 (Int.toNat x8) (0 : Int)
  let v6 := IntKind.u64.wrap v5
  let v7 := IntKind.u64.wrap (v4 * v6)
  let v8 := IntKind.i64.wrap (x6 + x8)
  bif decide (0 ≤ v8) && decide (v8 < (List.length x5 : Int)) then (let v9 := List.getD x5 (Int.toNat v8) (0 : Int)
  let v10 := IntKind.u64.wrap v9
  let v11 := IntKind.u64.wrap (v7 + v10)
  let v12 := IntKind.u64.wrap (v11 + x7)
  let v13 := IntKind.i64.wrap (x6 + x8)
  let v14 := IntKind.u32.wrap v12
  bif decide (0 ≤ v13) && decide (v13 < (List.length x5 : Int)) then (let v15 := List.set x5 (Int.toNat v13) v14
  bif decide ((32 : Int) < 0) then none
  else (let v16 := shrI .u64 v12 (32 : Int)
  let v17 := IntKind.i64.wrap (x8 + (1 : Int))
  f7 x0 x1 v15 x6 v16 v17))
  else none)
  else none)
  else none)
  else none)
  else (let v18 := (List.length x1 : Int)
  let v19 := IntKind.i64.wrap (x6 + v18)
  let v20 := IntKind.u32.wrap x7
  bif decide (0 ≤ v19) && decide (v19 < (List.length x5 : Int)) then (let v21 := List.set x5 (Int.toNat v19) v20
  let v22 := IntKind.i64.wrap (x6 + (1 : Int))
  f3 x0 x1 v21 v22)
  else none)
noncomputable def fulcrumref01_Mul.e (f3 : (List Int) → (List Int) → (List Int) → Int → Option ((List Int) × Unit)) (f7 : (List Int) → (List Int) → (List Int) → Int → Int → Int → Option ((List Int) × Unit)) (a0 : (List Int)) (a1 : (List Int)) : Option ((List Int) × Unit) :=
  let v1 := (List.length a0 : Int)
  let v2 := (List.length a1 : Int)
  let v3 := IntKind.i64.wrap (v1 + v2)
  bif decide (0 ≤ v3) && (decide (v3 ≤ v3) && (decide (Int.toNat v3 * 4 ≤ 281474976710656) && Nat.blt 0 4)) then (let v4 := List.replicate (Int.toNat v3) (0 : Int)
  f3 a0 a1 v4 (0 : Int))
  else none
noncomputable def fulcrumref01_Mul.L3 (k : Nat) (x0 : (List Int)) (x1 : (List Int)) (x5 : (List Int)) (x6 : Int) : Option ((List Int) × Unit) := heads (fulcrumref01_Mul.spec.env fulcrumref01_Mul.cals T Try.f43) (Func.pts Try.f43) k 3 (fulcrumref01_Mul.m3 x0 x1 x5 x6)
noncomputable def fulcrumref01_Mul.L7 (k : Nat) (x0 : (List Int)) (x1 : (List Int)) (x5 : (List Int)) (x6 : Int) (x7 : Int) (x8 : Int) : Option ((List Int) × Unit) := heads (fulcrumref01_Mul.spec.env fulcrumref01_Mul.cals T Try.f43) (Func.pts Try.f43) k 7 (fulcrumref01_Mul.m7 x0 x1 x5 x6 x7 x8)
theorem fulcrumref01_Mul.L3_succ (k : Nat) (x0 : (List Int)) (x1 : (List Int)) (x5 : (List Int)) (x6 : Int) : fulcrumref01_Mul.L3 (k + 1) x0 x1 x5 x6 = fulcrumref01_Mul.b3 (fulcrumref01_Mul.L3 k) (fulcrumref01_Mul.L7 k) x0 x1 x5 x6 := by kernel_rfl
theorem fulcrumref01_Mul.L3_zero (x0 : (List Int)) (x1 : (List Int)) (x5 : (List Int)) (x6 : Int) : fulcrumref01_Mul.L3 0 x0 x1 x5 x6 = none := by kernel_rfl
theorem fulcrumref01_Mul.L7_succ (k : Nat) (x0 : (List Int)) (x1 : (List Int)) (x5 : (List Int)) (x6 : Int) (x7 : Int) (x8 : Int) : fulcrumref01_Mul.L7 (k + 1) x0 x1 x5 x6 x7 x8 = fulcrumref01_Mul.b7 (fulcrumref01_Mul.L3 k) (fulcrumref01_Mul.L7 k) x0 x1 x5 x6 x7 x8 := by kernel_rfl
theorem fulcrumref01_Mul.L7_zero (x0 : (List Int)) (x1 : (List Int)) (x5 : (List Int)) (x6 : Int) (x7 : Int) (x8 : Int) : fulcrumref01_Mul.L7 0 x0 x1 x5 x6 x7 x8 = none := by kernel_rfl
theorem fulcrumref01_Mul.eval (k : Nat) (a0 : (List Int)) (a1 : (List Int)) : evalF fulcrumref01_Mul.spec fulcrumref01_Mul.cals T Try.f43 k (a0, a1, ()) = fulcrumref01_Mul.e (fulcrumref01_Mul.L3 k) (fulcrumref01_Mul.L7 k) a0 a1 := by kernel_rfl
theorem fulcrumref01_Mul.F_eq (a0 : (List Int)) (a1 : (List Int)) : fulcrumref01_Mul.F (a0, a1, ()) = limF fulcrumref01_Mul.spec fulcrumref01_Mul.cals T Try.f43 (a0, a1, ()) := by kernel_rfl
theorem fulcrumref01_Mul.of (k : Nat) (a0 : (List Int)) (a1 : (List Int)) {y : (List Int) × Unit} (h : fulcrumref01_Mul.e (fulcrumref01_Mul.L3 k) (fulcrumref01_Mul.L7 k) a0 a1 = some y) : fulcrumref01_Mul.F (a0, a1, ()) = some y := (fulcrumref01_Mul.F_eq a0 a1).trans (limF_of (q := fulcrumref01_Mul.spec) (C := fulcrumref01_Mul.cals) (T := T) (f := Try.f43) (x := (a0, a1, ())) (y := y) k ((fulcrumref01_Mul.eval k a0 a1).trans h))

/-! ### fulcrum/fulcrumref01.Div -/
def fulcrumref01_Div.spec : Spec := ⟨[(false, (.sl 27 (.int .u32))), (false, (.sl 27 (.int .u32)))], [(false, (.sl 27 (.int .u32))), (false, (.sl 27 (.int .u32))), (false, (.int .i64))], .own, fun j => match j with | 11 => [(0, .lf (.z 27 (.int .u32) true)), (1, .lf (.o 27 (.int .u32) true)), (7, .lf (.o 27 (.int .u32) true)), (9, .lf (.o 27 (.int .u32) true)), (10, .lf (.v true))] | _ => []⟩
noncomputable def fulcrumref01_Div.cals : Cals := (Cals.cons 22 fulcrumref01_Norm.sig (Cals.cons 29 fulcrumref01_Bit.sig (Cals.cons 67 fulcrumref01_twice.sig (Cals.cons 36 fulcrumref01_Cmp.sig (Cals.cons 39 fulcrumref01_Sub.sig Cals.nil)))))
noncomputable def fulcrumref01_Div.sig : Sig := fulcrumref01_Div.spec.sig fulcrumref01_Div.cals T Try.f45
noncomputable def fulcrumref01_Div.F (x : (List Int) × (List Int) × Unit) : Option ((List Int) × (List Int) × Int × Unit) := limF fulcrumref01_Div.spec fulcrumref01_Div.cals T Try.f45 x
theorem fulcrumref01_Div.ck : CalsOk Try.prog fulcrumref01_Div.cals := (CalsOk.cons fulcrumref01_Norm.cal (CalsOk.cons fulcrumref01_Bit.cal (CalsOk.cons fulcrumref01_twice.cal (CalsOk.cons fulcrumref01_Cmp.cal (CalsOk.cons fulcrumref01_Sub.cal CalsOk.nil)))))
theorem fulcrumref01_Div.cal : CalOk Try.prog 45 fulcrumref01_Div.sig := calOk_lim' tabOk fulcrumref01_Div.ck mix Try.func45 (by kernel_rfl) (by kernel_rfl) (by kernel_rfl) (by kernel_rfl)
def fulcrumref01_Div.m11 (x0 : (List Int)) (x1 : (List Int)) (x7 : (List Int)) (x9 : (List Int)) (x10 : Int) : S := ⟨[(0, .one (.lf (.val true (.sl 27 (.int .u32)) x0))), (1, .one (.lf (.own 0))), (7, .one (.lf (.own 1))), (9, .one (.lf (.own 2))), (10, .one (.lf (.val true (.int .i64) x10)))], ⟨[some ⟨27, (.int .u32), true, true, x1⟩, some ⟨27, (.int .u32), true, true, x7⟩, some ⟨27, (.int .u32), true, true, x9⟩], []⟩⟩
noncomputable def fulcrumref01_Div.b11 (f11 : (List Int) → (List Int) → (List Int) → (List Int) → Int → Option ((List Int) × (List Int) × Int × Unit)) (x0 : (List Int)) (x1 : (List Int)) (x7 : (List Int)) (x9 : (List Int)) (x10 : Int) : Option ((List Int) × (List Int) × Int × Unit) :=
  let v1 := decide (x10 ≥ (0 : Int))
  bif v1 then ((fulcrumref01_Bit.F (x0, x10, ())).bind fun y2 =>
  (fulcrumref01_twice.F (x9, y2.1, ())).bind fun y3 =>
  (fulcrumref01_Cmp.F (y3.1, x1, ())).bind fun y4 =>
  let v5 := decide (y4.1 ≥ (0 : Int))
  bif v5 then ((fulcrumref01_Sub.F (y3.1, x1, ())).bind fun y6 =>
  bif decide ((32 : Int) = 0) then none
  else (let v7 := IntKind.i64.wrap (Int.tdiv x10 (32 : Int))
  bif decide (0 ≤ v7) && decide (v7 < (List.length x7 : Int)) then (let v8 := List.getD x7 (Int.toNat v7) (0 : Int)
  bif decide ((32 : Int) = 0) then none
  else (let v9 := Int.tmod x10 (32 : Int)
  let v10 := IntKind.u64.wrap v9
  bif decide (v10 < 0) then none
  else (let v11 := shlI .u32 (1 : Int) v10
  let v12 := bitsOp .or .u32 v8 v11
  bif decide (0 ≤ v7) && decide (v7 < (List.length x7 : Int)) then (let v13 := List.set x7 (Int.toNat v7) v12
  let v14 := IntKind.i64.wrap (x10 - (1 : Int))
  f11 x0 x1 v13 y6.1 v14)
  else none)))
  else none))
  else (let v15 := IntKind.i64.wrap (x10 - (1 : Int))
  f11 x0 x1 x7 y3.1 v15))
  else ((fulcrumref01_Norm.F (x7, ())).bind fun y16 =>
  some (y16.1, x9, (0 : Int), ()))
noncomputable def fulcrumref01_Div.e (f11 : (List Int) → (List Int) → (List Int) → (List Int) → Int → Option ((List Int) × (List Int) × Int × Unit)) (a0 : (List Int)) (a1 : (List Int)) : Option ((List Int) × (List Int) × Int × Unit) :=
  (fulcrumref01_Norm.F (a1, ())).bind fun y1 =>
  let v2 := (List.length y1.1 : Int)
  let v3 := (v2 == (0 : Int))
  bif v3 then (some (([] : List Int), ([] : List Int), (11 : Int), ()))
  else ((fulcrumref01_Norm.F (a0, ())).bind fun y4 =>
  let v5 := (List.length y4.1 : Int)
  bif decide (0 ≤ v5) && (decide (v5 ≤ v5) && (decide (Int.toNat v5 * 4 ≤ 281474976710656) && Nat.blt 0 4)) then (let v6 := List.replicate (Int.toNat v5) (0 : Int)
  let v7 := (List.length y1.1 : Int)
  let v8 := IntKind.i64.wrap (v7 - (1 : Int))
  let v9 := (List.length y4.1 : Int)
  let v10 := decide (v8 > v9)
  bif v10 then (let v11 := (List.length y4.1 : Int)
  let v12 := (List.length y4.1 : Int)
  let v13 := IntKind.i64.wrap (v12 - v11)
  bif decide (0 ≤ v13) && decide (v13 ≤ (List.length y4.1 : Int)) then (let v14 := List.drop (Int.toNat v13) y4.1
  (fulcrumref01_Norm.F (v14, ())).bind fun y15 =>
  let v16 := (List.length y4.1 : Int)
  let v17 := IntKind.i64.wrap (v16 - v11)
  let v18 := IntKind.i64.wrap ((32 : Int) * v17)
  let v19 := IntKind.i64.wrap (v18 - (1 : Int))
  f11 y4.1 y1.1 v6 y15.1 v19)
  else none)
  else (let v20 := (List.length y4.1 : Int)
  let v21 := IntKind.i64.wrap (v20 - v8)
  bif decide (0 ≤ v21) && decide (v21 ≤ (List.length y4.1 : Int)) then (let v22 := List.drop (Int.toNat v21) y4.1
  (fulcrumref01_Norm.F (v22, ())).bind fun y23 =>
  let v24 := (List.length y4.1 : Int)
  let v25 := IntKind.i64.wrap (v24 - v8)
  let v26 := IntKind.i64.wrap ((32 : Int) * v25)
  let v27 := IntKind.i64.wrap (v26 - (1 : Int))
  f11 y4.1 y1.1 v6 y23.1 v27)
  else none))
  else none)
noncomputable def fulcrumref01_Div.L11 (k : Nat) (x0 : (List Int)) (x1 : (List Int)) (x7 : (List Int)) (x9 : (List Int)) (x10 : Int) : Option ((List Int) × (List Int) × Int × Unit) := heads (fulcrumref01_Div.spec.env fulcrumref01_Div.cals T Try.f45) (Func.pts Try.f45) k 11 (fulcrumref01_Div.m11 x0 x1 x7 x9 x10)
theorem fulcrumref01_Div.L11_succ (k : Nat) (x0 : (List Int)) (x1 : (List Int)) (x7 : (List Int)) (x9 : (List Int)) (x10 : Int) : fulcrumref01_Div.L11 (k + 1) x0 x1 x7 x9 x10 = fulcrumref01_Div.b11 (fulcrumref01_Div.L11 k) x0 x1 x7 x9 x10 := by kernel_rfl
theorem fulcrumref01_Div.L11_zero (x0 : (List Int)) (x1 : (List Int)) (x7 : (List Int)) (x9 : (List Int)) (x10 : Int) : fulcrumref01_Div.L11 0 x0 x1 x7 x9 x10 = none := by kernel_rfl
theorem fulcrumref01_Div.eval (k : Nat) (a0 : (List Int)) (a1 : (List Int)) : evalF fulcrumref01_Div.spec fulcrumref01_Div.cals T Try.f45 k (a0, a1, ()) = fulcrumref01_Div.e (fulcrumref01_Div.L11 k) a0 a1 := by kernel_rfl
theorem fulcrumref01_Div.F_eq (a0 : (List Int)) (a1 : (List Int)) : fulcrumref01_Div.F (a0, a1, ()) = limF fulcrumref01_Div.spec fulcrumref01_Div.cals T Try.f45 (a0, a1, ()) := by kernel_rfl
theorem fulcrumref01_Div.of (k : Nat) (a0 : (List Int)) (a1 : (List Int)) {y : (List Int) × (List Int) × Int × Unit} (h : fulcrumref01_Div.e (fulcrumref01_Div.L11 k) a0 a1 = some y) : fulcrumref01_Div.F (a0, a1, ()) = some y := (fulcrumref01_Div.F_eq a0 a1).trans (limF_of (q := fulcrumref01_Div.spec) (C := fulcrumref01_Div.cals) (T := T) (f := Try.f45) (x := (a0, a1, ())) (y := y) k ((fulcrumref01_Div.eval k a0 a1).trans h))

/-! ### fulcrum/fulcrumlaw01.NatProducts -/
def fulcrumlaw01_NatProducts.spec : Spec := ⟨[(false, (.sl 27 (.int .u32))), (false, (.sl 27 (.int .u32)))], [(false, .bool)], .own, fun j => match j with  | _ => []⟩
noncomputable def fulcrumlaw01_NatProducts.cals : Cals := (Cals.cons 21 fulcrumlaw01_twin.sig (Cals.cons 40 nat_Mul.sig (Cals.cons 43 fulcrumref01_Mul.sig (Cals.cons 18 fulcrumlaw01_same.sig (Cals.cons 44 nat_Div.sig (Cals.cons 45 fulcrumref01_Div.sig (Cals.cons 22 fulcrumref01_Norm.sig Cals.nil)))))))
noncomputable def fulcrumlaw01_NatProducts.sig : Sig := fulcrumlaw01_NatProducts.spec.sig fulcrumlaw01_NatProducts.cals T Try.f12
noncomputable def fulcrumlaw01_NatProducts.F (x : (List Int) × (List Int) × Unit) : Option (Bool × Unit) := limF fulcrumlaw01_NatProducts.spec fulcrumlaw01_NatProducts.cals T Try.f12 x
theorem fulcrumlaw01_NatProducts.ck : CalsOk Try.prog fulcrumlaw01_NatProducts.cals := (CalsOk.cons fulcrumlaw01_twin.cal (CalsOk.cons nat_Mul.cal (CalsOk.cons fulcrumref01_Mul.cal (CalsOk.cons fulcrumlaw01_same.cal (CalsOk.cons nat_Div.cal (CalsOk.cons fulcrumref01_Div.cal (CalsOk.cons fulcrumref01_Norm.cal CalsOk.nil)))))))
theorem fulcrumlaw01_NatProducts.cal : CalOk Try.prog 12 fulcrumlaw01_NatProducts.sig := calOk_lim' tabOk fulcrumlaw01_NatProducts.ck mix Try.func12 (by kernel_rfl) (by kernel_rfl) (by kernel_rfl) (by kernel_rfl)
noncomputable def fulcrumlaw01_NatProducts.e  (a0 : (List Int)) (a1 : (List Int)) : Option (Bool × Unit) :=
  (fulcrumlaw01_twin.F (a0, ())).bind fun y1 =>
  (fulcrumlaw01_twin.F (a1, ())).bind fun y2 =>
  (nat_Mul.F (y1.1, y2.1, ())).bind fun y3 =>
  (fulcrumref01_Mul.F (a0, a1, ())).bind fun y4 =>
  (fulcrumlaw01_same.F (y3.1, y4.1, ())).bind fun y5 =>
  let v6 := not y5.1
  bif v6 then (some (false, ()))
  else ((fulcrumlaw01_twin.F (a0, ())).bind fun y7 =>
  (fulcrumlaw01_twin.F (a1, ())).bind fun y8 =>
  (nat_Div.F (y7.1, y8.1, ())).bind fun y9 =>
  (fulcrumref01_Div.F (a0, a1, ())).bind fun y10 =>
  let v11 := (y9.2.2.1 != y10.2.2.1)
  bif v11 then (some (false, ()))
  else ((fulcrumlaw01_same.F (y9.1, y10.1, ())).bind fun y12 =>
  let v13 := not y12.1
  bif v13 then (some (false, ()))
  else ((fulcrumlaw01_same.F (y9.2.1, y10.2.1, ())).bind fun y14 =>
  let v15 := not y14.1
  bif v15 then (some (false, ()))
  else ((fulcrumlaw01_twin.F (a0, ())).bind fun y16 =>
  let v17 := ([(5 : Int), (0 : Int)] : List Int)
  (nat_Mul.F (y16.1, v17, ())).bind fun y18 =>
  let v19 := ([(5 : Int)] : List Int)
  (nat_Div.F (y18.1, v19, ())).bind fun y20 =>
  let v21 := (y20.2.2.1 == (0 : Int))
  bif v21 then ((fulcrumref01_Norm.F (a0, ())).bind fun y22 =>
  (fulcrumlaw01_same.F (y20.1, y22.1, ())).bind fun y23 =>
  bif y23.1 then (let v24 := (List.length y20.2.1 : Int)
  let v25 := (v24 == (0 : Int))
  some (v25, ()))
  else (some (false, ())))
  else (some (false, ()))))))
theorem fulcrumlaw01_NatProducts.eval (k : Nat) (a0 : (List Int)) (a1 : (List Int)) : evalF fulcrumlaw01_NatProducts.spec fulcrumlaw01_NatProducts.cals T Try.f12 k (a0, a1, ()) = fulcrumlaw01_NatProducts.e  a0 a1 := by kernel_rfl
theorem fulcrumlaw01_NatProducts.F_eq (a0 : (List Int)) (a1 : (List Int)) : fulcrumlaw01_NatProducts.F (a0, a1, ()) = limF fulcrumlaw01_NatProducts.spec fulcrumlaw01_NatProducts.cals T Try.f12 (a0, a1, ()) := by kernel_rfl
theorem fulcrumlaw01_NatProducts.of (k : Nat) (a0 : (List Int)) (a1 : (List Int)) {y : Bool × Unit} (h : fulcrumlaw01_NatProducts.e  a0 a1 = some y) : fulcrumlaw01_NatProducts.F (a0, a1, ()) = some y := (fulcrumlaw01_NatProducts.F_eq a0 a1).trans (limF_of (q := fulcrumlaw01_NatProducts.spec) (C := fulcrumlaw01_NatProducts.cals) (T := T) (f := Try.f12) (x := (a0, a1, ())) (y := y) k ((fulcrumlaw01_NatProducts.eval k a0 a1).trans h))

/-! ### fulcrum/fulcrumlaw01.NatGreatest -/
def fulcrumlaw01_NatGreatest.spec : Spec := ⟨[(false, (.sl 27 (.int .u32))), (false, (.sl 27 (.int .u32))), (false, (.sl 27 (.int .u32)))], [(false, .bool)], .own, fun j => match j with  | _ => []⟩
noncomputable def fulcrumlaw01_NatGreatest.cals : Cals := (Cals.cons 41 nat_Gcd.sig (Cals.cons 18 fulcrumlaw01_same.sig (Cals.cons 21 fulcrumlaw01_twin.sig (Cals.cons 22 fulcrumref01_Norm.sig (Cals.cons 44 nat_Div.sig (Cals.cons 40 nat_Mul.sig Cals.nil))))))
noncomputable def fulcrumlaw01_NatGreatest.sig : Sig := fulcrumlaw01_NatGreatest.spec.sig fulcrumlaw01_NatGreatest.cals T Try.f13
noncomputable def fulcrumlaw01_NatGreatest.F (x : (List Int) × (List Int) × (List Int) × Unit) : Option (Bool × Unit) := limF fulcrumlaw01_NatGreatest.spec fulcrumlaw01_NatGreatest.cals T Try.f13 x
theorem fulcrumlaw01_NatGreatest.ck : CalsOk Try.prog fulcrumlaw01_NatGreatest.cals := (CalsOk.cons nat_Gcd.cal (CalsOk.cons fulcrumlaw01_same.cal (CalsOk.cons fulcrumlaw01_twin.cal (CalsOk.cons fulcrumref01_Norm.cal (CalsOk.cons nat_Div.cal (CalsOk.cons nat_Mul.cal CalsOk.nil))))))
theorem fulcrumlaw01_NatGreatest.cal : CalOk Try.prog 13 fulcrumlaw01_NatGreatest.sig := calOk_lim' tabOk fulcrumlaw01_NatGreatest.ck mix Try.func13 (by kernel_rfl) (by kernel_rfl) (by kernel_rfl) (by kernel_rfl)
noncomputable def fulcrumlaw01_NatGreatest.e  (a0 : (List Int)) (a1 : (List Int)) (a2 : (List Int)) : Option (Bool × Unit) :=
  let v1 := ([(4 : Int)] : List Int)
  let v2 := ([(6 : Int)] : List Int)
  (nat_Gcd.F (v1, v2, ())).bind fun y3 =>
  let v4 := ([(2 : Int)] : List Int)
  (fulcrumlaw01_same.F (y3.1, v4, ())).bind fun y5 =>
  let v6 := not y5.1
  bif v6 then (some (false, ()))
  else ((fulcrumlaw01_twin.F (a0, ())).bind fun y7 =>
  (fulcrumlaw01_twin.F (a1, ())).bind fun y8 =>
  (nat_Gcd.F (y7.1, y8.1, ())).bind fun y9 =>
  (fulcrumref01_Norm.F (a0, ())).bind fun y10 =>
  let v11 := (List.length y10.1 : Int)
  let v12 := decide (v11 > (0 : Int))
  bif v12 then ((fulcrumlaw01_twin.F (a0, ())).bind fun y13 =>
  (nat_Div.F (y13.1, y9.1, ())).bind fun y14 =>
  (fulcrumlaw01_twin.F (a1, ())).bind fun y15 =>
  (nat_Div.F (y15.1, y9.1, ())).bind fun y16 =>
  let v17 := (y14.2.2.1 != (0 : Int))
  bif v17 then (some (false, ()))
  else (let v18 := (y16.2.2.1 != (0 : Int))
  bif v18 then (some (false, ()))
  else (let v19 := (List.length y14.2.1 : Int)
  let v20 := decide (v19 > (0 : Int))
  bif v20 then (some (false, ()))
  else (let v21 := (List.length y16.2.1 : Int)
  let v22 := decide (v21 > (0 : Int))
  bif v22 then (some (false, ()))
  else ((fulcrumlaw01_twin.F (a0, ())).bind fun y23 =>
  (fulcrumlaw01_twin.F (a2, ())).bind fun y24 =>
  (nat_Mul.F (y23.1, y24.1, ())).bind fun y25 =>
  (fulcrumlaw01_twin.F (a1, ())).bind fun y26 =>
  (fulcrumlaw01_twin.F (a2, ())).bind fun y27 =>
  (nat_Mul.F (y26.1, y27.1, ())).bind fun y28 =>
  (nat_Gcd.F (y25.1, y28.1, ())).bind fun y29 =>
  (fulcrumlaw01_twin.F (a2, ())).bind fun y30 =>
  (nat_Mul.F (y9.1, y30.1, ())).bind fun y31 =>
  (fulcrumlaw01_same.F (y29.1, y31.1, ())).bind fun y32 =>
  some (y32.1, ()))))))
  else ((fulcrumref01_Norm.F (a1, ())).bind fun y33 =>
  let v34 := (List.length y33.1 : Int)
  let v35 := decide (v34 > (0 : Int))
  bif v35 then ((fulcrumlaw01_twin.F (a0, ())).bind fun y36 =>
  (nat_Div.F (y36.1, y9.1, ())).bind fun y37 =>
  (fulcrumlaw01_twin.F (a1, ())).bind fun y38 =>
  (nat_Div.F (y38.1, y9.1, ())).bind fun y39 =>
  let v40 := (y37.2.2.1 != (0 : Int))
  bif v40 then (some (false, ()))
  else (let v41 := (y39.2.2.1 != (0 : Int))
  bif v41 then (some (false, ()))
  else (let v42 := (List.length y37.2.1 : Int)
  let v43 := decide (v42 > (0 : Int))
  bif v43 then (some (false, ()))
  else (let v44 := (List.length y39.2.1 : Int)
  let v45 := decide (v44 > (0 : Int))
  bif v45 then (some (false, ()))
  else ((fulcrumlaw01_twin.F (a0, ())).bind fun y46 =>
  (fulcrumlaw01_twin.F (a2, ())).bind fun y47 =>
  (nat_Mul.F (y46.1, y47.1, ())).bind fun y48 =>
  (fulcrumlaw01_twin.F (a1, ())).bind fun y49 =>
  (fulcrumlaw01_twin.F (a2, ())).bind fun y50 =>
  (nat_Mul.F (y49.1, y50.1, ())).bind fun y51 =>
  (nat_Gcd.F (y48.1, y51.1, ())).bind fun y52 =>
  (fulcrumlaw01_twin.F (a2, ())).bind fun y53 =>
  (nat_Mul.F (y9.1, y53.1, ())).bind fun y54 =>
  (fulcrumlaw01_same.F (y52.1, y54.1, ())).bind fun y55 =>
  some (y55.1, ()))))))
  else ((fulcrumlaw01_twin.F (a0, ())).bind fun y56 =>
  (fulcrumlaw01_twin.F (a2, ())).bind fun y57 =>
  (nat_Mul.F (y56.1, y57.1, ())).bind fun y58 =>
  (fulcrumlaw01_twin.F (a1, ())).bind fun y59 =>
  (fulcrumlaw01_twin.F (a2, ())).bind fun y60 =>
  (nat_Mul.F (y59.1, y60.1, ())).bind fun y61 =>
  (nat_Gcd.F (y58.1, y61.1, ())).bind fun y62 =>
  (fulcrumlaw01_twin.F (a2, ())).bind fun y63 =>
  (nat_Mul.F (y9.1, y63.1, ())).bind fun y64 =>
  (fulcrumlaw01_same.F (y62.1, y64.1, ())).bind fun y65 =>
  some (y65.1, ()))))
theorem fulcrumlaw01_NatGreatest.eval (k : Nat) (a0 : (List Int)) (a1 : (List Int)) (a2 : (List Int)) : evalF fulcrumlaw01_NatGreatest.spec fulcrumlaw01_NatGreatest.cals T Try.f13 k (a0, a1, a2, ()) = fulcrumlaw01_NatGreatest.e  a0 a1 a2 := by kernel_rfl
theorem fulcrumlaw01_NatGreatest.F_eq (a0 : (List Int)) (a1 : (List Int)) (a2 : (List Int)) : fulcrumlaw01_NatGreatest.F (a0, a1, a2, ()) = limF fulcrumlaw01_NatGreatest.spec fulcrumlaw01_NatGreatest.cals T Try.f13 (a0, a1, a2, ()) := by kernel_rfl
theorem fulcrumlaw01_NatGreatest.of (k : Nat) (a0 : (List Int)) (a1 : (List Int)) (a2 : (List Int)) {y : Bool × Unit} (h : fulcrumlaw01_NatGreatest.e  a0 a1 a2 = some y) : fulcrumlaw01_NatGreatest.F (a0, a1, a2, ()) = some y := (fulcrumlaw01_NatGreatest.F_eq a0 a1 a2).trans (limF_of (q := fulcrumlaw01_NatGreatest.spec) (C := fulcrumlaw01_NatGreatest.cals) (T := T) (f := Try.f13) (x := (a0, a1, a2, ())) (y := y) k ((fulcrumlaw01_NatGreatest.eval k a0 a1 a2).trans h))

/-! ### fulcrum/fulcrumlaw01.NatDivision -/
def fulcrumlaw01_NatDivision.spec : Spec := ⟨[(false, (.sl 27 (.int .u32))), (false, (.sl 27 (.int .u32))), (false, (.sl 27 (.int .u32)))], [(false, .bool)], .own, fun j => match j with  | _ => []⟩
noncomputable def fulcrumlaw01_NatDivision.cals : Cals := (Cals.cons 21 fulcrumlaw01_twin.sig (Cals.cons 34 nat_Cmp.sig (Cals.cons 44 nat_Div.sig (Cals.cons 22 fulcrumref01_Norm.sig (Cals.cons 40 nat_Mul.sig (Cals.cons 35 nat_Add.sig (Cals.cons 18 fulcrumlaw01_same.sig Cals.nil)))))))
noncomputable def fulcrumlaw01_NatDivision.sig : Sig := fulcrumlaw01_NatDivision.spec.sig fulcrumlaw01_NatDivision.cals T Try.f14
noncomputable def fulcrumlaw01_NatDivision.F (x : (List Int) × (List Int) × (List Int) × Unit) : Option (Bool × Unit) := limF fulcrumlaw01_NatDivision.spec fulcrumlaw01_NatDivision.cals T Try.f14 x
theorem fulcrumlaw01_NatDivision.ck : CalsOk Try.prog fulcrumlaw01_NatDivision.cals := (CalsOk.cons fulcrumlaw01_twin.cal (CalsOk.cons nat_Cmp.cal (CalsOk.cons nat_Div.cal (CalsOk.cons fulcrumref01_Norm.cal (CalsOk.cons nat_Mul.cal (CalsOk.cons nat_Add.cal (CalsOk.cons fulcrumlaw01_same.cal CalsOk.nil)))))))
theorem fulcrumlaw01_NatDivision.cal : CalOk Try.prog 14 fulcrumlaw01_NatDivision.sig := calOk_lim' tabOk fulcrumlaw01_NatDivision.ck mix Try.func14 (by kernel_rfl) (by kernel_rfl) (by kernel_rfl) (by kernel_rfl)
noncomputable def fulcrumlaw01_NatDivision.e  (a0 : (List Int)) (a1 : (List Int)) (a2 : (List Int)) : Option (Bool × Unit) :=
  (fulcrumlaw01_twin.F (a2, ())).bind fun y1 =>
  (fulcrumlaw01_twin.F (a1, ())).bind fun y2 =>
  (nat_Cmp.F (y1.1, y2.1, ())).bind fun y3 =>
  let v4 := decide (y3.1 ≥ (0 : Int))
  bif v4 then ((fulcrumlaw01_twin.F (a2, ())).bind fun y5 =>
  (fulcrumlaw01_twin.F (a1, ())).bind fun y6 =>
  (nat_Div.F (y5.1, y6.1, ())).bind fun y7 =>
  let v8 := (y7.2.2.1 == (11 : Int))
  (fulcrumref01_Norm.F (a1, ())).bind fun y9 =>
  let v10 := (List.length y9.1 : Int)
  let v11 := (v10 == (0 : Int))
  let v12 := (v8 == v11)
  some (v12, ()))
  else ((fulcrumlaw01_twin.F (a0, ())).bind fun y13 =>
  (fulcrumlaw01_twin.F (a1, ())).bind fun y14 =>
  (nat_Mul.F (y13.1, y14.1, ())).bind fun y15 =>
  (fulcrumlaw01_twin.F (a2, ())).bind fun y16 =>
  (nat_Add.F (y15.1, y16.1, ())).bind fun y17 =>
  (fulcrumlaw01_twin.F (a1, ())).bind fun y18 =>
  (nat_Div.F (y17.1, y18.1, ())).bind fun y19 =>
  let v20 := (y19.2.2.1 == (0 : Int))
  bif v20 then ((fulcrumref01_Norm.F (a0, ())).bind fun y21 =>
  (fulcrumlaw01_same.F (y19.1, y21.1, ())).bind fun y22 =>
  bif y22.1 then ((fulcrumref01_Norm.F (a2, ())).bind fun y23 =>
  (fulcrumlaw01_same.F (y19.2.1, y23.1, ())).bind fun y24 =>
  some (y24.1, ()))
  else (some (false, ())))
  else (some (false, ())))
theorem fulcrumlaw01_NatDivision.eval (k : Nat) (a0 : (List Int)) (a1 : (List Int)) (a2 : (List Int)) : evalF fulcrumlaw01_NatDivision.spec fulcrumlaw01_NatDivision.cals T Try.f14 k (a0, a1, a2, ()) = fulcrumlaw01_NatDivision.e  a0 a1 a2 := by kernel_rfl
theorem fulcrumlaw01_NatDivision.F_eq (a0 : (List Int)) (a1 : (List Int)) (a2 : (List Int)) : fulcrumlaw01_NatDivision.F (a0, a1, a2, ()) = limF fulcrumlaw01_NatDivision.spec fulcrumlaw01_NatDivision.cals T Try.f14 (a0, a1, a2, ()) := by kernel_rfl
theorem fulcrumlaw01_NatDivision.of (k : Nat) (a0 : (List Int)) (a1 : (List Int)) (a2 : (List Int)) {y : Bool × Unit} (h : fulcrumlaw01_NatDivision.e  a0 a1 a2 = some y) : fulcrumlaw01_NatDivision.F (a0, a1, a2, ()) = some y := (fulcrumlaw01_NatDivision.F_eq a0 a1 a2).trans (limF_of (q := fulcrumlaw01_NatDivision.spec) (C := fulcrumlaw01_NatDivision.cals) (T := T) (f := Try.f14) (x := (a0, a1, a2, ())) (y := y) k ((fulcrumlaw01_NatDivision.eval k a0 a1 a2).trans h))

/-! ### fulcrum/nat.Pow -/
def nat_Pow.spec : Spec := ⟨[(false, (.sl 27 (.int .u32))), (false, (.int .i64))], [(false, (.sl 27 (.int .u32))), (false, (.int .i64))], .own, fun j => match j with | 5 => [(1, .lf (.v false)), (6, .lf (.o 27 (.int .u32) true)), (7, .lf (.o 27 (.int .u32) true))] | _ => []⟩
noncomputable def nat_Pow.cals : Cals := (Cals.cons 58 nat_own.sig (Cals.cons 40 nat_Mul.sig Cals.nil))
noncomputable def nat_Pow.sig : Sig := nat_Pow.spec.sig nat_Pow.cals T Try.f46
noncomputable def nat_Pow.F (x : (List Int) × Int × Unit) : Option ((List Int) × Int × Unit) := limF nat_Pow.spec nat_Pow.cals T Try.f46 x
theorem nat_Pow.ck : CalsOk Try.prog nat_Pow.cals := (CalsOk.cons nat_own.cal (CalsOk.cons nat_Mul.cal CalsOk.nil))
theorem nat_Pow.cal : CalOk Try.prog 46 nat_Pow.sig := calOk_lim' tabOk nat_Pow.ck mix Try.func46 (by kernel_rfl) (by kernel_rfl) (by kernel_rfl) (by kernel_rfl)
def nat_Pow.m5 (x1 : Int) (x6 : (List Int)) (x7 : (List Int)) : S := ⟨[(1, .one (.lf (.val false (.int .i64) x1))), (6, .one (.lf (.own 0))), (7, .one (.lf (.own 1)))], ⟨[some ⟨27, (.int .u32), true, true, x6⟩, some ⟨27, (.int .u32), true, true, x7⟩], []⟩⟩
noncomputable def nat_Pow.b5 (f5 : Int → (List Int) → (List Int) → Option ((List Int) × Int × Unit)) (x1 : Int) (x6 : (List Int)) (x7 : (List Int)) : Option ((List Int) × Int × Unit) :=
  let v1 := decide (x1 > (0 : Int))
  bif v1 then (bif decide ((2 : Int) = 0) then none
  else (let v2 := Int.tmod x1 (2 : Int)
  let v3 := (v2 == (1 : Int))
  bif v3 then ((nat_Mul.F (x6, x7, ())).bind fun y4 =>
  let v5 := decide (x1 > (1 : Int))
  bif v5 then ((nat_Mul.F (x7, x7, ())).bind fun y6 =>
  bif decide ((2 : Int) = 0) then none
  else (let v7 := IntKind.i64.wrap (Int.tdiv x1 (2 : Int))
  f5 v7 y4.1 y6.1))
  else (bif decide ((2 : Int) = 0) then none
  else (let v8 := IntKind.i64.wrap (Int.tdiv x1 (2 : Int))
  f5 v8 y4.1 x7)))
  else (let v9 := decide (x1 > (1 : Int))
  bif v9 then ((nat_Mul.F (x7, x7, ())).bind fun y10 =>
  bif decide ((2 : Int) = 0) then none
  else (let v11 := IntKind.i64.wrap (Int.tdiv x1 (2 : Int))
  f5 v11 x6 y10.1))
  else (bif decide ((2 : Int) = 0) then none
  else (let v12 := IntKind.i64.wrap (Int.tdiv x1 (2 : Int))
  f5 v12 x6 x7)))))
  else (some (x6, (0 : Int), ()))
noncomputable def nat_Pow.e (f5 : Int → (List Int) → (List Int) → Option ((List Int) × Int × Unit)) (a0 : (List Int)) (a1 : Int) : Option ((List Int) × Int × Unit) :=
  let v1 := decide (a1 < (0 : Int))
  bif v1 then (some (([] : List Int), (13 : Int), ()))
  else (let v2 := decide (a1 > (4096 : Int))
  bif v2 then (some (([] : List Int), (13 : Int), ()))
  else (let v3 := ([(1 : Int)] : List Int)
  (nat_own.F (a0, ())).bind fun y4 =>
  f5 a1 v3 y4.1))
noncomputable def nat_Pow.L5 (k : Nat) (x1 : Int) (x6 : (List Int)) (x7 : (List Int)) : Option ((List Int) × Int × Unit) := heads (nat_Pow.spec.env nat_Pow.cals T Try.f46) (Func.pts Try.f46) k 5 (nat_Pow.m5 x1 x6 x7)
theorem nat_Pow.L5_succ (k : Nat) (x1 : Int) (x6 : (List Int)) (x7 : (List Int)) : nat_Pow.L5 (k + 1) x1 x6 x7 = nat_Pow.b5 (nat_Pow.L5 k) x1 x6 x7 := by kernel_rfl
theorem nat_Pow.L5_zero (x1 : Int) (x6 : (List Int)) (x7 : (List Int)) : nat_Pow.L5 0 x1 x6 x7 = none := by kernel_rfl
theorem nat_Pow.eval (k : Nat) (a0 : (List Int)) (a1 : Int) : evalF nat_Pow.spec nat_Pow.cals T Try.f46 k (a0, a1, ()) = nat_Pow.e (nat_Pow.L5 k) a0 a1 := by kernel_rfl
theorem nat_Pow.F_eq (a0 : (List Int)) (a1 : Int) : nat_Pow.F (a0, a1, ()) = limF nat_Pow.spec nat_Pow.cals T Try.f46 (a0, a1, ()) := by kernel_rfl
theorem nat_Pow.of (k : Nat) (a0 : (List Int)) (a1 : Int) {y : (List Int) × Int × Unit} (h : nat_Pow.e (nat_Pow.L5 k) a0 a1 = some y) : nat_Pow.F (a0, a1, ()) = some y := (nat_Pow.F_eq a0 a1).trans (limF_of (q := nat_Pow.spec) (C := nat_Pow.cals) (T := T) (f := Try.f46) (x := (a0, a1, ())) (y := y) k ((nat_Pow.eval k a0 a1).trans h))

/-! ### fulcrum/fulcrumlaw01.NatMoves -/
def fulcrumlaw01_NatMoves.spec : Spec := ⟨[(false, (.sl 27 (.int .u32))), (false, (.int .i64))], [(false, .bool)], .own, fun j => match j with  | _ => []⟩
noncomputable def fulcrumlaw01_NatMoves.cals : Cals := (Cals.cons 21 fulcrumlaw01_twin.sig (Cals.cons 30 nat_Shift.sig (Cals.cons 46 nat_Pow.sig (Cals.cons 26 nat_Bits.sig (Cals.cons 44 nat_Div.sig (Cals.cons 40 nat_Mul.sig (Cals.cons 18 fulcrumlaw01_same.sig Cals.nil)))))))
noncomputable def fulcrumlaw01_NatMoves.sig : Sig := fulcrumlaw01_NatMoves.spec.sig fulcrumlaw01_NatMoves.cals T Try.f15
noncomputable def fulcrumlaw01_NatMoves.F (x : (List Int) × Int × Unit) : Option (Bool × Unit) := limF fulcrumlaw01_NatMoves.spec fulcrumlaw01_NatMoves.cals T Try.f15 x
theorem fulcrumlaw01_NatMoves.ck : CalsOk Try.prog fulcrumlaw01_NatMoves.cals := (CalsOk.cons fulcrumlaw01_twin.cal (CalsOk.cons nat_Shift.cal (CalsOk.cons nat_Pow.cal (CalsOk.cons nat_Bits.cal (CalsOk.cons nat_Div.cal (CalsOk.cons nat_Mul.cal (CalsOk.cons fulcrumlaw01_same.cal CalsOk.nil)))))))
theorem fulcrumlaw01_NatMoves.cal : CalOk Try.prog 15 fulcrumlaw01_NatMoves.sig := calOk_lim' tabOk fulcrumlaw01_NatMoves.ck mix Try.func15 (by kernel_rfl) (by kernel_rfl) (by kernel_rfl) (by kernel_rfl)
noncomputable def fulcrumlaw01_NatMoves.e  (a0 : (List Int)) (a1 : Int) : Option (Bool × Unit) :=
  let v1 := decide (a1 < (0 : Int))
  bif v1 then ((fulcrumlaw01_twin.F (a0, ())).bind fun y2 =>
  (nat_Shift.F (y2.1, (1048577 : Int), ())).bind fun y3 =>
  let v4 := (y3.2.1 == (12 : Int))
  some (v4, ()))
  else (let v5 := decide (a1 > (4096 : Int))
  bif v5 then ((fulcrumlaw01_twin.F (a0, ())).bind fun y6 =>
  (nat_Shift.F (y6.1, (1048577 : Int), ())).bind fun y7 =>
  let v8 := (y7.2.1 == (12 : Int))
  some (v8, ()))
  else (let v9 := ([(2 : Int)] : List Int)
  (nat_Pow.F (v9, a1, ())).bind fun y10 =>
  (fulcrumlaw01_twin.F (a0, ())).bind fun y11 =>
  (nat_Shift.F (y11.1, a1, ())).bind fun y12 =>
  (fulcrumlaw01_twin.F (a0, ())).bind fun y13 =>
  let v14 := negI .i64 a1
  (nat_Shift.F (y13.1, v14, ())).bind fun y15 =>
  let v16 := (y10.2.1 != (0 : Int))
  bif v16 then (some (false, ()))
  else (let v17 := (y12.2.1 != (0 : Int))
  bif v17 then (some (false, ()))
  else (let v18 := (y15.2.1 != (0 : Int))
  bif v18 then (some (false, ()))
  else ((nat_Bits.F (y10.1, ())).bind fun y19 =>
  let v20 := IntKind.i64.wrap (a1 + (1 : Int))
  let v21 := (y19.1 != v20)
  bif v21 then (some (false, ()))
  else ((fulcrumlaw01_twin.F (a0, ())).bind fun y22 =>
  (nat_Div.F (y22.1, y10.1, ())).bind fun y23 =>
  let v24 := (y23.2.2.1 == (0 : Int))
  bif v24 then ((fulcrumlaw01_twin.F (a0, ())).bind fun y25 =>
  (nat_Mul.F (y25.1, y10.1, ())).bind fun y26 =>
  (fulcrumlaw01_same.F (y12.1, y26.1, ())).bind fun y27 =>
  bif y27.1 then ((fulcrumlaw01_same.F (y15.1, y23.1, ())).bind fun y28 =>
  some (y28.1, ()))
  else (some (false, ())))
  else (some (false, ()))))))))
theorem fulcrumlaw01_NatMoves.eval (k : Nat) (a0 : (List Int)) (a1 : Int) : evalF fulcrumlaw01_NatMoves.spec fulcrumlaw01_NatMoves.cals T Try.f15 k (a0, a1, ()) = fulcrumlaw01_NatMoves.e  a0 a1 := by kernel_rfl
theorem fulcrumlaw01_NatMoves.F_eq (a0 : (List Int)) (a1 : Int) : fulcrumlaw01_NatMoves.F (a0, a1, ()) = limF fulcrumlaw01_NatMoves.spec fulcrumlaw01_NatMoves.cals T Try.f15 (a0, a1, ()) := by kernel_rfl
theorem fulcrumlaw01_NatMoves.of (k : Nat) (a0 : (List Int)) (a1 : Int) {y : Bool × Unit} (h : fulcrumlaw01_NatMoves.e  a0 a1 = some y) : fulcrumlaw01_NatMoves.F (a0, a1, ()) = some y := (fulcrumlaw01_NatMoves.F_eq a0 a1).trans (limF_of (q := fulcrumlaw01_NatMoves.spec) (C := fulcrumlaw01_NatMoves.cals) (T := T) (f := Try.f15) (x := (a0, a1, ())) (y := y) k ((fulcrumlaw01_NatMoves.eval k a0 a1).trans h))

/-! ### fulcrum/nat.Root -/
def nat_Root.spec : Spec := ⟨[(false, (.sl 27 (.int .u32)))], [(false, (.sl 27 (.int .u32)))], .own, fun j => match j with | 5 => [(0, .lf (.o 27 (.int .u32) true)), (3, .lf (.o 27 (.int .u32) true))] | _ => []⟩
noncomputable def nat_Root.cals : Cals := (Cals.cons 58 nat_own.sig (Cals.cons 26 nat_Bits.sig (Cals.cons 30 nat_Shift.sig (Cals.cons 44 nat_Div.sig (Cals.cons 35 nat_Add.sig (Cals.cons 34 nat_Cmp.sig Cals.nil))))))
noncomputable def nat_Root.sig : Sig := nat_Root.spec.sig nat_Root.cals T Try.f47
noncomputable def nat_Root.F (x : (List Int) × Unit) : Option ((List Int) × Unit) := limF nat_Root.spec nat_Root.cals T Try.f47 x
theorem nat_Root.ck : CalsOk Try.prog nat_Root.cals := (CalsOk.cons nat_own.cal (CalsOk.cons nat_Bits.cal (CalsOk.cons nat_Shift.cal (CalsOk.cons nat_Div.cal (CalsOk.cons nat_Add.cal (CalsOk.cons nat_Cmp.cal CalsOk.nil))))))
theorem nat_Root.cal : CalOk Try.prog 47 nat_Root.sig := calOk_lim' tabOk nat_Root.ck mix Try.func47 (by kernel_rfl) (by kernel_rfl) (by kernel_rfl) (by kernel_rfl)
def nat_Root.m5 (x0 : (List Int)) (x3 : (List Int)) : S := ⟨[(0, .one (.lf (.own 0))), (3, .one (.lf (.own 1)))], ⟨[some ⟨27, (.int .u32), true, true, x0⟩, some ⟨27, (.int .u32), true, true, x3⟩], []⟩⟩
noncomputable def nat_Root.b5 (f5 : (List Int) → (List Int) → Option ((List Int) × Unit)) (x0 : (List Int)) (x3 : (List Int)) : Option ((List Int) × Unit) :=
  (nat_Div.F (x0, x3, ())).bind fun y1 =>
  (nat_Add.F (x3, y1.1, ())).bind fun y2 =>
  (nat_Shift.F (y2.1, (-1 : Int), ())).bind fun y3 =>
  (nat_Cmp.F (y3.1, x3, ())).bind fun y4 =>
  let v5 := decide (y4.1 ≥ (0 : Int))
  bif v5 then (some (x3, ()))
  else (f5 x0 y3.1)
noncomputable def nat_Root.e (f5 : (List Int) → (List Int) → Option ((List Int) × Unit)) (a0 : (List Int)) : Option ((List Int) × Unit) :=
  (nat_own.F (a0, ())).bind fun y1 =>
  let v2 := (List.length y1.1 : Int)
  let v3 := (v2 == (0 : Int))
  bif v3 then (some (([] : List Int), ()))
  else (let v4 := ([(1 : Int)] : List Int)
  (nat_Bits.F (y1.1, ())).bind fun y5 =>
  let v6 := IntKind.i64.wrap (y5.1 + (1 : Int))
  bif decide ((2 : Int) = 0) then none
  else (let v7 := IntKind.i64.wrap (Int.tdiv v6 (2 : Int))
  (nat_Shift.F (v4, v7, ())).bind fun y8 =>
  f5 y1.1 y8.1))
noncomputable def nat_Root.L5 (k : Nat) (x0 : (List Int)) (x3 : (List Int)) : Option ((List Int) × Unit) := heads (nat_Root.spec.env nat_Root.cals T Try.f47) (Func.pts Try.f47) k 5 (nat_Root.m5 x0 x3)
theorem nat_Root.L5_succ (k : Nat) (x0 : (List Int)) (x3 : (List Int)) : nat_Root.L5 (k + 1) x0 x3 = nat_Root.b5 (nat_Root.L5 k) x0 x3 := by kernel_rfl
theorem nat_Root.L5_zero (x0 : (List Int)) (x3 : (List Int)) : nat_Root.L5 0 x0 x3 = none := by kernel_rfl
theorem nat_Root.eval (k : Nat) (a0 : (List Int)) : evalF nat_Root.spec nat_Root.cals T Try.f47 k (a0, ()) = nat_Root.e (nat_Root.L5 k) a0 := by kernel_rfl
theorem nat_Root.F_eq (a0 : (List Int)) : nat_Root.F (a0, ()) = limF nat_Root.spec nat_Root.cals T Try.f47 (a0, ()) := by kernel_rfl
theorem nat_Root.of (k : Nat) (a0 : (List Int)) {y : (List Int) × Unit} (h : nat_Root.e (nat_Root.L5 k) a0 = some y) : nat_Root.F (a0, ()) = some y := (nat_Root.F_eq a0).trans (limF_of (q := nat_Root.spec) (C := nat_Root.cals) (T := T) (f := Try.f47) (x := (a0, ())) (y := y) k ((nat_Root.eval k a0).trans h))

/-! ### fulcrum/fulcrumref01.Root -/
def fulcrumref01_Root.spec : Spec := ⟨[(false, (.sl 27 (.int .u32)))], [(false, (.sl 27 (.int .u32)))], .own, fun j => match j with | 3 => [(0, .lf (.z 27 (.int .u32) false)), (3, .lf (.o 27 (.int .u32) true)), (4, .lf (.v true))] | _ => []⟩
noncomputable def fulcrumref01_Root.cals : Cals := (Cals.cons 43 fulcrumref01_Mul.sig (Cals.cons 36 fulcrumref01_Cmp.sig (Cals.cons 22 fulcrumref01_Norm.sig Cals.nil)))
noncomputable def fulcrumref01_Root.sig : Sig := fulcrumref01_Root.spec.sig fulcrumref01_Root.cals T Try.f48
noncomputable def fulcrumref01_Root.F (x : (List Int) × Unit) : Option ((List Int) × Unit) := limF fulcrumref01_Root.spec fulcrumref01_Root.cals T Try.f48 x
theorem fulcrumref01_Root.ck : CalsOk Try.prog fulcrumref01_Root.cals := (CalsOk.cons fulcrumref01_Mul.cal (CalsOk.cons fulcrumref01_Cmp.cal (CalsOk.cons fulcrumref01_Norm.cal CalsOk.nil)))
theorem fulcrumref01_Root.cal : CalOk Try.prog 48 fulcrumref01_Root.sig := calOk_lim' tabOk fulcrumref01_Root.ck mix Try.func48 (by kernel_rfl) (by kernel_rfl) (by kernel_rfl) (by kernel_rfl)
def fulcrumref01_Root.m3 (x0 : (List Int)) (x3 : (List Int)) (x4 : Int) : S := ⟨[(0, .one (.lf (.val false (.sl 27 (.int .u32)) x0))), (3, .one (.lf (.own 0))), (4, .one (.lf (.val true (.int .i64) x4)))], ⟨[some ⟨27, (.int .u32), true, true, x3⟩], []⟩⟩
noncomputable def fulcrumref01_Root.b3 (f3 : (List Int) → (List Int) → Int → Option ((List Int) × Unit)) (x0 : (List Int)) (x3 : (List Int)) (x4 : Int) : Option ((List Int) × Unit) :=
  let v1 := decide (x4 ≥ (0 : Int))
  bif v1 then (bif decide ((32 : Int) = 0) then none
  else (let v2 := IntKind.i64.wrap (Int.tdiv x4 (32 : Int))
  bif decide (0 ≤ v2) && decide (v2 < (List.length x3 : Int)) then (let v3 := List.getD x3 (Int.toNat v2) (0 : Int)
  bif decide ((32 : Int) = 0) then none
  else (let v4 := Int.tmod x4 (32 : Int)
  let v5 := IntKind.u64.wrap v4
  bif decide (v5 < 0) then none
  else (let v6 := shlI .u32 (1 : Int) v5
  let v7 := bitsOp .or .u32 v3 v6
  bif decide (0 ≤ v2) && decide (v2 < (List.length x3 : Int)) then (let v8 := List.set x3 (Int.toNat v2) v7
  (fulcrumref01_Mul.F (v8, v8, ())).bind fun y9 =>
  (fulcrumref01_Cmp.F (y9.1, x0, ())).bind fun y10 =>
  let v11 := decide (y10.1 > (0 : Int))
  bif v11 then (bif decide ((32 : Int) = 0) then none
  else (let v12 := IntKind.i64.wrap (Int.tdiv x4 (32 : Int))
  bif decide (0 ≤ v12) && decide (v12 < (List.length v8 : Int)) then (let v13 := List.getD v8 (Int.toNat v12) (0 : Int)
  bif decide ((32 : Int) = 0) then none
  else (let v14 := Int.tmod x4 (32 : Int)
  let v15 := IntKind.u64.wrap v14
  bif decide (v15 < 0) then none
  else (let v16 := shlI .u32 (1 : Int) v15
  let v17 := bitsOp .andNot .u32 v13 v16
  bif decide (0 ≤ v12) && decide (v12 < (List.length v8 : Int)) then (let v18 := List.set v8 (Int.toNat v12) v17
  let v19 := IntKind.i64.wrap (x4 - (1 : Int))
  f3 x0 v18 v19)
  else none)))
  else none))
  else (let v20 := IntKind.i64.wrap (x4 - (1 : Int))
  f3 x0 v8 v20))
  else none)))
  else none))
  else ((fulcrumref01_Norm.F (x3, ())).bind fun y21 =>
  some (y21.1, ()))
noncomputable def fulcrumref01_Root.e (f3 : (List Int) → (List Int) → Int → Option ((List Int) × Unit)) (a0 : (List Int)) : Option ((List Int) × Unit) :=
  let v1 := (List.length a0 : Int)
  bif decide ((2 : Int) = 0) then none
  else (let v2 := IntKind.i64.wrap (Int.tdiv v1 (2 : Int))
  let v3 := IntKind.i64.wrap (v2 + (1 : Int))
  bif decide (0 ≤ v3) && (decide (v3 ≤ v3) && (decide (Int.toNat v3 * 4 ≤ 281474976710656) && Nat.blt 0 4)) then (let v4 := List.replicate (Int.toNat v3) (0 : Int)
  let v5 := (List.length v4 : Int)
  let v6 := IntKind.i64.wrap ((32 : Int) * v5)
  let v7 := IntKind.i64.wrap (v6 - (1 : Int))
  f3 a0 v4 v7)
  else none)
noncomputable def fulcrumref01_Root.L3 (k : Nat) (x0 : (List Int)) (x3 : (List Int)) (x4 : Int) : Option ((List Int) × Unit) := heads (fulcrumref01_Root.spec.env fulcrumref01_Root.cals T Try.f48) (Func.pts Try.f48) k 3 (fulcrumref01_Root.m3 x0 x3 x4)
theorem fulcrumref01_Root.L3_succ (k : Nat) (x0 : (List Int)) (x3 : (List Int)) (x4 : Int) : fulcrumref01_Root.L3 (k + 1) x0 x3 x4 = fulcrumref01_Root.b3 (fulcrumref01_Root.L3 k) x0 x3 x4 := by kernel_rfl
theorem fulcrumref01_Root.L3_zero (x0 : (List Int)) (x3 : (List Int)) (x4 : Int) : fulcrumref01_Root.L3 0 x0 x3 x4 = none := by kernel_rfl
theorem fulcrumref01_Root.eval (k : Nat) (a0 : (List Int)) : evalF fulcrumref01_Root.spec fulcrumref01_Root.cals T Try.f48 k (a0, ()) = fulcrumref01_Root.e (fulcrumref01_Root.L3 k) a0 := by kernel_rfl
theorem fulcrumref01_Root.F_eq (a0 : (List Int)) : fulcrumref01_Root.F (a0, ()) = limF fulcrumref01_Root.spec fulcrumref01_Root.cals T Try.f48 (a0, ()) := by kernel_rfl
theorem fulcrumref01_Root.of (k : Nat) (a0 : (List Int)) {y : (List Int) × Unit} (h : fulcrumref01_Root.e (fulcrumref01_Root.L3 k) a0 = some y) : fulcrumref01_Root.F (a0, ()) = some y := (fulcrumref01_Root.F_eq a0).trans (limF_of (q := fulcrumref01_Root.spec) (C := fulcrumref01_Root.cals) (T := T) (f := Try.f48) (x := (a0, ())) (y := y) k ((fulcrumref01_Root.eval k a0).trans h))

/-! ### fulcrum/fulcrumlaw01.great -/
def fulcrumlaw01_great.spec : Spec := ⟨[(false, (.int .i64)), (false, (.int .i64))], [(false, .bool)], .own, fun j => match j with  | _ => []⟩
noncomputable def fulcrumlaw01_great.cals : Cals := Cals.nil
noncomputable def fulcrumlaw01_great.sig : Sig := fulcrumlaw01_great.spec.sig fulcrumlaw01_great.cals T Try.f49
noncomputable def fulcrumlaw01_great.F (x : Int × Int × Unit) : Option (Bool × Unit) := limF fulcrumlaw01_great.spec fulcrumlaw01_great.cals T Try.f49 x
theorem fulcrumlaw01_great.ck : CalsOk Try.prog fulcrumlaw01_great.cals := CalsOk.nil
theorem fulcrumlaw01_great.cal : CalOk Try.prog 49 fulcrumlaw01_great.sig := calOk_lim' tabOk fulcrumlaw01_great.ck mix Try.func49 (by kernel_rfl) (by kernel_rfl) (by kernel_rfl) (by kernel_rfl)
noncomputable def fulcrumlaw01_great.e  (a0 : Int) (a1 : Int) : Option (Bool × Unit) :=
  let v1 := decide (a0 > (0 : Int))
  bif v1 then (let v2 := decide (a1 > (0 : Int))
  bif v2 then (bif decide (a1 = 0) then none
  else (let v3 := IntKind.i64.wrap (Int.tdiv (536870912 : Int) a1)
  let v4 := decide (a0 > v3)
  some (v4, ())))
  else (some (false, ())))
  else (some (false, ()))
theorem fulcrumlaw01_great.eval (k : Nat) (a0 : Int) (a1 : Int) : evalF fulcrumlaw01_great.spec fulcrumlaw01_great.cals T Try.f49 k (a0, a1, ()) = fulcrumlaw01_great.e  a0 a1 := by kernel_rfl
theorem fulcrumlaw01_great.F_eq (a0 : Int) (a1 : Int) : fulcrumlaw01_great.F (a0, a1, ()) = limF fulcrumlaw01_great.spec fulcrumlaw01_great.cals T Try.f49 (a0, a1, ()) := by kernel_rfl
theorem fulcrumlaw01_great.of (k : Nat) (a0 : Int) (a1 : Int) {y : Bool × Unit} (h : fulcrumlaw01_great.e  a0 a1 = some y) : fulcrumlaw01_great.F (a0, a1, ()) = some y := (fulcrumlaw01_great.F_eq a0 a1).trans (limF_of (q := fulcrumlaw01_great.spec) (C := fulcrumlaw01_great.cals) (T := T) (f := Try.f49) (x := (a0, a1, ())) (y := y) k ((fulcrumlaw01_great.eval k a0 a1).trans h))

/-! ### fulcrum/fulcrumref01.Pow -/
def fulcrumref01_Pow.spec : Spec := ⟨[(false, (.sl 27 (.int .u32))), (false, (.int .i64))], [(false, (.sl 27 (.int .u32))), (false, (.int .i64))], .own, fun j => match j with | 5 => [(0, .lf (.z 27 (.int .u32) false)), (1, .lf (.v false)), (6, .lf (.o 27 (.int .u32) true)), (7, .lf (.v true))] | _ => []⟩
noncomputable def fulcrumref01_Pow.cals : Cals := (Cals.cons 43 fulcrumref01_Mul.sig (Cals.cons 22 fulcrumref01_Norm.sig Cals.nil))
noncomputable def fulcrumref01_Pow.sig : Sig := fulcrumref01_Pow.spec.sig fulcrumref01_Pow.cals T Try.f50
noncomputable def fulcrumref01_Pow.F (x : (List Int) × Int × Unit) : Option ((List Int) × Int × Unit) := limF fulcrumref01_Pow.spec fulcrumref01_Pow.cals T Try.f50 x
theorem fulcrumref01_Pow.ck : CalsOk Try.prog fulcrumref01_Pow.cals := (CalsOk.cons fulcrumref01_Mul.cal (CalsOk.cons fulcrumref01_Norm.cal CalsOk.nil))
theorem fulcrumref01_Pow.cal : CalOk Try.prog 50 fulcrumref01_Pow.sig := calOk_lim' tabOk fulcrumref01_Pow.ck mix Try.func50 (by kernel_rfl) (by kernel_rfl) (by kernel_rfl) (by kernel_rfl)
def fulcrumref01_Pow.m5 (x0 : (List Int)) (x1 : Int) (x6 : (List Int)) (x7 : Int) : S := ⟨[(0, .one (.lf (.val false (.sl 27 (.int .u32)) x0))), (1, .one (.lf (.val false (.int .i64) x1))), (6, .one (.lf (.own 0))), (7, .one (.lf (.val true (.int .i64) x7)))], ⟨[some ⟨27, (.int .u32), true, true, x6⟩], []⟩⟩
noncomputable def fulcrumref01_Pow.b5 (f5 : (List Int) → Int → (List Int) → Int → Option ((List Int) × Int × Unit)) (x0 : (List Int)) (x1 : Int) (x6 : (List Int)) (x7 : Int) : Option ((List Int) × Int × Unit) :=
  let v1 := decide (x7 ≥ (0 : Int))
  bif v1 then ((fulcrumref01_Mul.F (x6, x6, ())).bind fun y2 =>
  let v3 := IntKind.u64.wrap x7
  bif decide (v3 < 0) then none
  else (let v4 := shrI .i64 x1 v3
  let v5 := bitsOp .and .i64 v4 (1 : Int)
  let v6 := (v5 == (1 : Int))
  bif v6 then ((fulcrumref01_Mul.F (y2.1, x0, ())).bind fun y7 =>
  let v8 := IntKind.i64.wrap (x7 - (1 : Int))
  f5 x0 x1 y7.1 v8)
  else (let v9 := IntKind.i64.wrap (x7 - (1 : Int))
  f5 x0 x1 y2.1 v9)))
  else ((fulcrumref01_Norm.F (x6, ())).bind fun y10 =>
  some (y10.1, (0 : Int), ()))
noncomputable def fulcrumref01_Pow.e (f5 : (List Int) → Int → (List Int) → Int → Option ((List Int) × Int × Unit)) (a0 : (List Int)) (a1 : Int) : Option ((List Int) × Int × Unit) :=
  let v1 := decide (a1 < (0 : Int))
  bif v1 then (some (([] : List Int), (13 : Int), ()))
  else (let v2 := decide (a1 > (4096 : Int))
  bif v2 then (some (([] : List Int), (13 : Int), ()))
  else (let v3 := ([(1 : Int)] : List Int)
  f5 a0 a1 v3 (12 : Int)))
noncomputable def fulcrumref01_Pow.L5 (k : Nat) (x0 : (List Int)) (x1 : Int) (x6 : (List Int)) (x7 : Int) : Option ((List Int) × Int × Unit) := heads (fulcrumref01_Pow.spec.env fulcrumref01_Pow.cals T Try.f50) (Func.pts Try.f50) k 5 (fulcrumref01_Pow.m5 x0 x1 x6 x7)
theorem fulcrumref01_Pow.L5_succ (k : Nat) (x0 : (List Int)) (x1 : Int) (x6 : (List Int)) (x7 : Int) : fulcrumref01_Pow.L5 (k + 1) x0 x1 x6 x7 = fulcrumref01_Pow.b5 (fulcrumref01_Pow.L5 k) x0 x1 x6 x7 := by kernel_rfl
theorem fulcrumref01_Pow.L5_zero (x0 : (List Int)) (x1 : Int) (x6 : (List Int)) (x7 : Int) : fulcrumref01_Pow.L5 0 x0 x1 x6 x7 = none := by kernel_rfl
theorem fulcrumref01_Pow.eval (k : Nat) (a0 : (List Int)) (a1 : Int) : evalF fulcrumref01_Pow.spec fulcrumref01_Pow.cals T Try.f50 k (a0, a1, ()) = fulcrumref01_Pow.e (fulcrumref01_Pow.L5 k) a0 a1 := by kernel_rfl
theorem fulcrumref01_Pow.F_eq (a0 : (List Int)) (a1 : Int) : fulcrumref01_Pow.F (a0, a1, ()) = limF fulcrumref01_Pow.spec fulcrumref01_Pow.cals T Try.f50 (a0, a1, ()) := by kernel_rfl
theorem fulcrumref01_Pow.of (k : Nat) (a0 : (List Int)) (a1 : Int) {y : (List Int) × Int × Unit} (h : fulcrumref01_Pow.e (fulcrumref01_Pow.L5 k) a0 a1 = some y) : fulcrumref01_Pow.F (a0, a1, ()) = some y := (fulcrumref01_Pow.F_eq a0 a1).trans (limF_of (q := fulcrumref01_Pow.spec) (C := fulcrumref01_Pow.cals) (T := T) (f := Try.f50) (x := (a0, a1, ())) (y := y) k ((fulcrumref01_Pow.eval k a0 a1).trans h))

/-! ### fulcrum/fulcrumlaw01.NatPowers -/
def fulcrumlaw01_NatPowers.spec : Spec := ⟨[(false, (.sl 27 (.int .u32))), (false, (.int .i64))], [(false, .bool)], .own, fun j => match j with  | _ => []⟩
noncomputable def fulcrumlaw01_NatPowers.cals : Cals := (Cals.cons 46 nat_Pow.sig (Cals.cons 18 fulcrumlaw01_same.sig (Cals.cons 21 fulcrumlaw01_twin.sig (Cals.cons 47 nat_Root.sig (Cals.cons 48 fulcrumref01_Root.sig (Cals.cons 49 fulcrumlaw01_great.sig (Cals.cons 50 fulcrumref01_Pow.sig Cals.nil)))))))
noncomputable def fulcrumlaw01_NatPowers.sig : Sig := fulcrumlaw01_NatPowers.spec.sig fulcrumlaw01_NatPowers.cals T Try.f16
noncomputable def fulcrumlaw01_NatPowers.F (x : (List Int) × Int × Unit) : Option (Bool × Unit) := limF fulcrumlaw01_NatPowers.spec fulcrumlaw01_NatPowers.cals T Try.f16 x
theorem fulcrumlaw01_NatPowers.ck : CalsOk Try.prog fulcrumlaw01_NatPowers.cals := (CalsOk.cons nat_Pow.cal (CalsOk.cons fulcrumlaw01_same.cal (CalsOk.cons fulcrumlaw01_twin.cal (CalsOk.cons nat_Root.cal (CalsOk.cons fulcrumref01_Root.cal (CalsOk.cons fulcrumlaw01_great.cal (CalsOk.cons fulcrumref01_Pow.cal CalsOk.nil)))))))
theorem fulcrumlaw01_NatPowers.cal : CalOk Try.prog 16 fulcrumlaw01_NatPowers.sig := calOk_lim' tabOk fulcrumlaw01_NatPowers.ck mix Try.func16 (by kernel_rfl) (by kernel_rfl) (by kernel_rfl) (by kernel_rfl)
noncomputable def fulcrumlaw01_NatPowers.e  (a0 : (List Int)) (a1 : Int) : Option (Bool × Unit) :=
  let v1 := ([(2 : Int)] : List Int)
  (nat_Pow.F (v1, (64 : Int), ())).bind fun y2 =>
  let v3 := (y2.2.1 != (0 : Int))
  bif v3 then (some (false, ()))
  else (let v4 := ([(0 : Int), (0 : Int), (1 : Int)] : List Int)
  (fulcrumlaw01_same.F (y2.1, v4, ())).bind fun y5 =>
  let v6 := not y5.1
  bif v6 then (some (false, ()))
  else ((fulcrumlaw01_twin.F (a0, ())).bind fun y7 =>
  (nat_Root.F (y7.1, ())).bind fun y8 =>
  (fulcrumref01_Root.F (a0, ())).bind fun y9 =>
  (fulcrumlaw01_same.F (y8.1, y9.1, ())).bind fun y10 =>
  let v11 := not y10.1
  bif v11 then (some (false, ()))
  else (let v12 := decide (a1 ≤ (4096 : Int))
  bif v12 then (let v13 := (List.length a0 : Int)
  (fulcrumlaw01_great.F (v13, a1, ())).bind fun y14 =>
  bif y14.1 then (some (true, ()))
  else ((fulcrumlaw01_twin.F (a0, ())).bind fun y15 =>
  (nat_Pow.F (y15.1, a1, ())).bind fun y16 =>
  (fulcrumref01_Pow.F (a0, a1, ())).bind fun y17 =>
  let v18 := (y16.2.1 == y17.2.1)
  bif v18 then ((fulcrumlaw01_same.F (y16.1, y17.1, ())).bind fun y19 =>
  some (y19.1, ()))
  else (some (false, ()))))
  else ((fulcrumlaw01_twin.F (a0, ())).bind fun y20 =>
  (nat_Pow.F (y20.1, a1, ())).bind fun y21 =>
  (fulcrumref01_Pow.F (a0, a1, ())).bind fun y22 =>
  let v23 := (y21.2.1 == y22.2.1)
  bif v23 then ((fulcrumlaw01_same.F (y21.1, y22.1, ())).bind fun y24 =>
  some (y24.1, ()))
  else (some (false, ()))))))
theorem fulcrumlaw01_NatPowers.eval (k : Nat) (a0 : (List Int)) (a1 : Int) : evalF fulcrumlaw01_NatPowers.spec fulcrumlaw01_NatPowers.cals T Try.f16 k (a0, a1, ()) = fulcrumlaw01_NatPowers.e  a0 a1 := by kernel_rfl
theorem fulcrumlaw01_NatPowers.F_eq (a0 : (List Int)) (a1 : Int) : fulcrumlaw01_NatPowers.F (a0, a1, ()) = limF fulcrumlaw01_NatPowers.spec fulcrumlaw01_NatPowers.cals T Try.f16 (a0, a1, ()) := by kernel_rfl
theorem fulcrumlaw01_NatPowers.of (k : Nat) (a0 : (List Int)) (a1 : Int) {y : Bool × Unit} (h : fulcrumlaw01_NatPowers.e  a0 a1 = some y) : fulcrumlaw01_NatPowers.F (a0, a1, ()) = some y := (fulcrumlaw01_NatPowers.F_eq a0 a1).trans (limF_of (q := fulcrumlaw01_NatPowers.spec) (C := fulcrumlaw01_NatPowers.cals) (T := T) (f := Try.f16) (x := (a0, a1, ())) (y := y) k ((fulcrumlaw01_NatPowers.eval k a0 a1).trans h))

-- NOT WALKED 51 fulcrummem_Room: ERROR TypeError("'NoneType' object is not subscriptable")

/-! ### fulcrum/fulcrumlaw01.wanted -/
def fulcrumlaw01_wanted.spec : Spec := ⟨[(false, (.sl 27 (.int .u32))), (false, (.sl 27 (.int .u32))), (false, (.int .i64))], [(false, (.sl 24 (.sl 27 (.int .u32))))], .own, fun j => match j with  | _ => []⟩
noncomputable def fulcrumlaw01_wanted.cals : Cals := (Cals.cons 39 fulcrumref01_Sub.sig (Cals.cons 45 fulcrumref01_Div.sig (Cals.cons 31 fulcrumref01_Shift.sig (Cals.cons 22 fulcrumref01_Norm.sig (Cals.cons 37 fulcrumref01_Add.sig (Cals.cons 43 fulcrumref01_Mul.sig (Cals.cons 42 fulcrumref01_Gcd.sig (Cals.cons 48 fulcrumref01_Root.sig Cals.nil))))))))
noncomputable def fulcrumlaw01_wanted.sig : Sig := fulcrumlaw01_wanted.spec.sig fulcrumlaw01_wanted.cals T Try.f52
noncomputable def fulcrumlaw01_wanted.F (x : (List Int) × (List Int) × Int × Unit) : Option ((List (List Int)) × Unit) := limF fulcrumlaw01_wanted.spec fulcrumlaw01_wanted.cals T Try.f52 x
theorem fulcrumlaw01_wanted.ck : CalsOk Try.prog fulcrumlaw01_wanted.cals := (CalsOk.cons fulcrumref01_Sub.cal (CalsOk.cons fulcrumref01_Div.cal (CalsOk.cons fulcrumref01_Shift.cal (CalsOk.cons fulcrumref01_Norm.cal (CalsOk.cons fulcrumref01_Add.cal (CalsOk.cons fulcrumref01_Mul.cal (CalsOk.cons fulcrumref01_Gcd.cal (CalsOk.cons fulcrumref01_Root.cal CalsOk.nil))))))))
theorem fulcrumlaw01_wanted.cal : CalOk Try.prog 52 fulcrumlaw01_wanted.sig := calOk_lim' tabOk fulcrumlaw01_wanted.ck mix Try.func52 (by kernel_rfl) (by kernel_rfl) (by kernel_rfl) (by kernel_rfl)
noncomputable def fulcrumlaw01_wanted.e  (a0 : (List Int)) (a1 : (List Int)) (a2 : Int) : Option ((List (List Int)) × Unit) :=
  (fulcrumref01_Sub.F (a0, a1, ())).bind fun y1 =>
  (fulcrumref01_Div.F (a0, a1, ())).bind fun y2 =>
  (fulcrumref01_Shift.F (a0, a2, ())).bind fun y3 =>
  let v4 := IntKind.i64.wrap ((0 : Int) - a2)
  (fulcrumref01_Shift.F (a0, v4, ())).bind fun y5 =>
  (fulcrumref01_Norm.F (a0, ())).bind fun y6 =>
  (fulcrumref01_Add.F (a0, a1, ())).bind fun y7 =>
  (fulcrumref01_Add.F (a1, a0, ())).bind fun y8 =>
  (fulcrumref01_Mul.F (a0, a1, ())).bind fun y9 =>
  (fulcrumref01_Gcd.F (a0, a1, ())).bind fun y10 =>
  (fulcrumref01_Gcd.F (a1, a0, ())).bind fun y11 =>
  (fulcrumref01_Norm.F (a0, ())).bind fun y12 =>
  (fulcrumref01_Mul.F (a0, a0, ())).bind fun y13 =>
  (fulcrumref01_Root.F (a0, ())).bind fun y14 =>
  let v15 := ([y6.1, y7.1, y8.1, y1.1, y9.1, y2.1, y2.2.1, y10.1, y11.1, y3.1, y5.1, y12.1, y13.1, y14.1] : List (List Int))
  some (v15, ())
theorem fulcrumlaw01_wanted.eval (k : Nat) (a0 : (List Int)) (a1 : (List Int)) (a2 : Int) : evalF fulcrumlaw01_wanted.spec fulcrumlaw01_wanted.cals T Try.f52 k (a0, a1, a2, ()) = fulcrumlaw01_wanted.e  a0 a1 a2 := by kernel_rfl
theorem fulcrumlaw01_wanted.F_eq (a0 : (List Int)) (a1 : (List Int)) (a2 : Int) : fulcrumlaw01_wanted.F (a0, a1, a2, ()) = limF fulcrumlaw01_wanted.spec fulcrumlaw01_wanted.cals T Try.f52 (a0, a1, a2, ()) := by kernel_rfl
theorem fulcrumlaw01_wanted.of (k : Nat) (a0 : (List Int)) (a1 : (List Int)) (a2 : Int) {y : (List (List Int)) × Unit} (h : fulcrumlaw01_wanted.e  a0 a1 a2 = some y) : fulcrumlaw01_wanted.F (a0, a1, a2, ()) = some y := (fulcrumlaw01_wanted.F_eq a0 a1 a2).trans (limF_of (q := fulcrumlaw01_wanted.spec) (C := fulcrumlaw01_wanted.cals) (T := T) (f := Try.f52) (x := (a0, a1, a2, ())) (y := y) k ((fulcrumlaw01_wanted.eval k a0 a1 a2).trans h))

/-! ### fulcrum/fulcrumlaw01.answers -/
def fulcrumlaw01_answers.spec : Spec := ⟨[(false, (.sl 27 (.int .u32))), (false, (.sl 27 (.int .u32))), (false, (.int .i64))], [(false, (.sl 24 (.sl 27 (.int .u32))))], .own, fun j => match j with  | _ => []⟩
noncomputable def fulcrumlaw01_answers.cals : Cals := (Cals.cons 38 nat_Sub.sig (Cals.cons 44 nat_Div.sig (Cals.cons 30 nat_Shift.sig (Cals.cons 46 nat_Pow.sig (Cals.cons 20 nat_Norm.sig (Cals.cons 35 nat_Add.sig (Cals.cons 40 nat_Mul.sig (Cals.cons 41 nat_Gcd.sig (Cals.cons 47 nat_Root.sig Cals.nil)))))))))
noncomputable def fulcrumlaw01_answers.sig : Sig := fulcrumlaw01_answers.spec.sig fulcrumlaw01_answers.cals T Try.f53
noncomputable def fulcrumlaw01_answers.F (x : (List Int) × (List Int) × Int × Unit) : Option ((List (List Int)) × Unit) := limF fulcrumlaw01_answers.spec fulcrumlaw01_answers.cals T Try.f53 x
theorem fulcrumlaw01_answers.ck : CalsOk Try.prog fulcrumlaw01_answers.cals := (CalsOk.cons nat_Sub.cal (CalsOk.cons nat_Div.cal (CalsOk.cons nat_Shift.cal (CalsOk.cons nat_Pow.cal (CalsOk.cons nat_Norm.cal (CalsOk.cons nat_Add.cal (CalsOk.cons nat_Mul.cal (CalsOk.cons nat_Gcd.cal (CalsOk.cons nat_Root.cal CalsOk.nil)))))))))
theorem fulcrumlaw01_answers.cal : CalOk Try.prog 53 fulcrumlaw01_answers.sig := calOk_lim' tabOk fulcrumlaw01_answers.ck mix Try.func53 (by kernel_rfl) (by kernel_rfl) (by kernel_rfl) (by kernel_rfl)
noncomputable def fulcrumlaw01_answers.e  (a0 : (List Int)) (a1 : (List Int)) (a2 : Int) : Option ((List (List Int)) × Unit) :=
  (nat_Sub.F (a0, a1, ())).bind fun y1 =>
  (nat_Div.F (a0, a1, ())).bind fun y2 =>
  (nat_Shift.F (a0, a2, ())).bind fun y3 =>
  let v4 := IntKind.i64.wrap ((0 : Int) - a2)
  (nat_Shift.F (a0, v4, ())).bind fun y5 =>
  (nat_Pow.F (a0, (1 : Int), ())).bind fun y6 =>
  (nat_Pow.F (a0, (2 : Int), ())).bind fun y7 =>
  (nat_Norm.F (a0, ())).bind fun y8 =>
  (nat_Add.F (a0, a1, ())).bind fun y9 =>
  (nat_Add.F (a1, a0, ())).bind fun y10 =>
  (nat_Mul.F (a0, a1, ())).bind fun y11 =>
  (nat_Gcd.F (a0, a1, ())).bind fun y12 =>
  (nat_Gcd.F (a1, a0, ())).bind fun y13 =>
  (nat_Root.F (a0, ())).bind fun y14 =>
  let v15 := ([y8.1, y9.1, y10.1, y1.1, y11.1, y2.1, y2.2.1, y12.1, y13.1, y3.1, y5.1, y6.1, y7.1, y14.1] : List (List Int))
  some (v15, ())
theorem fulcrumlaw01_answers.eval (k : Nat) (a0 : (List Int)) (a1 : (List Int)) (a2 : Int) : evalF fulcrumlaw01_answers.spec fulcrumlaw01_answers.cals T Try.f53 k (a0, a1, a2, ()) = fulcrumlaw01_answers.e  a0 a1 a2 := by kernel_rfl
theorem fulcrumlaw01_answers.F_eq (a0 : (List Int)) (a1 : (List Int)) (a2 : Int) : fulcrumlaw01_answers.F (a0, a1, a2, ()) = limF fulcrumlaw01_answers.spec fulcrumlaw01_answers.cals T Try.f53 (a0, a1, a2, ()) := by kernel_rfl
theorem fulcrumlaw01_answers.of (k : Nat) (a0 : (List Int)) (a1 : (List Int)) (a2 : Int) {y : (List (List Int)) × Unit} (h : fulcrumlaw01_answers.e  a0 a1 a2 = some y) : fulcrumlaw01_answers.F (a0, a1, a2, ()) = some y := (fulcrumlaw01_answers.F_eq a0 a1 a2).trans (limF_of (q := fulcrumlaw01_answers.spec) (C := fulcrumlaw01_answers.cals) (T := T) (f := Try.f53) (x := (a0, a1, a2, ())) (y := y) k ((fulcrumlaw01_answers.eval k a0 a1 a2).trans h))

/-! ### fulcrum/fulcrumlaw01.sameAll -/
def fulcrumlaw01_sameAll.spec : Spec := ⟨[(false, (.sl 24 (.sl 27 (.int .u32)))), (false, (.sl 24 (.sl 27 (.int .u32))))], [(false, .bool)], .own, fun j => match j with | 2 => [(0, .lf (.z 24 (.sl 27 (.int .u32)) false)), (1, .lf (.z 24 (.sl 27 (.int .u32)) false)), (5, .lf (.v true))] | _ => []⟩
noncomputable def fulcrumlaw01_sameAll.cals : Cals := (Cals.cons 18 fulcrumlaw01_same.sig Cals.nil)
noncomputable def fulcrumlaw01_sameAll.sig : Sig := fulcrumlaw01_sameAll.spec.sig fulcrumlaw01_sameAll.cals T Try.f54
noncomputable def fulcrumlaw01_sameAll.F (x : (List (List Int)) × (List (List Int)) × Unit) : Option (Bool × Unit) := limF fulcrumlaw01_sameAll.spec fulcrumlaw01_sameAll.cals T Try.f54 x
theorem fulcrumlaw01_sameAll.ck : CalsOk Try.prog fulcrumlaw01_sameAll.cals := (CalsOk.cons fulcrumlaw01_same.cal CalsOk.nil)
theorem fulcrumlaw01_sameAll.cal : CalOk Try.prog 54 fulcrumlaw01_sameAll.sig := calOk_lim' tabOk fulcrumlaw01_sameAll.ck mix Try.func54 (by kernel_rfl) (by kernel_rfl) (by kernel_rfl) (by kernel_rfl)
def fulcrumlaw01_sameAll.m2 (x0 : (List (List Int))) (x1 : (List (List Int))) (x5 : Int) : S := ⟨[(0, .one (.lf (.val false (.sl 24 (.sl 27 (.int .u32))) x0))), (1, .one (.lf (.val false (.sl 24 (.sl 27 (.int .u32))) x1))), (5, .one (.lf (.val true (.int .i64) x5)))], ⟨[], []⟩⟩
noncomputable def fulcrumlaw01_sameAll.b2 (f2 : (List (List Int)) → (List (List Int)) → Int → Option (Bool × Unit)) (x0 : (List (List Int))) (x1 : (List (List Int))) (x5 : Int) : Option (Bool × Unit) :=
  let v1 := (List.length x0 : Int)
  let v2 := decide (x5 < v1)
  bif v2 then (bif decide (0 ≤ x5) && decide (x5 < (List.length x0 : Int)) then (let v3 := List.getD x0 (Int.toNat x5) ([] : List Int)
  bif decide (0 ≤ x5) && decide (x5 < (List.length x1 : Int)) then (let v4 := List.getD x1 (Int.toNat x5) ([] : List Int)
  (fulcrumlaw01_same.F (v3, v4, ())).bind fun y5 =>
  let v6 := not y5.1
  bif v6 then (some (false, ()))
  else (let v7 := IntKind.i64.wrap (x5 + (1 : Int))
  f2 x0 x1 v7))
  else none)
  else none)
  else (let v8 := (List.length x0 : Int)
  let v9 := (List.length x1 : Int)
  let v10 := (v8 == v9)
  some (v10, ()))
noncomputable def fulcrumlaw01_sameAll.e (f2 : (List (List Int)) → (List (List Int)) → Int → Option (Bool × Unit)) (a0 : (List (List Int))) (a1 : (List (List Int))) : Option (Bool × Unit) :=
  f2 a0 a1 (0 : Int)
noncomputable def fulcrumlaw01_sameAll.L2 (k : Nat) (x0 : (List (List Int))) (x1 : (List (List Int))) (x5 : Int) : Option (Bool × Unit) := heads (fulcrumlaw01_sameAll.spec.env fulcrumlaw01_sameAll.cals T Try.f54) (Func.pts Try.f54) k 2 (fulcrumlaw01_sameAll.m2 x0 x1 x5)
theorem fulcrumlaw01_sameAll.L2_succ (k : Nat) (x0 : (List (List Int))) (x1 : (List (List Int))) (x5 : Int) : fulcrumlaw01_sameAll.L2 (k + 1) x0 x1 x5 = fulcrumlaw01_sameAll.b2 (fulcrumlaw01_sameAll.L2 k) x0 x1 x5 := by kernel_rfl
theorem fulcrumlaw01_sameAll.L2_zero (x0 : (List (List Int))) (x1 : (List (List Int))) (x5 : Int) : fulcrumlaw01_sameAll.L2 0 x0 x1 x5 = none := by kernel_rfl
theorem fulcrumlaw01_sameAll.eval (k : Nat) (a0 : (List (List Int))) (a1 : (List (List Int))) : evalF fulcrumlaw01_sameAll.spec fulcrumlaw01_sameAll.cals T Try.f54 k (a0, a1, ()) = fulcrumlaw01_sameAll.e (fulcrumlaw01_sameAll.L2 k) a0 a1 := by kernel_rfl
theorem fulcrumlaw01_sameAll.F_eq (a0 : (List (List Int))) (a1 : (List (List Int))) : fulcrumlaw01_sameAll.F (a0, a1, ()) = limF fulcrumlaw01_sameAll.spec fulcrumlaw01_sameAll.cals T Try.f54 (a0, a1, ()) := by kernel_rfl
theorem fulcrumlaw01_sameAll.of (k : Nat) (a0 : (List (List Int))) (a1 : (List (List Int))) {y : Bool × Unit} (h : fulcrumlaw01_sameAll.e (fulcrumlaw01_sameAll.L2 k) a0 a1 = some y) : fulcrumlaw01_sameAll.F (a0, a1, ()) = some y := (fulcrumlaw01_sameAll.F_eq a0 a1).trans (limF_of (q := fulcrumlaw01_sameAll.spec) (C := fulcrumlaw01_sameAll.cals) (T := T) (f := Try.f54) (x := (a0, a1, ())) (y := y) k ((fulcrumlaw01_sameAll.eval k a0 a1).trans h))

/-! ### fulcrum/fulcrummem.mark -/
def fulcrummem_mark.spec : Spec := ⟨[(false, (.int .i64)), (false, (.int .i64))], [(false, (.int .u32))], .own, fun j => match j with  | _ => []⟩
noncomputable def fulcrummem_mark.cals : Cals := Cals.nil
noncomputable def fulcrummem_mark.sig : Sig := fulcrummem_mark.spec.sig fulcrummem_mark.cals T Try.f69
noncomputable def fulcrummem_mark.F (x : Int × Int × Unit) : Option (Int × Unit) := limF fulcrummem_mark.spec fulcrummem_mark.cals T Try.f69 x
theorem fulcrummem_mark.ck : CalsOk Try.prog fulcrummem_mark.cals := CalsOk.nil
theorem fulcrummem_mark.cal : CalOk Try.prog 69 fulcrummem_mark.sig := calOk_lim' tabOk fulcrummem_mark.ck mix Try.func69 (by kernel_rfl) (by kernel_rfl) (by kernel_rfl) (by kernel_rfl)
noncomputable def fulcrummem_mark.e  (a0 : Int) (a1 : Int) : Option (Int × Unit) :=
  let v1 := IntKind.i64.wrap (a0 * (4096 : Int))
  let v2 := IntKind.i64.wrap (v1 + a1)
  let v3 := IntKind.u32.wrap v2
  let v4 := IntKind.u32.wrap ((2768240640 : Int) + v3)
  some (v4, ())
theorem fulcrummem_mark.eval (k : Nat) (a0 : Int) (a1 : Int) : evalF fulcrummem_mark.spec fulcrummem_mark.cals T Try.f69 k (a0, a1, ()) = fulcrummem_mark.e  a0 a1 := by kernel_rfl
theorem fulcrummem_mark.F_eq (a0 : Int) (a1 : Int) : fulcrummem_mark.F (a0, a1, ()) = limF fulcrummem_mark.spec fulcrummem_mark.cals T Try.f69 (a0, a1, ()) := by kernel_rfl
theorem fulcrummem_mark.of (k : Nat) (a0 : Int) (a1 : Int) {y : Int × Unit} (h : fulcrummem_mark.e  a0 a1 = some y) : fulcrummem_mark.F (a0, a1, ()) = some y := (fulcrummem_mark.F_eq a0 a1).trans (limF_of (q := fulcrummem_mark.spec) (C := fulcrummem_mark.cals) (T := T) (f := Try.f69) (x := (a0, a1, ())) (y := y) k ((fulcrummem_mark.eval k a0 a1).trans h))

-- NOT WALKED 55 fulcrummem_Spoil: store ('ref', [('val', False, ('int', 'u32'), 'List.getD v4 (Int.toNat x4) (0 : Int)')])

/-! ### fulcrum/fulcrummem.Kept -/
def fulcrummem_Kept.spec : Spec := ⟨[(false, (.sl 27 (.int .u32))), (false, (.sl 27 (.int .u32)))], [(false, .bool)], .own, fun j => match j with | 4 => [(0, .lf (.z 27 (.int .u32) false)), (1, .lf (.z 27 (.int .u32) false)), (5, .lf (.v true))] | 9 => [(0, .lf (.z 27 (.int .u32) false)), (1, .lf (.z 27 (.int .u32) false)), (6, .lf (.v true))] | _ => []⟩
noncomputable def fulcrummem_Kept.cals : Cals := Cals.nil
noncomputable def fulcrummem_Kept.sig : Sig := fulcrummem_Kept.spec.sig fulcrummem_Kept.cals T Try.f56
noncomputable def fulcrummem_Kept.F (x : (List Int) × (List Int) × Unit) : Option (Bool × Unit) := limF fulcrummem_Kept.spec fulcrummem_Kept.cals T Try.f56 x
theorem fulcrummem_Kept.ck : CalsOk Try.prog fulcrummem_Kept.cals := CalsOk.nil
theorem fulcrummem_Kept.cal : CalOk Try.prog 56 fulcrummem_Kept.sig := calOk_lim' tabOk fulcrummem_Kept.ck mix Try.func56 (by kernel_rfl) (by kernel_rfl) (by kernel_rfl) (by kernel_rfl)
def fulcrummem_Kept.m4 (x0 : (List Int)) (x1 : (List Int)) (x5 : Int) : S := ⟨[(0, .one (.lf (.val false (.sl 27 (.int .u32)) x0))), (1, .one (.lf (.val false (.sl 27 (.int .u32)) x1))), (5, .one (.lf (.val true (.int .i64) x5)))], ⟨[], []⟩⟩
def fulcrummem_Kept.m9 (x0 : (List Int)) (x1 : (List Int)) (x6 : Int) : S := ⟨[(0, .one (.lf (.val false (.sl 27 (.int .u32)) x0))), (1, .one (.lf (.val false (.sl 27 (.int .u32)) x1))), (6, .one (.lf (.val true (.int .i64) x6)))], ⟨[], []⟩⟩
noncomputable def fulcrummem_Kept.b4 (f4 : (List Int) → (List Int) → Int → Option (Bool × Unit)) (f9 : (List Int) → (List Int) → Int → Option (Bool × Unit)) (x0 : (List Int)) (x1 : (List Int)) (x5 : Int) : Option (Bool × Unit) :=
  let v1 := (List.length x1 : Int)
  let v2 := decide (x5 < v1)
  bif v2 then (bif decide (0 ≤ x5) && decide (x5 < (List.length x0 : Int)) then (let v3 := List.getD x0 (Int.toNat x5) (0 : Int)
  bif decide (0 ≤ x5) && decide (x5 < (List.length x1 : Int)) then (let v4 := List.getD x1 (Int.toNat x5) (0 : Int)
  let v5 := (v3 != v4)
  bif v5 then (some (false, ()))
  else (let v6 := IntKind.i64.wrap (x5 + (1 : Int))
  f4 x0 x1 v6))
  else none)
  else none)
  else (f9 x0 x1 (0 : Int))
noncomputable def fulcrummem_Kept.b9 (f4 : (List Int) → (List Int) → Int → Option (Bool × Unit)) (f9 : (List Int) → (List Int) → Int → Option (Bool × Unit)) (x0 : (List Int)) (x1 : (List Int)) (x6 : Int) : Option (Bool × Unit) :=
  let v1 := decide (x6 < (5 : Int))
  bif v1 then (let v2 := (List.length x1 : Int)
  let v3 := IntKind.i64.wrap (v2 + x6)
  bif decide (0 ≤ v3) && decide (v3 < (List.length x0 : Int)) then (let v4 := List.getD x0 (Int.toNat v3) (0 : Int)
  let v5 := IntKind.u32.wrap x6
  let v6 := IntKind.u32.wrap ((1515847680 : Int) + v5)
  let v7 := (v4 != v6)
  bif v7 then (some (false, ()))
  else (let v8 := IntKind.i64.wrap (x6 + (1 : Int))
  f9 x0 x1 v8))
  else none)
  else (some (true, ()))
noncomputable def fulcrummem_Kept.e (f4 : (List Int) → (List Int) → Int → Option (Bool × Unit)) (f9 : (List Int) → (List Int) → Int → Option (Bool × Unit)) (a0 : (List Int)) (a1 : (List Int)) : Option (Bool × Unit) :=
  let v1 := (List.length a0 : Int)
  let v2 := (List.length a1 : Int)
  let v3 := IntKind.i64.wrap (v2 + (5 : Int))
  let v4 := (v1 != v3)
  bif v4 then (some (false, ()))
  else (f4 a0 a1 (0 : Int))
noncomputable def fulcrummem_Kept.L4 (k : Nat) (x0 : (List Int)) (x1 : (List Int)) (x5 : Int) : Option (Bool × Unit) := heads (fulcrummem_Kept.spec.env fulcrummem_Kept.cals T Try.f56) (Func.pts Try.f56) k 4 (fulcrummem_Kept.m4 x0 x1 x5)
noncomputable def fulcrummem_Kept.L9 (k : Nat) (x0 : (List Int)) (x1 : (List Int)) (x6 : Int) : Option (Bool × Unit) := heads (fulcrummem_Kept.spec.env fulcrummem_Kept.cals T Try.f56) (Func.pts Try.f56) k 9 (fulcrummem_Kept.m9 x0 x1 x6)
theorem fulcrummem_Kept.L4_succ (k : Nat) (x0 : (List Int)) (x1 : (List Int)) (x5 : Int) : fulcrummem_Kept.L4 (k + 1) x0 x1 x5 = fulcrummem_Kept.b4 (fulcrummem_Kept.L4 k) (fulcrummem_Kept.L9 k) x0 x1 x5 := by kernel_rfl
theorem fulcrummem_Kept.L4_zero (x0 : (List Int)) (x1 : (List Int)) (x5 : Int) : fulcrummem_Kept.L4 0 x0 x1 x5 = none := by kernel_rfl
theorem fulcrummem_Kept.L9_succ (k : Nat) (x0 : (List Int)) (x1 : (List Int)) (x6 : Int) : fulcrummem_Kept.L9 (k + 1) x0 x1 x6 = fulcrummem_Kept.b9 (fulcrummem_Kept.L4 k) (fulcrummem_Kept.L9 k) x0 x1 x6 := by kernel_rfl
theorem fulcrummem_Kept.L9_zero (x0 : (List Int)) (x1 : (List Int)) (x6 : Int) : fulcrummem_Kept.L9 0 x0 x1 x6 = none := by kernel_rfl
theorem fulcrummem_Kept.eval (k : Nat) (a0 : (List Int)) (a1 : (List Int)) : evalF fulcrummem_Kept.spec fulcrummem_Kept.cals T Try.f56 k (a0, a1, ()) = fulcrummem_Kept.e (fulcrummem_Kept.L4 k) (fulcrummem_Kept.L9 k) a0 a1 := by kernel_rfl
theorem fulcrummem_Kept.F_eq (a0 : (List Int)) (a1 : (List Int)) : fulcrummem_Kept.F (a0, a1, ()) = limF fulcrummem_Kept.spec fulcrummem_Kept.cals T Try.f56 (a0, a1, ()) := by kernel_rfl
theorem fulcrummem_Kept.of (k : Nat) (a0 : (List Int)) (a1 : (List Int)) {y : Bool × Unit} (h : fulcrummem_Kept.e (fulcrummem_Kept.L4 k) (fulcrummem_Kept.L9 k) a0 a1 = some y) : fulcrummem_Kept.F (a0, a1, ()) = some y := (fulcrummem_Kept.F_eq a0 a1).trans (limF_of (q := fulcrummem_Kept.spec) (C := fulcrummem_Kept.cals) (T := T) (f := Try.f56) (x := (a0, a1, ())) (y := y) k ((fulcrummem_Kept.eval k a0 a1).trans h))

-- NOT WALKED 17 fulcrumlaw01_NatOwn: callee fulcrummem_Room is not walked

end Go.Fx.Try
