import Derived.Test.YtflgmookgadodaaEv23
import Derived.Test.YtflgmookgadodaaProg
namespace Go.Fx.Try
open Go Go.Proofs Go.Fx
set_option linter.unusedVariables false
set_option maxRecDepth 100000

def ti27 : TI := ⟨.int .u32, (.int .u32), false, 4⟩
def T27 : Tab := Tab.cons 27 ti27 Tab.nil
theorem tab27 : TabOk Try.prog T27 := TabOk.cons (by kernel_rfl) { info := ⟨Try.t27, by kernel_rfl, by kernel_rfl, by kernel_rfl, (.int .u32 0), by kernel_rfl, by kernel_rfl⟩, agg := ⟨_, Try.underlying27, rfl⟩, desc := ⟨Try.underlying27, rfl⟩ } TabOk.nil
def ti24 : TI := ⟨.sl 27, (.sl 27 (.int .u32)), false, 24⟩
def T24 : Tab := Tab.cons 24 ti24 T27
theorem tab24 : TabOk Try.prog T24 := TabOk.cons (by kernel_rfl) { info := ⟨Try.t24, by kernel_rfl, by kernel_rfl, by kernel_rfl, (.slice none 0 0), by kernel_rfl, by kernel_rfl⟩, agg := ⟨_, Try.underlying24, rfl⟩, desc := ⟨Try.underlying24, ti27, by kernel_rfl, rfl, by decide⟩ } tab27
def ti4 : TI := ⟨.bool, .bool, false, 1⟩
def T4 : Tab := Tab.cons 4 ti4 T24
theorem tab4 : TabOk Try.prog T4 := TabOk.cons (by kernel_rfl) { info := ⟨Try.t4, by kernel_rfl, by kernel_rfl, by kernel_rfl, (.bool false), by kernel_rfl, by kernel_rfl⟩, agg := ⟨_, Try.underlying4, rfl⟩, desc := ⟨Try.underlying4, rfl⟩ } tab24
def ti26 : TI := ⟨.int .u64, (.int .u64), false, 8⟩
def T26 : Tab := Tab.cons 26 ti26 T4
theorem tab26 : TabOk Try.prog T26 := TabOk.cons (by kernel_rfl) { info := ⟨Try.t26, by kernel_rfl, by kernel_rfl, by kernel_rfl, (.int .u64 0), by kernel_rfl, by kernel_rfl⟩, agg := ⟨_, Try.underlying26, rfl⟩, desc := ⟨Try.underlying26, rfl⟩ } tab4
def T : Tab := T26
theorem tabOk : TabOk Try.prog T := tab26
theorem mix : Try.prog.follows .mixedOrders = true := by kernel_rfl

/-! ### fulcrum/nat.trim -/
def nat_trim.spec : Spec := ⟨[(false, (.sl 27 (.int .u32)))], [(false, (.sl 27 (.int .u32)))], .shared, fun j => match j with | 2 => [(0, .lf (.z 27 (.int .u32) true)), (3, .lf (.v true))] | _ => []⟩
noncomputable def nat_trim.cals : Cals := Cals.nil
noncomputable def nat_trim.sig : Sig := nat_trim.spec.sig nat_trim.cals T Try.f59
noncomputable def nat_trim.F (x : (List Int) × Unit) : Option ((List Int) × Unit) := limF nat_trim.spec nat_trim.cals T Try.f59 x
theorem nat_trim.ck : CalsOk Try.prog nat_trim.cals := CalsOk.nil
theorem nat_trim.cal : CalOk Try.prog 59 nat_trim.sig := calOk_lim' tabOk nat_trim.ck mix Try.func59 (by kernel_rfl) (by kernel_rfl) (by kernel_rfl) (by kernel_rfl)
def nat_trim.m2 (x0 : (List Int)) (x3 : Int) : S := ⟨[(0, .one (.lf (.val true (.sl 27 (.int .u32)) x0))), (3, .one (.lf (.val true (.int .i64) x3)))], ⟨[], []⟩⟩
noncomputable def nat_trim.b2 (f2 : (List Int) → Int → Option ((List Int) × Unit)) (x0 : (List Int)) (x3 : Int) : Option ((List Int) × Unit) :=
  let v1 := decide (x3 > (0 : Int))
  bif v1 then (let v2 := IntKind.i64.wrap (x3 - (1 : Int))
  bif decide (0 ≤ v2) && decide (v2 < (List.length x0 : Int)) then (let v3 := List.getD x0 (Int.toNat v2) (0 : Int)
  let v4 := (v3 == (0 : Int))
  bif v4 then (let v5 := IntKind.i64.wrap (x3 - (1 : Int))
  f2 x0 v5)
  else (bif decide (0 ≤ x3) && decide (x3 ≤ (List.length x0 : Int)) then (let v6 := List.take (Int.toNat x3) x0
  some (v6, ()))
  else none))
  else none)
  else (bif decide (0 ≤ x3) && decide (x3 ≤ (List.length x0 : Int)) then (let v7 := List.take (Int.toNat x3) x0
  some (v7, ()))
  else none)
noncomputable def nat_trim.e (f2 : (List Int) → Int → Option ((List Int) × Unit)) (a0 : (List Int)) : Option ((List Int) × Unit) :=
  let v1 := (List.length a0 : Int)
  f2 a0 v1
noncomputable def nat_trim.L2 (k : Nat) (x0 : (List Int)) (x3 : Int) : Option ((List Int) × Unit) := heads (nat_trim.spec.env nat_trim.cals T Try.f59) (Func.pts Try.f59) k 2 (nat_trim.m2 x0 x3)
theorem nat_trim.L2_succ (k : Nat) (x0 : (List Int)) (x3 : Int) : nat_trim.L2 (k + 1) x0 x3 = nat_trim.b2 (nat_trim.L2 k) x0 x3 := by kernel_rfl
theorem nat_trim.L2_zero (x0 : (List Int)) (x3 : Int) : nat_trim.L2 0 x0 x3 = none := by kernel_rfl
theorem nat_trim.eval (k : Nat) (a0 : (List Int)) : evalF nat_trim.spec nat_trim.cals T Try.f59 k (a0, ()) = nat_trim.e (nat_trim.L2 k) a0 := by kernel_rfl
theorem nat_trim.F_eq (a0 : (List Int)) : nat_trim.F (a0, ()) = limF nat_trim.spec nat_trim.cals T Try.f59 (a0, ()) := by kernel_rfl
theorem nat_trim.of (k : Nat) (a0 : (List Int)) {y : (List Int) × Unit} (h : nat_trim.e (nat_trim.L2 k) a0 = some y) : nat_trim.F (a0, ()) = some y := (nat_trim.F_eq a0).trans (limF_of (q := nat_trim.spec) (C := nat_trim.cals) (T := T) (f := Try.f59) (x := (a0, ())) (y := y) k ((nat_trim.eval k a0).trans h))

/-! ### fulcrum/nat.own -/
def nat_own.spec : Spec := ⟨[(false, (.sl 27 (.int .u32)))], [(false, (.sl 27 (.int .u32)))], .own, fun j => match j with  | _ => []⟩
noncomputable def nat_own.cals : Cals := (Cals.cons 59 nat_trim.sig Cals.nil)
noncomputable def nat_own.sig : Sig := nat_own.spec.sig nat_own.cals T Try.f58
noncomputable def nat_own.F (x : (List Int) × Unit) : Option ((List Int) × Unit) := limF nat_own.spec nat_own.cals T Try.f58 x
theorem nat_own.ck : CalsOk Try.prog nat_own.cals := (CalsOk.cons nat_trim.cal CalsOk.nil)
theorem nat_own.cal : CalOk Try.prog 58 nat_own.sig := calOk_lim' tabOk nat_own.ck mix Try.func58 (by kernel_rfl) (by kernel_rfl) (by kernel_rfl) (by kernel_rfl)
noncomputable def nat_own.e  (a0 : (List Int)) : Option ((List Int) × Unit) :=
  (nat_trim.F (a0, ())).bind fun y1 =>
  let v2 := (List.length y1.1 : Int)
  let v3 := (v2 == (0 : Int))
  bif v3 then (some (([] : List Int), ()))
  else (let v4 := (List.length y1.1 : Int)
  bif decide (0 ≤ v4) && (decide (v4 ≤ v4) && (decide (Int.toNat v4 * 4 ≤ 281474976710656) && Nat.blt 0 4)) then (let v5 := List.replicate (Int.toNat v4) (0 : Int)
  let v6 := List.take (List.length v5) y1.1 ++ List.drop (List.length y1.1) v5
  let v7 := ((Nat.min (List.length y1.1) (List.length v5) : Nat) : Int)
  some (v6, ()))
  else none)
theorem nat_own.eval (k : Nat) (a0 : (List Int)) : evalF nat_own.spec nat_own.cals T Try.f58 k (a0, ()) = nat_own.e  a0 := by kernel_rfl
theorem nat_own.F_eq (a0 : (List Int)) : nat_own.F (a0, ()) = limF nat_own.spec nat_own.cals T Try.f58 (a0, ()) := by kernel_rfl
theorem nat_own.of (k : Nat) (a0 : (List Int)) {y : (List Int) × Unit} (h : nat_own.e  a0 = some y) : nat_own.F (a0, ()) = some y := (nat_own.F_eq a0).trans (limF_of (q := nat_own.spec) (C := nat_own.cals) (T := T) (f := Try.f58) (x := (a0, ())) (y := y) k ((nat_own.eval k a0).trans h))

/-! ### fulcrum/fulcrumref01.Same -/
def fulcrumref01_Same.spec : Spec := ⟨[(false, (.sl 27 (.int .u32))), (false, (.sl 27 (.int .u32)))], [(false, .bool)], .own, fun j => match j with | 4 => [(0, .lf (.z 27 (.int .u32) false)), (1, .lf (.z 27 (.int .u32) false)), (5, .lf (.v true))] | _ => []⟩
noncomputable def fulcrumref01_Same.cals : Cals := Cals.nil
noncomputable def fulcrumref01_Same.sig : Sig := fulcrumref01_Same.spec.sig fulcrumref01_Same.cals T Try.f57
noncomputable def fulcrumref01_Same.F (x : (List Int) × (List Int) × Unit) : Option (Bool × Unit) := limF fulcrumref01_Same.spec fulcrumref01_Same.cals T Try.f57 x
theorem fulcrumref01_Same.ck : CalsOk Try.prog fulcrumref01_Same.cals := CalsOk.nil
theorem fulcrumref01_Same.cal : CalOk Try.prog 57 fulcrumref01_Same.sig := calOk_lim' tabOk fulcrumref01_Same.ck mix Try.func57 (by kernel_rfl) (by kernel_rfl) (by kernel_rfl) (by kernel_rfl)
def fulcrumref01_Same.m4 (x0 : (List Int)) (x1 : (List Int)) (x5 : Int) : S := ⟨[(0, .one (.lf (.val false (.sl 27 (.int .u32)) x0))), (1, .one (.lf (.val false (.sl 27 (.int .u32)) x1))), (5, .one (.lf (.val true (.int .i64) x5)))], ⟨[], []⟩⟩
noncomputable def fulcrumref01_Same.b4 (f4 : (List Int) → (List Int) → Int → Option (Bool × Unit)) (x0 : (List Int)) (x1 : (List Int)) (x5 : Int) : Option (Bool × Unit) :=
  let v1 := (List.length x0 : Int)
  let v2 := decide (x5 < v1)
  bif v2 then (bif decide (0 ≤ x5) && decide (x5 < (List.length x0 : Int)) then (let v3 := List.getD x0 (Int.toNat x5) (0 : Int)
  bif decide (0 ≤ x5) && decide (x5 < (List.length x1 : Int)) then (let v4 := List.getD x1 (Int.toNat x5) (0 : Int)
  let v5 := (v3 != v4)
  bif v5 then (some (false, ()))
  else (let v6 := IntKind.i64.wrap (x5 + (1 : Int))
  f4 x0 x1 v6))
  else none)
  else none)
  else (some (true, ()))
noncomputable def fulcrumref01_Same.e (f4 : (List Int) → (List Int) → Int → Option (Bool × Unit)) (a0 : (List Int)) (a1 : (List Int)) : Option (Bool × Unit) :=
  let v1 := (List.length a0 : Int)
  let v2 := (List.length a1 : Int)
  let v3 := (v1 != v2)
  bif v3 then (some (false, ()))
  else (f4 a0 a1 (0 : Int))
noncomputable def fulcrumref01_Same.L4 (k : Nat) (x0 : (List Int)) (x1 : (List Int)) (x5 : Int) : Option (Bool × Unit) := heads (fulcrumref01_Same.spec.env fulcrumref01_Same.cals T Try.f57) (Func.pts Try.f57) k 4 (fulcrumref01_Same.m4 x0 x1 x5)
theorem fulcrumref01_Same.L4_succ (k : Nat) (x0 : (List Int)) (x1 : (List Int)) (x5 : Int) : fulcrumref01_Same.L4 (k + 1) x0 x1 x5 = fulcrumref01_Same.b4 (fulcrumref01_Same.L4 k) x0 x1 x5 := by kernel_rfl
theorem fulcrumref01_Same.L4_zero (x0 : (List Int)) (x1 : (List Int)) (x5 : Int) : fulcrumref01_Same.L4 0 x0 x1 x5 = none := by kernel_rfl
theorem fulcrumref01_Same.eval (k : Nat) (a0 : (List Int)) (a1 : (List Int)) : evalF fulcrumref01_Same.spec fulcrumref01_Same.cals T Try.f57 k (a0, a1, ()) = fulcrumref01_Same.e (fulcrumref01_Same.L4 k) a0 a1 := by kernel_rfl
theorem fulcrumref01_Same.F_eq (a0 : (List Int)) (a1 : (List Int)) : fulcrumref01_Same.F (a0, a1, ()) = limF fulcrumref01_Same.spec fulcrumref01_Same.cals T Try.f57 (a0, a1, ()) := by kernel_rfl
theorem fulcrumref01_Same.of (k : Nat) (a0 : (List Int)) (a1 : (List Int)) {y : Bool × Unit} (h : fulcrumref01_Same.e (fulcrumref01_Same.L4 k) a0 a1 = some y) : fulcrumref01_Same.F (a0, a1, ()) = some y := (fulcrumref01_Same.F_eq a0 a1).trans (limF_of (q := fulcrumref01_Same.spec) (C := fulcrumref01_Same.cals) (T := T) (f := Try.f57) (x := (a0, a1, ())) (y := y) k ((fulcrumref01_Same.eval k a0 a1).trans h))

/-! ### fulcrum/fulcrumlaw01.same -/
def fulcrumlaw01_same.spec : Spec := ⟨[(false, (.sl 27 (.int .u32))), (false, (.sl 27 (.int .u32)))], [(false, .bool)], .own, fun j => match j with  | _ => []⟩
noncomputable def fulcrumlaw01_same.cals : Cals := (Cals.cons 57 fulcrumref01_Same.sig Cals.nil)
noncomputable def fulcrumlaw01_same.sig : Sig := fulcrumlaw01_same.spec.sig fulcrumlaw01_same.cals T Try.f18
noncomputable def fulcrumlaw01_same.F (x : (List Int) × (List Int) × Unit) : Option (Bool × Unit) := limF fulcrumlaw01_same.spec fulcrumlaw01_same.cals T Try.f18 x
theorem fulcrumlaw01_same.ck : CalsOk Try.prog fulcrumlaw01_same.cals := (CalsOk.cons fulcrumref01_Same.cal CalsOk.nil)
theorem fulcrumlaw01_same.cal : CalOk Try.prog 18 fulcrumlaw01_same.sig := calOk_lim' tabOk fulcrumlaw01_same.ck mix Try.func18 (by kernel_rfl) (by kernel_rfl) (by kernel_rfl) (by kernel_rfl)
noncomputable def fulcrumlaw01_same.e  (a0 : (List Int)) (a1 : (List Int)) : Option (Bool × Unit) :=
  (fulcrumref01_Same.F (a0, a1, ())).bind fun y1 =>
  some (y1.1, ())
theorem fulcrumlaw01_same.eval (k : Nat) (a0 : (List Int)) (a1 : (List Int)) : evalF fulcrumlaw01_same.spec fulcrumlaw01_same.cals T Try.f18 k (a0, a1, ()) = fulcrumlaw01_same.e  a0 a1 := by kernel_rfl
theorem fulcrumlaw01_same.F_eq (a0 : (List Int)) (a1 : (List Int)) : fulcrumlaw01_same.F (a0, a1, ()) = limF fulcrumlaw01_same.spec fulcrumlaw01_same.cals T Try.f18 (a0, a1, ()) := by kernel_rfl
theorem fulcrumlaw01_same.of (k : Nat) (a0 : (List Int)) (a1 : (List Int)) {y : Bool × Unit} (h : fulcrumlaw01_same.e  a0 a1 = some y) : fulcrumlaw01_same.F (a0, a1, ()) = some y := (fulcrumlaw01_same.F_eq a0 a1).trans (limF_of (q := fulcrumlaw01_same.spec) (C := fulcrumlaw01_same.cals) (T := T) (f := Try.f18) (x := (a0, a1, ())) (y := y) k ((fulcrumlaw01_same.eval k a0 a1).trans h))

/-! ### fulcrum/nat.Of -/
def nat_Of.spec : Spec := ⟨[(false, (.int .u64))], [(false, (.sl 27 (.int .u32)))], .own, fun j => match j with  | _ => []⟩
noncomputable def nat_Of.cals : Cals := (Cals.cons 58 nat_own.sig Cals.nil)
noncomputable def nat_Of.sig : Sig := nat_Of.spec.sig nat_Of.cals T Try.f19
noncomputable def nat_Of.F (x : Int × Unit) : Option ((List Int) × Unit) := limF nat_Of.spec nat_Of.cals T Try.f19 x
theorem nat_Of.ck : CalsOk Try.prog nat_Of.cals := (CalsOk.cons nat_own.cal CalsOk.nil)
theorem nat_Of.cal : CalOk Try.prog 19 nat_Of.sig := calOk_lim' tabOk nat_Of.ck mix Try.func19 (by kernel_rfl) (by kernel_rfl) (by kernel_rfl) (by kernel_rfl)
noncomputable def nat_Of.e  (a0 : Int) : Option ((List Int) × Unit) :=
  let v1 := IntKind.u32.wrap a0
  bif decide ((32 : Int) < 0) then none
  else (let v2 := shrI .u64 a0 (32 : Int)
  let v3 := IntKind.u32.wrap v2
  let v4 := ([v1, v3] : List Int)
  (nat_own.F (v4, ())).bind fun y5 =>
  some (y5.1, ()))
theorem nat_Of.eval (k : Nat) (a0 : Int) : evalF nat_Of.spec nat_Of.cals T Try.f19 k (a0, ()) = nat_Of.e  a0 := by kernel_rfl
theorem nat_Of.F_eq (a0 : Int) : nat_Of.F (a0, ()) = limF nat_Of.spec nat_Of.cals T Try.f19 (a0, ()) := by kernel_rfl
theorem nat_Of.of (k : Nat) (a0 : Int) {y : (List Int) × Unit} (h : nat_Of.e  a0 = some y) : nat_Of.F (a0, ()) = some y := (nat_Of.F_eq a0).trans (limF_of (q := nat_Of.spec) (C := nat_Of.cals) (T := T) (f := Try.f19) (x := (a0, ())) (y := y) k ((nat_Of.eval k a0).trans h))

/-! ### fulcrum/fulcrumlaw01.NatConsts -/
def fulcrumlaw01_NatConsts.spec : Spec := ⟨[], [(false, .bool)], .own, fun j => match j with  | _ => []⟩
noncomputable def fulcrumlaw01_NatConsts.cals : Cals := (Cals.cons 19 nat_Of.sig (Cals.cons 18 fulcrumlaw01_same.sig Cals.nil))
noncomputable def fulcrumlaw01_NatConsts.sig : Sig := fulcrumlaw01_NatConsts.spec.sig fulcrumlaw01_NatConsts.cals T Try.f3
noncomputable def fulcrumlaw01_NatConsts.F (x : Unit) : Option (Bool × Unit) := limF fulcrumlaw01_NatConsts.spec fulcrumlaw01_NatConsts.cals T Try.f3 x
theorem fulcrumlaw01_NatConsts.ck : CalsOk Try.prog fulcrumlaw01_NatConsts.cals := (CalsOk.cons nat_Of.cal (CalsOk.cons fulcrumlaw01_same.cal CalsOk.nil))
theorem fulcrumlaw01_NatConsts.cal : CalOk Try.prog 3 fulcrumlaw01_NatConsts.sig := calOk_lim' tabOk fulcrumlaw01_NatConsts.ck mix Try.func3 (by kernel_rfl) (by kernel_rfl) (by kernel_rfl) (by kernel_rfl)
noncomputable def fulcrumlaw01_NatConsts.e   : Option (Bool × Unit) :=
  (nat_Of.F ((7 : Int), ())).bind fun y1 =>
  let v2 := ([(7 : Int)] : List Int)
  (fulcrumlaw01_same.F (y1.1, v2, ())).bind fun y3 =>
  let v4 := not y3.1
  bif v4 then (some (false, ()))
  else (some (true, ()))
theorem fulcrumlaw01_NatConsts.eval (k : Nat)  : evalF fulcrumlaw01_NatConsts.spec fulcrumlaw01_NatConsts.cals T Try.f3 k () = fulcrumlaw01_NatConsts.e   := by kernel_rfl
theorem fulcrumlaw01_NatConsts.F_eq  : fulcrumlaw01_NatConsts.F () = limF fulcrumlaw01_NatConsts.spec fulcrumlaw01_NatConsts.cals T Try.f3 () := by kernel_rfl
theorem fulcrumlaw01_NatConsts.of (k : Nat)  {y : Bool × Unit} (h : fulcrumlaw01_NatConsts.e   = some y) : fulcrumlaw01_NatConsts.F () = some y := (fulcrumlaw01_NatConsts.F_eq ).trans (limF_of (q := fulcrumlaw01_NatConsts.spec) (C := fulcrumlaw01_NatConsts.cals) (T := T) (f := Try.f3) (x := ()) (y := y) k ((fulcrumlaw01_NatConsts.eval k ).trans h))

end Go.Fx.Try
