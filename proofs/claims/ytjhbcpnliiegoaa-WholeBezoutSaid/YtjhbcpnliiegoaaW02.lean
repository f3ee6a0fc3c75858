import Derived.Test.YtjhbcpnliiegoaaEv27
import Derived.Test.YtjhbcpnliiegoaaProg
namespace Go.Fx.Try
open Go Go.Proofs Go.Fx
set_option linter.unusedVariables false
set_option maxRecDepth 100000

def ti70 : TI := ⟨.int .u32, (.int .u32), false, 4⟩
def T70 : Tab := Tab.cons 70 ti70 Tab.nil
theorem tab70 : TabOk Try.prog T70 := TabOk.cons (by kernel_rfl) { info := ⟨Try.t70, by kernel_rfl, by kernel_rfl, by kernel_rfl, (.int .u32 0), by kernel_rfl, by kernel_rfl⟩, agg := ⟨_, Try.underlying70, rfl⟩, desc := ⟨Try.underlying70, rfl⟩ } TabOk.nil
def ti23 : TI := ⟨.sl 70, (.sl 70 (.int .u32)), false, 24⟩
def T23 : Tab := Tab.cons 23 ti23 T70
theorem tab23 : TabOk Try.prog T23 := TabOk.cons (by kernel_rfl) { info := ⟨Try.t23, by kernel_rfl, by kernel_rfl, by kernel_rfl, (.slice none 0 0), by kernel_rfl, by kernel_rfl⟩, agg := ⟨_, Try.underlying23, rfl⟩, desc := ⟨Try.underlying23, ti70, by kernel_rfl, rfl, by decide⟩ } tab70
def ti4 : TI := ⟨.bool, .bool, false, 1⟩
def T4 : Tab := Tab.cons 4 ti4 T23
theorem tab4 : TabOk Try.prog T4 := TabOk.cons (by kernel_rfl) { info := ⟨Try.t4, by kernel_rfl, by kernel_rfl, by kernel_rfl, (.bool false), by kernel_rfl, by kernel_rfl⟩, agg := ⟨_, Try.underlying4, rfl⟩, desc := ⟨Try.underlying4, rfl⟩ } tab23
def ti25 : TI := ⟨.struct [(0, 4), (1, 23)], (.prod .bool (.sl 70 (.int .u32))), true, 32⟩
def T25 : Tab := Tab.cons 25 ti25 T4
theorem tab25 : TabOk Try.prog T25 := TabOk.cons (by kernel_rfl) { info := ⟨Try.t25, by kernel_rfl, by kernel_rfl, by kernel_rfl, (.agg #[.bool false, .slice none 0 0]), by kernel_rfl, by kernel_rfl⟩, agg := ⟨_, Try.underlying25, rfl⟩, desc := ⟨_, Try.underlying25, rfl, fun i o ft h => match i, h with | 0, h => by simp at h; obtain ⟨rfl, rfl⟩ := h; exact ⟨_, rfl, rfl, rfl, ti4, by kernel_rfl, by decide⟩ | 1, h => by simp at h; obtain ⟨rfl, rfl⟩ := h; exact ⟨_, rfl, rfl, rfl, ti23, by kernel_rfl, by decide⟩ | n + 2, h => by simp at h⟩ } tab4
def ti3 : TI := ⟨.int .i64, (.int .i64), false, 8⟩
def T3 : Tab := Tab.cons 3 ti3 T25
theorem tab3 : TabOk Try.prog T3 := TabOk.cons (by kernel_rfl) { info := ⟨Try.t3, by kernel_rfl, by kernel_rfl, by kernel_rfl, (.int .i64 0), by kernel_rfl, by kernel_rfl⟩, agg := ⟨_, Try.underlying3, rfl⟩, desc := ⟨Try.underlying3, rfl⟩ } tab25
def ti64 : TI := ⟨.int .u64, (.int .u64), false, 8⟩
def T64 : Tab := Tab.cons 64 ti64 T3
theorem tab64 : TabOk Try.prog T64 := TabOk.cons (by kernel_rfl) { info := ⟨Try.t64, by kernel_rfl, by kernel_rfl, by kernel_rfl, (.int .u64 0), by kernel_rfl, by kernel_rfl⟩, agg := ⟨_, Try.underlying64, rfl⟩, desc := ⟨Try.underlying64, rfl⟩ } tab3
def ti2 : TI := ⟨.int .i64, (.int .i64), false, 8⟩
def T2 : Tab := Tab.cons 2 ti2 T64
theorem tab2 : TabOk Try.prog T2 := TabOk.cons (by kernel_rfl) { info := ⟨Try.t2, by kernel_rfl, by kernel_rfl, by kernel_rfl, (.int .i64 0), by kernel_rfl, by kernel_rfl⟩, agg := ⟨_, Try.underlying2, rfl⟩, desc := ⟨Try.underlying2, rfl⟩ } tab64
def ti83 : TI := ⟨.sl 3, (.sl 3 (.int .i64)), false, 24⟩
def T83 : Tab := Tab.cons 83 ti83 T2
theorem tab83 : TabOk Try.prog T83 := TabOk.cons (by kernel_rfl) { info := ⟨Try.t83, by kernel_rfl, by kernel_rfl, by kernel_rfl, (.slice none 0 0), by kernel_rfl, by kernel_rfl⟩, agg := ⟨_, Try.underlying83, rfl⟩, desc := ⟨Try.underlying83, ti3, by kernel_rfl, rfl, by decide⟩ } tab2
def ti40 : TI := ⟨.int .i64, (.int .i64), false, 8⟩
def T40 : Tab := Tab.cons 40 ti40 T83
theorem tab40 : TabOk Try.prog T40 := TabOk.cons (by kernel_rfl) { info := ⟨Try.t40, by kernel_rfl, by kernel_rfl, by kernel_rfl, (.int .i64 0), by kernel_rfl, by kernel_rfl⟩, agg := ⟨_, Try.underlying40, rfl⟩, desc := ⟨Try.underlying40, rfl⟩ } tab83
def ti80 : TI := ⟨.int .u64, (.int .u64), false, 8⟩
def T80 : Tab := Tab.cons 80 ti80 T40
theorem tab80 : TabOk Try.prog T80 := TabOk.cons (by kernel_rfl) { info := ⟨Try.t80, by kernel_rfl, by kernel_rfl, by kernel_rfl, (.int .u64 0), by kernel_rfl, by kernel_rfl⟩, agg := ⟨_, Try.underlying80, rfl⟩, desc := ⟨Try.underlying80, rfl⟩ } tab40
def ti5 : TI := ⟨.int .u8, (.int .u8), false, 1⟩
def T5 : Tab := Tab.cons 5 ti5 T80
theorem tab5 : TabOk Try.prog T5 := TabOk.cons (by kernel_rfl) { info := ⟨Try.t5, by kernel_rfl, by kernel_rfl, by kernel_rfl, (.int .u8 0), by kernel_rfl, by kernel_rfl⟩, agg := ⟨_, Try.underlying5, rfl⟩, desc := ⟨Try.underlying5, rfl⟩ } tab80
def ti9 : TI := ⟨.str, .str, false, 16⟩
def T9 : Tab := Tab.cons 9 ti9 T5
theorem tab9 : TabOk Try.prog T9 := TabOk.cons (by kernel_rfl) { info := ⟨Try.t9, by kernel_rfl, by kernel_rfl, by kernel_rfl, (.string ByteArray.empty), by kernel_rfl, by kernel_rfl⟩, agg := ⟨_, Try.underlying9, rfl⟩, desc := ⟨Try.underlying9, rfl⟩ } tab5
def T : Tab := T9
theorem tabOk : TabOk Try.prog T := tab9
theorem mix : Try.prog.follows .mixedOrders = true := by kernel_rfl

/-! ### fulcrum/whole.core -/
def whole_core.spec : Spec := ⟨[(false, (.sl 70 (.int .u32)))], [(false, (.sl 70 (.int .u32)))], .shared, fun j => match j with | 2 => [(0, .lf (.z 70 (.int .u32) true)), (3, .lf (.v true))] | _ => []⟩
noncomputable def whole_core.cals : Cals := Cals.nil
noncomputable def whole_core.sig : Sig := whole_core.spec.sig whole_core.cals T Try.f78
noncomputable def whole_core.F (x : (List Int) × Unit) : Option ((List Int) × Unit) := limF whole_core.spec whole_core.cals T Try.f78 x
theorem whole_core.ck : CalsOk Try.prog whole_core.cals := CalsOk.nil
theorem whole_core.cal : CalOk Try.prog 78 whole_core.sig := calOk_lim' tabOk whole_core.ck mix Try.func78 (by kernel_rfl) (by kernel_rfl) (by kernel_rfl) (by kernel_rfl)
def whole_core.m2 (x0 : (List Int)) (x3 : Int) : S := ⟨[(0, .one (.lf (.val true (.sl 70 (.int .u32)) x0))), (3, .one (.lf (.val true (.int .i64) x3)))], ⟨[], []⟩⟩
noncomputable def whole_core.b2 (f2 : (List Int) → Int → Option ((List Int) × Unit)) (x0 : (List Int)) (x3 : Int) : Option ((List Int) × Unit) :=
  let v1 := decide (x3 > (0 : Int))
  bif v1 then (let v2 := IntKind.i64.wrap (x3 - (1 : Int))
  bif decide (0 ≤ v2) && decide (v2 < (List.length x0 : Int)) then (let v3 := List.getD x0 (Int.toNat v2) (0 : Int)
  let v4 := (v3 == (0 : Int))
  bif v4 then (let v5 := IntKind.i64.wrap (x3 - (1 : Int))
  f2 x0 v5)
  else (bif decide (0 ≤ x3) && (decide (x3 ≤ x3) && decide (x3 ≤ (List.length x0 : Int))) then (let v6 := List.take (Int.toNat x3) x0
  some (v6, ()))
  else none))
  else none)
  else (bif decide (0 ≤ x3) && (decide (x3 ≤ x3) && decide (x3 ≤ (List.length x0 : Int))) then (let v7 := List.take (Int.toNat x3) x0
  some (v7, ()))
  else none)
noncomputable def whole_core.e (f2 : (List Int) → Int → Option ((List Int) × Unit)) (a0 : (List Int)) : Option ((List Int) × Unit) :=
  let v1 := (List.length a0 : Int)
  f2 a0 v1
noncomputable def whole_core.L2 (k : Nat) (x0 : (List Int)) (x3 : Int) : Option ((List Int) × Unit) := heads (whole_core.spec.env whole_core.cals T Try.f78) (Func.pts Try.f78) k 2 (whole_core.m2 x0 x3)
theorem whole_core.L2_succ (k : Nat) (x0 : (List Int)) (x3 : Int) : whole_core.L2 (k + 1) x0 x3 = whole_core.b2 (whole_core.L2 k) x0 x3 := by kernel_rfl
theorem whole_core.L2_zero (x0 : (List Int)) (x3 : Int) : whole_core.L2 0 x0 x3 = none := by kernel_rfl
theorem whole_core.eval (k : Nat) (a0 : (List Int)) : evalF whole_core.spec whole_core.cals T Try.f78 k (a0, ()) = whole_core.e (whole_core.L2 k) a0 := by kernel_rfl
theorem whole_core.F_eq (a0 : (List Int)) : whole_core.F (a0, ()) = limF whole_core.spec whole_core.cals T Try.f78 (a0, ()) := by kernel_rfl
theorem whole_core.of (k : Nat) (a0 : (List Int)) {y : (List Int) × Unit} (h : whole_core.e (whole_core.L2 k) a0 = some y) : whole_core.F (a0, ()) = some y := (whole_core.F_eq a0).trans (limF_of (q := whole_core.spec) (C := whole_core.cals) (T := T) (f := Try.f78) (x := (a0, ())) (y := y) k ((whole_core.eval k a0).trans h))

/-! ### fulcrum/whole.Sign -/
def whole_Sign.spec : Spec := ⟨[(true, (.prod .bool (.sl 70 (.int .u32))))], [(false, (.int .i64))], .own, fun j => match j with  | _ => []⟩
noncomputable def whole_Sign.cals : Cals := (Cals.cons 78 whole_core.sig Cals.nil)
noncomputable def whole_Sign.sig : Sig := whole_Sign.spec.sig whole_Sign.cals T Try.f29
noncomputable def whole_Sign.F (x : (Bool × (List Int)) × Unit) : Option (Int × Unit) := limF whole_Sign.spec whole_Sign.cals T Try.f29 x
theorem whole_Sign.ck : CalsOk Try.prog whole_Sign.cals := (CalsOk.cons whole_core.cal CalsOk.nil)
theorem whole_Sign.cal : CalOk Try.prog 29 whole_Sign.sig := calOk_lim' tabOk whole_Sign.ck mix Try.func29 (by kernel_rfl) (by kernel_rfl) (by kernel_rfl) (by kernel_rfl)
noncomputable def whole_Sign.e  (a0 : (Bool × (List Int))) : Option (Int × Unit) :=
  (whole_core.F (a0.2, ())).bind fun y1 =>
  let v2 := (List.length y1.1 : Int)
  let v3 := (v2 == (0 : Int))
  bif v3 then (some ((0 : Int), ()))
  else (bif a0.1 then (some ((-1 : Int), ()))
  else (some ((1 : Int), ())))
theorem whole_Sign.eval (k : Nat) (a0 : (Bool × (List Int))) : evalF whole_Sign.spec whole_Sign.cals T Try.f29 k (a0, ()) = whole_Sign.e  a0 := by kernel_rfl
theorem whole_Sign.F_eq (a0 : (Bool × (List Int))) : whole_Sign.F (a0, ()) = limF whole_Sign.spec whole_Sign.cals T Try.f29 (a0, ()) := by kernel_rfl
theorem whole_Sign.of (k : Nat) (a0 : (Bool × (List Int))) {y : Int × Unit} (h : whole_Sign.e  a0 = some y) : whole_Sign.F (a0, ()) = some y := (whole_Sign.F_eq a0).trans (limF_of (q := whole_Sign.spec) (C := whole_Sign.cals) (T := T) (f := Try.f29) (x := (a0, ())) (y := y) k ((whole_Sign.eval k a0).trans h))

/-! ### fulcrum/nat.trim -/
def nat_trim.spec : Spec := ⟨[(false, (.sl 70 (.int .u32)))], [(false, (.sl 70 (.int .u32)))], .shared, fun j => match j with | 2 => [(0, .lf (.z 70 (.int .u32) true)), (3, .lf (.v true))] | _ => []⟩
noncomputable def nat_trim.cals : Cals := Cals.nil
noncomputable def nat_trim.sig : Sig := nat_trim.spec.sig nat_trim.cals T Try.f98
noncomputable def nat_trim.F (x : (List Int) × Unit) : Option ((List Int) × Unit) := limF nat_trim.spec nat_trim.cals T Try.f98 x
theorem nat_trim.ck : CalsOk Try.prog nat_trim.cals := CalsOk.nil
theorem nat_trim.cal : CalOk Try.prog 98 nat_trim.sig := calOk_lim' tabOk nat_trim.ck mix Try.func98 (by kernel_rfl) (by kernel_rfl) (by kernel_rfl) (by kernel_rfl)
def nat_trim.m2 (x0 : (List Int)) (x3 : Int) : S := ⟨[(0, .one (.lf (.val true (.sl 70 (.int .u32)) x0))), (3, .one (.lf (.val true (.int .i64) x3)))], ⟨[], []⟩⟩
noncomputable def nat_trim.b2 (f2 : (List Int) → Int → Option ((List Int) × Unit)) (x0 : (List Int)) (x3 : Int) : Option ((List Int) × Unit) :=
  let v1 := decide (x3 > (0 : Int))
  bif v1 then (let v2 := IntKind.i64.wrap (x3 - (1 : Int))
  bif decide (0 ≤ v2) && decide (v2 < (List.length x0 : Int)) then (let v3 := List.getD x0 (Int.toNat v2) (0 : Int)
  let v4 := (v3 == (0 : Int))
  bif v4 then (let v5 := IntKind.i64.wrap (x3 - (1 : Int))
  f2 x0 v5)
  else (bif decide (0 ≤ x3) && decide (x3 ≤ (List.length x0 : Int)) then (let v6 := List.take (Int.toNat x3) x0
  some (v6, ()))
  else none))
  else none)
  else (bif decide (0 ≤ x3) && decide (x3 ≤ (List.length x0 : Int)) then (let v7 := List.take (Int.toNat x3) x0
  some (v7, ()))
  else none)
noncomputable def nat_trim.e (f2 : (List Int) → Int → Option ((List Int) × Unit)) (a0 : (List Int)) : Option ((List Int) × Unit) :=
  let v1 := (List.length a0 : Int)
  f2 a0 v1
noncomputable def nat_trim.L2 (k : Nat) (x0 : (List Int)) (x3 : Int) : Option ((List Int) × Unit) := heads (nat_trim.spec.env nat_trim.cals T Try.f98) (Func.pts Try.f98) k 2 (nat_trim.m2 x0 x3)
theorem nat_trim.L2_succ (k : Nat) (x0 : (List Int)) (x3 : Int) : nat_trim.L2 (k + 1) x0 x3 = nat_trim.b2 (nat_trim.L2 k) x0 x3 := by kernel_rfl
theorem nat_trim.L2_zero (x0 : (List Int)) (x3 : Int) : nat_trim.L2 0 x0 x3 = none := by kernel_rfl
theorem nat_trim.eval (k : Nat) (a0 : (List Int)) : evalF nat_trim.spec nat_trim.cals T Try.f98 k (a0, ()) = nat_trim.e (nat_trim.L2 k) a0 := by kernel_rfl
theorem nat_trim.F_eq (a0 : (List Int)) : nat_trim.F (a0, ()) = limF nat_trim.spec nat_trim.cals T Try.f98 (a0, ()) := by kernel_rfl
theorem nat_trim.of (k : Nat) (a0 : (List Int)) {y : (List Int) × Unit} (h : nat_trim.e (nat_trim.L2 k) a0 = some y) : nat_trim.F (a0, ()) = some y := (nat_trim.F_eq a0).trans (limF_of (q := nat_trim.spec) (C := nat_trim.cals) (T := T) (f := Try.f98) (x := (a0, ())) (y := y) k ((nat_trim.eval k a0).trans h))

/-! ### fulcrum/nat.Small -/
def nat_Small.spec : Spec := ⟨[(false, (.sl 70 (.int .u32)))], [(false, (.int .u64)), (false, .bool)], .own, fun j => match j with | 6 => [(0, .lf (.z 70 (.int .u32) false)), (4, .lf (.v true)), (12, .lf (.v true)), (13, .lf (.v true))] | _ => []⟩
noncomputable def nat_Small.cals : Cals := (Cals.cons 98 nat_trim.sig Cals.nil)
noncomputable def nat_Small.sig : Sig := nat_Small.spec.sig nat_Small.cals T Try.f69
noncomputable def nat_Small.F (x : (List Int) × Unit) : Option (Int × Bool × Unit) := limF nat_Small.spec nat_Small.cals T Try.f69 x
theorem nat_Small.ck : CalsOk Try.prog nat_Small.cals := (CalsOk.cons nat_trim.cal CalsOk.nil)
theorem nat_Small.cal : CalOk Try.prog 69 nat_Small.sig := calOk_lim' tabOk nat_Small.ck mix Try.func69 (by kernel_rfl) (by kernel_rfl) (by kernel_rfl) (by kernel_rfl)
def nat_Small.m6 (x0 : (List Int)) (x4 : Int) (x12 : Int) (x13 : Int) : S := ⟨[(0, .one (.lf (.val false (.sl 70 (.int .u32)) x0))), (4, .one (.lf (.val true (.int .u64) x4))), (12, .one (.lf (.val true (.int .i64) x12))), (13, .one (.lf (.val true (.int .i64) x13)))], ⟨[], []⟩⟩
noncomputable def nat_Small.b6 (f6 : (List Int) → Int → Int → Int → Option (Int × Bool × Unit)) (x0 : (List Int)) (x4 : Int) (x12 : Int) (x13 : Int) : Option (Int × Bool × Unit) :=
  let v1 := decide (x13 < x12)
  bif v1 then (bif decide (0 ≤ x13) && decide (x13 < (List.length x0 : Int)) then (let v2 := List.getD x0 (Int.toNat x13) (0 : Int)
  let v3 := IntKind.u64.wrap v2
  let v4 := IntKind.i64.wrap ((32 : Int) * x13)
  bif decide (v4 < 0) then none
  else (let v5 := shlI .u64 v3 v4
  let v6 := bitsOp .or .u64 x4 v5
  let v7 := IntKind.i64.wrap (x13 + (1 : Int))
  f6 x0 v6 x12 v7))
  else none)
  else (some (x4, true, ()))
noncomputable def nat_Small.e (f6 : (List Int) → Int → Int → Int → Option (Int × Bool × Unit)) (a0 : (List Int)) : Option (Int × Bool × Unit) :=
  (nat_trim.F (a0, ())).bind fun y1 =>
  let v2 := (List.length y1.1 : Int)
  let v3 := decide (v2 > (2 : Int))
  bif v3 then (some ((0 : Int), false, ()))
  else (let v4 := (List.length y1.1 : Int)
  f6 y1.1 (0 : Int) v4 (0 : Int))
noncomputable def nat_Small.L6 (k : Nat) (x0 : (List Int)) (x4 : Int) (x12 : Int) (x13 : Int) : Option (Int × Bool × Unit) := heads (nat_Small.spec.env nat_Small.cals T Try.f69) (Func.pts Try.f69) k 6 (nat_Small.m6 x0 x4 x12 x13)
theorem nat_Small.L6_succ (k : Nat) (x0 : (List Int)) (x4 : Int) (x12 : Int) (x13 : Int) : nat_Small.L6 (k + 1) x0 x4 x12 x13 = nat_Small.b6 (nat_Small.L6 k) x0 x4 x12 x13 := by kernel_rfl
theorem nat_Small.L6_zero (x0 : (List Int)) (x4 : Int) (x12 : Int) (x13 : Int) : nat_Small.L6 0 x0 x4 x12 x13 = none := by kernel_rfl
theorem nat_Small.eval (k : Nat) (a0 : (List Int)) : evalF nat_Small.spec nat_Small.cals T Try.f69 k (a0, ()) = nat_Small.e (nat_Small.L6 k) a0 := by kernel_rfl
theorem nat_Small.F_eq (a0 : (List Int)) : nat_Small.F (a0, ()) = limF nat_Small.spec nat_Small.cals T Try.f69 (a0, ()) := by kernel_rfl
theorem nat_Small.of (k : Nat) (a0 : (List Int)) {y : Int × Bool × Unit} (h : nat_Small.e (nat_Small.L6 k) a0 = some y) : nat_Small.F (a0, ()) = some y := (nat_Small.F_eq a0).trans (limF_of (q := nat_Small.spec) (C := nat_Small.cals) (T := T) (f := Try.f69) (x := (a0, ())) (y := y) k ((nat_Small.eval k a0).trans h))

/-! ### fulcrum/whole.Small -/
def whole_Small.spec : Spec := ⟨[(true, (.prod .bool (.sl 70 (.int .u32))))], [(false, (.int .i64)), (false, .bool)], .own, fun j => match j with  | _ => []⟩
noncomputable def whole_Small.cals : Cals := (Cals.cons 69 nat_Small.sig (Cals.cons 29 whole_Sign.sig Cals.nil))
noncomputable def whole_Small.sig : Sig := whole_Small.spec.sig whole_Small.cals T Try.f17
noncomputable def whole_Small.F (x : (Bool × (List Int)) × Unit) : Option (Int × Bool × Unit) := limF whole_Small.spec whole_Small.cals T Try.f17 x
theorem whole_Small.ck : CalsOk Try.prog whole_Small.cals := (CalsOk.cons nat_Small.cal (CalsOk.cons whole_Sign.cal CalsOk.nil))
theorem whole_Small.cal : CalOk Try.prog 17 whole_Small.sig := calOk_lim' tabOk whole_Small.ck mix Try.func17 (by kernel_rfl) (by kernel_rfl) (by kernel_rfl) (by kernel_rfl)
noncomputable def whole_Small.e  (a0 : (Bool × (List Int))) : Option (Int × Bool × Unit) :=
  (nat_Small.F (a0.2, ())).bind fun y1 =>
  let v2 := not y1.2.1
  bif v2 then (some ((0 : Int), false, ()))
  else (let v3 := decide (y1.1 ≤ (9223372036854775807 : Int))
  bif v3 then ((whole_Sign.F ((a0.1, a0.2), ())).bind fun y4 =>
  let v5 := decide (y4.1 < (0 : Int))
  bif v5 then (let v6 := IntKind.i64.wrap y1.1
  let v7 := negI .i64 v6
  some (v7, true, ()))
  else (let v8 := decide (y1.1 ≤ (9223372036854775807 : Int))
  bif v8 then (let v9 := IntKind.i64.wrap y1.1
  some (v9, true, ()))
  else (let v10 := (y1.1 == (9223372036854775808 : Int))
  bif v10 then (bif a0.1 then (some ((-9223372036854775808 : Int), true, ()))
  else (some ((0 : Int), false, ())))
  else (some ((0 : Int), false, ())))))
  else (let v11 := decide (y1.1 ≤ (9223372036854775807 : Int))
  bif v11 then (let v12 := IntKind.i64.wrap y1.1
  some (v12, true, ()))
  else (let v13 := (y1.1 == (9223372036854775808 : Int))
  bif v13 then (bif a0.1 then (some ((-9223372036854775808 : Int), true, ()))
  else (some ((0 : Int), false, ())))
  else (some ((0 : Int), false, ())))))
theorem whole_Small.eval (k : Nat) (a0 : (Bool × (List Int))) : evalF whole_Small.spec whole_Small.cals T Try.f17 k (a0, ()) = whole_Small.e  a0 := by kernel_rfl
theorem whole_Small.F_eq (a0 : (Bool × (List Int))) : whole_Small.F (a0, ()) = limF whole_Small.spec whole_Small.cals T Try.f17 (a0, ()) := by kernel_rfl
theorem whole_Small.of (k : Nat) (a0 : (Bool × (List Int))) {y : Int × Bool × Unit} (h : whole_Small.e  a0 = some y) : whole_Small.F (a0, ()) = some y := (whole_Small.F_eq a0).trans (limF_of (q := whole_Small.spec) (C := whole_Small.cals) (T := T) (f := Try.f17) (x := (a0, ())) (y := y) k ((whole_Small.eval k a0).trans h))

/-! ### fulcrum/fulcrumref01.Norm -/
def fulcrumref01_Norm.spec : Spec := ⟨[(false, (.sl 70 (.int .u32)))], [(false, (.sl 70 (.int .u32)))], .own, fun j => match j with | 2 => [(0, .lf (.z 70 (.int .u32) false)), (3, .lf (.v true))] | 6 => [(0, .lf (.z 70 (.int .u32) false)), (3, .lf (.v true)), (4, .lf (.o 70 (.int .u32) true)), (5, .lf (.v true))] | _ => []⟩
noncomputable def fulcrumref01_Norm.cals : Cals := Cals.nil
noncomputable def fulcrumref01_Norm.sig : Sig := fulcrumref01_Norm.spec.sig fulcrumref01_Norm.cals T Try.f77
noncomputable def fulcrumref01_Norm.F (x : (List Int) × Unit) : Option ((List Int) × Unit) := limF fulcrumref01_Norm.spec fulcrumref01_Norm.cals T Try.f77 x
theorem fulcrumref01_Norm.ck : CalsOk Try.prog fulcrumref01_Norm.cals := CalsOk.nil
theorem fulcrumref01_Norm.cal : CalOk Try.prog 77 fulcrumref01_Norm.sig := calOk_lim' tabOk fulcrumref01_Norm.ck mix Try.func77 (by kernel_rfl) (by kernel_rfl) (by kernel_rfl) (by kernel_rfl)
def fulcrumref01_Norm.m2 (x0 : (List Int)) (x3 : Int) : S := ⟨[(0, .one (.lf (.val false (.sl 70 (.int .u32)) x0))), (3, .one (.lf (.val true (.int .i64) x3)))], ⟨[], []⟩⟩
def fulcrumref01_Norm.m6 (x0 : (List Int)) (x3 : Int) (x4 : (List Int)) (x5 : Int) : S := ⟨[(0, .one (.lf (.val false (.sl 70 (.int .u32)) x0))), (3, .one (.lf (.val true (.int .i64) x3))), (4, .one (.lf (.own 0))), (5, .one (.lf (.val true (.int .i64) x5)))], ⟨[some ⟨70, (.int .u32), true, true, x4⟩], []⟩⟩
noncomputable def fulcrumref01_Norm.b2 (f2 : (List Int) → Int → Option ((List Int) × Unit)) (f6 : (List Int) → Int → (List Int) → Int → Option ((List Int) × Unit)) (x0 : (List Int)) (x3 : Int) : Option ((List Int) × Unit) :=
  let v1 := decide (x3 > (0 : Int))
  bif v1 then (let v2 := IntKind.i64.wrap (x3 - (1 : Int))
  bif decide (0 ≤ v2) && decide (v2 < (List.length x0 : Int)) then (let v3 := List.getD x0 (Int.toNat v2) (0 : Int)
  let v4 := (v3 == (0 : Int))
  bif v4 then (let v5 := IntKind.i64.wrap (x3 - (1 : Int))
  f2 x0 v5)
  else (bif decide (0 ≤ x3) && (decide (x3 ≤ x3) && (decide (Int.toNat x3 * 4 ≤ 281474976710656) && Nat.blt 0 4)) then (let v6 := List.replicate (Int.toNat x3) (0 : Int)
  f6 x0 x3 v6 (0 : Int))
  else none))
  else none)
  else (bif decide (0 ≤ x3) && (decide (x3 ≤ x3) && (decide (Int.toNat x3 * 4 ≤ 281474976710656) && Nat.blt 0 4)) then (let v7 := List.replicate (Int.toNat x3) (0 : Int)
  f6 x0 x3 v7 (0 : Int))
  else none)
noncomputable def fulcrumref01_Norm.b6 (f2 : (List Int) → Int → Option ((List Int) × Unit)) (f6 : (List Int) → Int → (List Int) → Int → Option ((List Int) × Unit)) (x0 : (List Int)) (x3 : Int) (x4 : (List Int)) (x5 : Int) : Option ((List Int) × Unit) :=
  let v1 := decide (x5 < x3)
  bif v1 then (bif decide (0 ≤ x5) && decide (x5 < (List.length x0 : Int)) then (let v2 := List.getD x0 (Int.toNat x5) (0 : Int)
  bif decide (0 ≤ x5) && decide (x5 < (List.length x4 : Int)) then (let v3 := List.set x4 (Int.toNat x5) v2
  let v4 := IntKind.i64.wrap (x5 + (1 : Int))
  f6 x0 x3 v3 v4)
  else none)
  else none)
  else (some (x4, ()))
noncomputable def fulcrumref01_Norm.e (f2 : (List Int) → Int → Option ((List Int) × Unit)) (f6 : (List Int) → Int → (List Int) → Int → Option ((List Int) × Unit)) (a0 : (List Int)) : Option ((List Int) × Unit) :=
  let v1 := (List.length a0 : Int)
  f2 a0 v1
noncomputable def fulcrumref01_Norm.L2 (k : Nat) (x0 : (List Int)) (x3 : Int) : Option ((List Int) × Unit) := heads (fulcrumref01_Norm.spec.env fulcrumref01_Norm.cals T Try.f77) (Func.pts Try.f77) k 2 (fulcrumref01_Norm.m2 x0 x3)
noncomputable def fulcrumref01_Norm.L6 (k : Nat) (x0 : (List Int)) (x3 : Int) (x4 : (List Int)) (x5 : Int) : Option ((List Int) × Unit) := heads (fulcrumref01_Norm.spec.env fulcrumref01_Norm.cals T Try.f77) (Func.pts Try.f77) k 6 (fulcrumref01_Norm.m6 x0 x3 x4 x5)
theorem fulcrumref01_Norm.L2_succ (k : Nat) (x0 : (List Int)) (x3 : Int) : fulcrumref01_Norm.L2 (k + 1) x0 x3 = fulcrumref01_Norm.b2 (fulcrumref01_Norm.L2 k) (fulcrumref01_Norm.L6 k) x0 x3 := by kernel_rfl
theorem fulcrumref01_Norm.L2_zero (x0 : (List Int)) (x3 : Int) : fulcrumref01_Norm.L2 0 x0 x3 = none := by kernel_rfl
theorem fulcrumref01_Norm.L6_succ (k : Nat) (x0 : (List Int)) (x3 : Int) (x4 : (List Int)) (x5 : Int) : fulcrumref01_Norm.L6 (k + 1) x0 x3 x4 x5 = fulcrumref01_Norm.b6 (fulcrumref01_Norm.L2 k) (fulcrumref01_Norm.L6 k) x0 x3 x4 x5 := by kernel_rfl
theorem fulcrumref01_Norm.L6_zero (x0 : (List Int)) (x3 : Int) (x4 : (List Int)) (x5 : Int) : fulcrumref01_Norm.L6 0 x0 x3 x4 x5 = none := by kernel_rfl
theorem fulcrumref01_Norm.eval (k : Nat) (a0 : (List Int)) : evalF fulcrumref01_Norm.spec fulcrumref01_Norm.cals T Try.f77 k (a0, ()) = fulcrumref01_Norm.e (fulcrumref01_Norm.L2 k) (fulcrumref01_Norm.L6 k) a0 := by kernel_rfl
theorem fulcrumref01_Norm.F_eq (a0 : (List Int)) : fulcrumref01_Norm.F (a0, ()) = limF fulcrumref01_Norm.spec fulcrumref01_Norm.cals T Try.f77 (a0, ()) := by kernel_rfl
theorem fulcrumref01_Norm.of (k : Nat) (a0 : (List Int)) {y : (List Int) × Unit} (h : fulcrumref01_Norm.e (fulcrumref01_Norm.L2 k) (fulcrumref01_Norm.L6 k) a0 = some y) : fulcrumref01_Norm.F (a0, ()) = some y := (fulcrumref01_Norm.F_eq a0).trans (limF_of (q := fulcrumref01_Norm.spec) (C := fulcrumref01_Norm.cals) (T := T) (f := Try.f77) (x := (a0, ())) (y := y) k ((fulcrumref01_Norm.eval k a0).trans h))

/-! ### fulcrum/fulcrumref01.Small -/
def fulcrumref01_Small.spec : Spec := ⟨[(false, (.sl 70 (.int .u32)))], [(false, (.int .u64)), (false, .bool)], .own, fun j => match j with | 6 => [(0, .lf (.o 70 (.int .u32) true)), (4, .lf (.v true)), (5, .lf (.v true))] | _ => []⟩
noncomputable def fulcrumref01_Small.cals : Cals := (Cals.cons 77 fulcrumref01_Norm.sig Cals.nil)
noncomputable def fulcrumref01_Small.sig : Sig := fulcrumref01_Small.spec.sig fulcrumref01_Small.cals T Try.f70
noncomputable def fulcrumref01_Small.F (x : (List Int) × Unit) : Option (Int × Bool × Unit) := limF fulcrumref01_Small.spec fulcrumref01_Small.cals T Try.f70 x
theorem fulcrumref01_Small.ck : CalsOk Try.prog fulcrumref01_Small.cals := (CalsOk.cons fulcrumref01_Norm.cal CalsOk.nil)
theorem fulcrumref01_Small.cal : CalOk Try.prog 70 fulcrumref01_Small.sig := calOk_lim' tabOk fulcrumref01_Small.ck mix Try.func70 (by kernel_rfl) (by kernel_rfl) (by kernel_rfl) (by kernel_rfl)
def fulcrumref01_Small.m6 (x0 : (List Int)) (x4 : Int) (x5 : Int) : S := ⟨[(0, .one (.lf (.own 0))), (4, .one (.lf (.val true (.int .u64) x4))), (5, .one (.lf (.val true (.int .i64) x5)))], ⟨[some ⟨70, (.int .u32), true, true, x0⟩], []⟩⟩
noncomputable def fulcrumref01_Small.b6 (f6 : (List Int) → Int → Int → Option (Int × Bool × Unit)) (x0 : (List Int)) (x4 : Int) (x5 : Int) : Option (Int × Bool × Unit) :=
  let v1 := decide (x5 ≥ (0 : Int))
  bif v1 then (bif decide ((32 : Int) < 0) then none
  else (let v2 := shlI .u64 x4 (32 : Int)
  bif decide (0 ≤ x5) && decide (x5 < (List.length x0 : Int)) then (let v3 := List.getD x0 (Int.toNat x5) (0 : Int)
  let v4 := IntKind.u64.wrap v3
  let v5 := bitsOp .or .u64 v2 v4
  let v6 := IntKind.i64.wrap (x5 - (1 : Int))
  f6 x0 v5 v6)
  else none))
  else (some (x4, true, ()))
noncomputable def fulcrumref01_Small.e (f6 : (List Int) → Int → Int → Option (Int × Bool × Unit)) (a0 : (List Int)) : Option (Int × Bool × Unit) :=
  (fulcrumref01_Norm.F (a0, ())).bind fun y1 =>
  let v2 := (List.length y1.1 : Int)
  let v3 := decide (v2 > (2 : Int))
  bif v3 then (some ((0 : Int), false, ()))
  else (let v4 := (List.length y1.1 : Int)
  let v5 := IntKind.i64.wrap (v4 - (1 : Int))
  f6 y1.1 (0 : Int) v5)
noncomputable def fulcrumref01_Small.L6 (k : Nat) (x0 : (List Int)) (x4 : Int) (x5 : Int) : Option (Int × Bool × Unit) := heads (fulcrumref01_Small.spec.env fulcrumref01_Small.cals T Try.f70) (Func.pts Try.f70) k 6 (fulcrumref01_Small.m6 x0 x4 x5)
theorem fulcrumref01_Small.L6_succ (k : Nat) (x0 : (List Int)) (x4 : Int) (x5 : Int) : fulcrumref01_Small.L6 (k + 1) x0 x4 x5 = fulcrumref01_Small.b6 (fulcrumref01_Small.L6 k) x0 x4 x5 := by kernel_rfl
theorem fulcrumref01_Small.L6_zero (x0 : (List Int)) (x4 : Int) (x5 : Int) : fulcrumref01_Small.L6 0 x0 x4 x5 = none := by kernel_rfl
theorem fulcrumref01_Small.eval (k : Nat) (a0 : (List Int)) : evalF fulcrumref01_Small.spec fulcrumref01_Small.cals T Try.f70 k (a0, ()) = fulcrumref01_Small.e (fulcrumref01_Small.L6 k) a0 := by kernel_rfl
theorem fulcrumref01_Small.F_eq (a0 : (List Int)) : fulcrumref01_Small.F (a0, ()) = limF fulcrumref01_Small.spec fulcrumref01_Small.cals T Try.f70 (a0, ()) := by kernel_rfl
theorem fulcrumref01_Small.of (k : Nat) (a0 : (List Int)) {y : Int × Bool × Unit} (h : fulcrumref01_Small.e (fulcrumref01_Small.L6 k) a0 = some y) : fulcrumref01_Small.F (a0, ()) = some y := (fulcrumref01_Small.F_eq a0).trans (limF_of (q := fulcrumref01_Small.spec) (C := fulcrumref01_Small.cals) (T := T) (f := Try.f70) (x := (a0, ())) (y := y) k ((fulcrumref01_Small.eval k a0).trans h))

/-! ### fulcrum/fulcrumref02.Small -/
def fulcrumref02_Small.spec : Spec := ⟨[(true, (.prod .bool (.sl 70 (.int .u32))))], [(false, (.int .i64)), (false, .bool)], .own, fun j => match j with  | _ => []⟩
noncomputable def fulcrumref02_Small.cals : Cals := (Cals.cons 70 fulcrumref01_Small.sig Cals.nil)
noncomputable def fulcrumref02_Small.sig : Sig := fulcrumref02_Small.spec.sig fulcrumref02_Small.cals T Try.f18
noncomputable def fulcrumref02_Small.F (x : (Bool × (List Int)) × Unit) : Option (Int × Bool × Unit) := limF fulcrumref02_Small.spec fulcrumref02_Small.cals T Try.f18 x
theorem fulcrumref02_Small.ck : CalsOk Try.prog fulcrumref02_Small.cals := (CalsOk.cons fulcrumref01_Small.cal CalsOk.nil)
theorem fulcrumref02_Small.cal : CalOk Try.prog 18 fulcrumref02_Small.sig := calOk_lim' tabOk fulcrumref02_Small.ck mix Try.func18 (by kernel_rfl) (by kernel_rfl) (by kernel_rfl) (by kernel_rfl)
noncomputable def fulcrumref02_Small.e  (a0 : (Bool × (List Int))) : Option (Int × Bool × Unit) :=
  (fulcrumref01_Small.F (a0.2, ())).bind fun y1 =>
  let v2 := not y1.2.1
  bif v2 then (some ((0 : Int), false, ()))
  else (bif a0.1 then (let v3 := (y1.1 == (9223372036854775808 : Int))
  bif v3 then (some ((-9223372036854775808 : Int), true, ()))
  else (let v4 := decide (y1.1 ≥ (9223372036854775808 : Int))
  bif v4 then (some ((0 : Int), false, ()))
  else (bif a0.1 then (let v5 := IntKind.i64.wrap y1.1
  let v6 := IntKind.i64.wrap ((0 : Int) - v5)
  some (v6, true, ()))
  else (let v7 := IntKind.i64.wrap y1.1
  some (v7, true, ())))))
  else (let v8 := decide (y1.1 ≥ (9223372036854775808 : Int))
  bif v8 then (some ((0 : Int), false, ()))
  else (bif a0.1 then (let v9 := IntKind.i64.wrap y1.1
  let v10 := IntKind.i64.wrap ((0 : Int) - v9)
  some (v10, true, ()))
  else (let v11 := IntKind.i64.wrap y1.1
  some (v11, true, ())))))
theorem fulcrumref02_Small.eval (k : Nat) (a0 : (Bool × (List Int))) : evalF fulcrumref02_Small.spec fulcrumref02_Small.cals T Try.f18 k (a0, ()) = fulcrumref02_Small.e  a0 := by kernel_rfl
theorem fulcrumref02_Small.F_eq (a0 : (Bool × (List Int))) : fulcrumref02_Small.F (a0, ()) = limF fulcrumref02_Small.spec fulcrumref02_Small.cals T Try.f18 (a0, ()) := by kernel_rfl
theorem fulcrumref02_Small.of (k : Nat) (a0 : (Bool × (List Int))) {y : Int × Bool × Unit} (h : fulcrumref02_Small.e  a0 = some y) : fulcrumref02_Small.F (a0, ()) = some y := (fulcrumref02_Small.F_eq a0).trans (limF_of (q := fulcrumref02_Small.spec) (C := fulcrumref02_Small.cals) (T := T) (f := Try.f18) (x := (a0, ())) (y := y) k ((fulcrumref02_Small.eval k a0).trans h))

/-! ### fulcrum/fulcrummem.SameNat -/
def fulcrummem_SameNat.spec : Spec := ⟨[(false, (.sl 70 (.int .u32))), (false, (.sl 70 (.int .u32)))], [(false, .bool)], .own, fun j => match j with | 4 => [(0, .lf (.z 70 (.int .u32) false)), (1, .lf (.z 70 (.int .u32) false)), (5, .lf (.v true))] | _ => []⟩
noncomputable def fulcrummem_SameNat.cals : Cals := Cals.nil
noncomputable def fulcrummem_SameNat.sig : Sig := fulcrummem_SameNat.spec.sig fulcrummem_SameNat.cals T Try.f26
noncomputable def fulcrummem_SameNat.F (x : (List Int) × (List Int) × Unit) : Option (Bool × Unit) := limF fulcrummem_SameNat.spec fulcrummem_SameNat.cals T Try.f26 x
theorem fulcrummem_SameNat.ck : CalsOk Try.prog fulcrummem_SameNat.cals := CalsOk.nil
theorem fulcrummem_SameNat.cal : CalOk Try.prog 26 fulcrummem_SameNat.sig := calOk_lim' tabOk fulcrummem_SameNat.ck mix Try.func26 (by kernel_rfl) (by kernel_rfl) (by kernel_rfl) (by kernel_rfl)
def fulcrummem_SameNat.m4 (x0 : (List Int)) (x1 : (List Int)) (x5 : Int) : S := ⟨[(0, .one (.lf (.val false (.sl 70 (.int .u32)) x0))), (1, .one (.lf (.val false (.sl 70 (.int .u32)) x1))), (5, .one (.lf (.val true (.int .i64) x5)))], ⟨[], []⟩⟩
noncomputable def fulcrummem_SameNat.b4 (f4 : (List Int) → (List Int) → Int → Option (Bool × Unit)) (x0 : (List Int)) (x1 : (List Int)) (x5 : Int) : Option (Bool × Unit) :=
  let v1 := (List.length x0 : Int)
  let v2 := decide (x5 < v1)
  bif v2 then (bif decide (0 ≤ x5) && decide (x5 < (List.length x0 : Int)) then (let v3 := List.getD x0 (Int.toNat x5) (0 : Int)
  bif decide (0 ≤ x5) && decide (x5 < (List.length x1 : Int)) then (let v4 := List.getD x1 (Int.toNat x5) (0 : Int)
  let v5 := (v3 != v4)
  bif v5 then (some (false, ()))
  else (let v6 := IntKind.i64.wrap (x5 + (1 : Int))
  f4 x0 x1 v6))
  else none)
  else none)
  else (some (true, ()))
noncomputable def fulcrummem_SameNat.e (f4 : (List Int) → (List Int) → Int → Option (Bool × Unit)) (a0 : (List Int)) (a1 : (List Int)) : Option (Bool × Unit) :=
  let v1 := (List.length a0 : Int)
  let v2 := (List.length a1 : Int)
  let v3 := (v1 != v2)
  bif v3 then (some (false, ()))
  else (f4 a0 a1 (0 : Int))
noncomputable def fulcrummem_SameNat.L4 (k : Nat) (x0 : (List Int)) (x1 : (List Int)) (x5 : Int) : Option (Bool × Unit) := heads (fulcrummem_SameNat.spec.env fulcrummem_SameNat.cals T Try.f26) (Func.pts Try.f26) k 4 (fulcrummem_SameNat.m4 x0 x1 x5)
theorem fulcrummem_SameNat.L4_succ (k : Nat) (x0 : (List Int)) (x1 : (List Int)) (x5 : Int) : fulcrummem_SameNat.L4 (k + 1) x0 x1 x5 = fulcrummem_SameNat.b4 (fulcrummem_SameNat.L4 k) x0 x1 x5 := by kernel_rfl
theorem fulcrummem_SameNat.L4_zero (x0 : (List Int)) (x1 : (List Int)) (x5 : Int) : fulcrummem_SameNat.L4 0 x0 x1 x5 = none := by kernel_rfl
theorem fulcrummem_SameNat.eval (k : Nat) (a0 : (List Int)) (a1 : (List Int)) : evalF fulcrummem_SameNat.spec fulcrummem_SameNat.cals T Try.f26 k (a0, a1, ()) = fulcrummem_SameNat.e (fulcrummem_SameNat.L4 k) a0 a1 := by kernel_rfl
theorem fulcrummem_SameNat.F_eq (a0 : (List Int)) (a1 : (List Int)) : fulcrummem_SameNat.F (a0, a1, ()) = limF fulcrummem_SameNat.spec fulcrummem_SameNat.cals T Try.f26 (a0, a1, ()) := by kernel_rfl
theorem fulcrummem_SameNat.of (k : Nat) (a0 : (List Int)) (a1 : (List Int)) {y : Bool × Unit} (h : fulcrummem_SameNat.e (fulcrummem_SameNat.L4 k) a0 a1 = some y) : fulcrummem_SameNat.F (a0, a1, ()) = some y := (fulcrummem_SameNat.F_eq a0 a1).trans (limF_of (q := fulcrummem_SameNat.spec) (C := fulcrummem_SameNat.cals) (T := T) (f := Try.f26) (x := (a0, a1, ())) (y := y) k ((fulcrummem_SameNat.eval k a0 a1).trans h))

/-! ### fulcrum/fulcrummem.SameInt -/
def fulcrummem_SameInt.spec : Spec := ⟨[(true, (.prod .bool (.sl 70 (.int .u32)))), (true, (.prod .bool (.sl 70 (.int .u32))))], [(false, .bool)], .own, fun j => match j with  | _ => []⟩
noncomputable def fulcrummem_SameInt.cals : Cals := (Cals.cons 26 fulcrummem_SameNat.sig Cals.nil)
noncomputable def fulcrummem_SameInt.sig : Sig := fulcrummem_SameInt.spec.sig fulcrummem_SameInt.cals T Try.f71
noncomputable def fulcrummem_SameInt.F (x : (Bool × (List Int)) × (Bool × (List Int)) × Unit) : Option (Bool × Unit) := limF fulcrummem_SameInt.spec fulcrummem_SameInt.cals T Try.f71 x
theorem fulcrummem_SameInt.ck : CalsOk Try.prog fulcrummem_SameInt.cals := (CalsOk.cons fulcrummem_SameNat.cal CalsOk.nil)
theorem fulcrummem_SameInt.cal : CalOk Try.prog 71 fulcrummem_SameInt.sig := calOk_lim' tabOk fulcrummem_SameInt.ck mix Try.func71 (by kernel_rfl) (by kernel_rfl) (by kernel_rfl) (by kernel_rfl)
noncomputable def fulcrummem_SameInt.e  (a0 : (Bool × (List Int))) (a1 : (Bool × (List Int))) : Option (Bool × Unit) :=
  let v1 := (a0.1 == a1.1)
  bif v1 then ((fulcrummem_SameNat.F (a0.2, a1.2, ())).bind fun y2 =>
  some (y2.1, ()))
  else (some (false, ()))
theorem fulcrummem_SameInt.eval (k : Nat) (a0 : (Bool × (List Int))) (a1 : (Bool × (List Int))) : evalF fulcrummem_SameInt.spec fulcrummem_SameInt.cals T Try.f71 k (a0, a1, ()) = fulcrummem_SameInt.e  a0 a1 := by kernel_rfl
theorem fulcrummem_SameInt.F_eq (a0 : (Bool × (List Int))) (a1 : (Bool × (List Int))) : fulcrummem_SameInt.F (a0, a1, ()) = limF fulcrummem_SameInt.spec fulcrummem_SameInt.cals T Try.f71 (a0, a1, ()) := by kernel_rfl
theorem fulcrummem_SameInt.of (k : Nat) (a0 : (Bool × (List Int))) (a1 : (Bool × (List Int))) {y : Bool × Unit} (h : fulcrummem_SameInt.e  a0 a1 = some y) : fulcrummem_SameInt.F (a0, a1, ()) = some y := (fulcrummem_SameInt.F_eq a0 a1).trans (limF_of (q := fulcrummem_SameInt.spec) (C := fulcrummem_SameInt.cals) (T := T) (f := Try.f71) (x := (a0, a1, ())) (y := y) k ((fulcrummem_SameInt.eval k a0 a1).trans h))

/-! ### fulcrum/fulcrumlaw02.same -/
def fulcrumlaw02_same.spec : Spec := ⟨[(true, (.prod .bool (.sl 70 (.int .u32)))), (true, (.prod .bool (.sl 70 (.int .u32))))], [(false, .bool)], .own, fun j => match j with  | _ => []⟩
noncomputable def fulcrumlaw02_same.cals : Cals := (Cals.cons 71 fulcrummem_SameInt.sig Cals.nil)
noncomputable def fulcrumlaw02_same.sig : Sig := fulcrumlaw02_same.spec.sig fulcrumlaw02_same.cals T Try.f19
noncomputable def fulcrumlaw02_same.F (x : (Bool × (List Int)) × (Bool × (List Int)) × Unit) : Option (Bool × Unit) := limF fulcrumlaw02_same.spec fulcrumlaw02_same.cals T Try.f19 x
theorem fulcrumlaw02_same.ck : CalsOk Try.prog fulcrumlaw02_same.cals := (CalsOk.cons fulcrummem_SameInt.cal CalsOk.nil)
theorem fulcrumlaw02_same.cal : CalOk Try.prog 19 fulcrumlaw02_same.sig := calOk_lim' tabOk fulcrumlaw02_same.ck mix Try.func19 (by kernel_rfl) (by kernel_rfl) (by kernel_rfl) (by kernel_rfl)
noncomputable def fulcrumlaw02_same.e  (a0 : (Bool × (List Int))) (a1 : (Bool × (List Int))) : Option (Bool × Unit) :=
  (fulcrummem_SameInt.F ((a0.1, a0.2), (a1.1, a1.2), ())).bind fun y1 =>
  some (y1.1, ())
theorem fulcrumlaw02_same.eval (k : Nat) (a0 : (Bool × (List Int))) (a1 : (Bool × (List Int))) : evalF fulcrumlaw02_same.spec fulcrumlaw02_same.cals T Try.f19 k (a0, a1, ()) = fulcrumlaw02_same.e  a0 a1 := by kernel_rfl
theorem fulcrumlaw02_same.F_eq (a0 : (Bool × (List Int))) (a1 : (Bool × (List Int))) : fulcrumlaw02_same.F (a0, a1, ()) = limF fulcrumlaw02_same.spec fulcrumlaw02_same.cals T Try.f19 (a0, a1, ()) := by kernel_rfl
theorem fulcrumlaw02_same.of (k : Nat) (a0 : (Bool × (List Int))) (a1 : (Bool × (List Int))) {y : Bool × Unit} (h : fulcrumlaw02_same.e  a0 a1 = some y) : fulcrumlaw02_same.F (a0, a1, ()) = some y := (fulcrumlaw02_same.F_eq a0 a1).trans (limF_of (q := fulcrumlaw02_same.spec) (C := fulcrumlaw02_same.cals) (T := T) (f := Try.f19) (x := (a0, a1, ())) (y := y) k ((fulcrumlaw02_same.eval k a0 a1).trans h))

/-! ### fulcrum/nat.own -/
def nat_own.spec : Spec := ⟨[(false, (.sl 70 (.int .u32)))], [(false, (.sl 70 (.int .u32)))], .own, fun j => match j with  | _ => []⟩
noncomputable def nat_own.cals : Cals := (Cals.cons 98 nat_trim.sig Cals.nil)
noncomputable def nat_own.sig : Sig := nat_own.spec.sig nat_own.cals T Try.f99
noncomputable def nat_own.F (x : (List Int) × Unit) : Option ((List Int) × Unit) := limF nat_own.spec nat_own.cals T Try.f99 x
theorem nat_own.ck : CalsOk Try.prog nat_own.cals := (CalsOk.cons nat_trim.cal CalsOk.nil)
theorem nat_own.cal : CalOk Try.prog 99 nat_own.sig := calOk_lim' tabOk nat_own.ck mix Try.func99 (by kernel_rfl) (by kernel_rfl) (by kernel_rfl) (by kernel_rfl)
noncomputable def nat_own.e  (a0 : (List Int)) : Option ((List Int) × Unit) :=
  (nat_trim.F (a0, ())).bind fun y1 =>
  let v2 := (List.length y1.1 : Int)
  let v3 := (v2 == (0 : Int))
  bif v3 then (some (([] : List Int), ()))
  else (let v4 := (List.length y1.1 : Int)
  bif decide (0 ≤ v4) && (decide (v4 ≤ v4) && (decide (Int.toNat v4 * 4 ≤ 281474976710656) && Nat.blt 0 4)) then (let v5 := List.replicate (Int.toNat v4) (0 : Int)
  let v6 := List.take (List.length v5) y1.1 ++ List.drop (List.length y1.1) v5
  let v7 := ((Nat.min (List.length y1.1) (List.length v5) : Nat) : Int)
  some (v6, ()))
  else none)
theorem nat_own.eval (k : Nat) (a0 : (List Int)) : evalF nat_own.spec nat_own.cals T Try.f99 k (a0, ()) = nat_own.e  a0 := by kernel_rfl
theorem nat_own.F_eq (a0 : (List Int)) : nat_own.F (a0, ()) = limF nat_own.spec nat_own.cals T Try.f99 (a0, ()) := by kernel_rfl
theorem nat_own.of (k : Nat) (a0 : (List Int)) {y : (List Int) × Unit} (h : nat_own.e  a0 = some y) : nat_own.F (a0, ()) = some y := (nat_own.F_eq a0).trans (limF_of (q := nat_own.spec) (C := nat_own.cals) (T := T) (f := Try.f99) (x := (a0, ())) (y := y) k ((nat_own.eval k a0).trans h))

/-! ### fulcrum/nat.Norm -/
def nat_Norm.spec : Spec := ⟨[(false, (.sl 70 (.int .u32)))], [(false, (.sl 70 (.int .u32)))], .own, fun j => match j with  | _ => []⟩
noncomputable def nat_Norm.cals : Cals := (Cals.cons 99 nat_own.sig Cals.nil)
noncomputable def nat_Norm.sig : Sig := nat_Norm.spec.sig nat_Norm.cals T Try.f76
noncomputable def nat_Norm.F (x : (List Int) × Unit) : Option ((List Int) × Unit) := limF nat_Norm.spec nat_Norm.cals T Try.f76 x
theorem nat_Norm.ck : CalsOk Try.prog nat_Norm.cals := (CalsOk.cons nat_own.cal CalsOk.nil)
theorem nat_Norm.cal : CalOk Try.prog 76 nat_Norm.sig := calOk_lim' tabOk nat_Norm.ck mix Try.func76 (by kernel_rfl) (by kernel_rfl) (by kernel_rfl) (by kernel_rfl)
noncomputable def nat_Norm.e  (a0 : (List Int)) : Option ((List Int) × Unit) :=
  (nat_own.F (a0, ())).bind fun y1 =>
  some (y1.1, ())
theorem nat_Norm.eval (k : Nat) (a0 : (List Int)) : evalF nat_Norm.spec nat_Norm.cals T Try.f76 k (a0, ()) = nat_Norm.e  a0 := by kernel_rfl
theorem nat_Norm.F_eq (a0 : (List Int)) : nat_Norm.F (a0, ()) = limF nat_Norm.spec nat_Norm.cals T Try.f76 (a0, ()) := by kernel_rfl
theorem nat_Norm.of (k : Nat) (a0 : (List Int)) {y : (List Int) × Unit} (h : nat_Norm.e  a0 = some y) : nat_Norm.F (a0, ()) = some y := (nat_Norm.F_eq a0).trans (limF_of (q := nat_Norm.spec) (C := nat_Norm.cals) (T := T) (f := Try.f76) (x := (a0, ())) (y := y) k ((nat_Norm.eval k a0).trans h))

/-! ### fulcrum/whole.signed -/
def whole_signed.spec : Spec := ⟨[(false, (.sl 70 (.int .u32))), (false, (.sl 3 (.int .i64)))], [(true, (.prod .bool (.sl 70 (.int .u32))))], .own, fun j => match j with | 4 => [(0, .lf (.o 70 (.int .u32) true)), (4, .box 25 [.v true, .v true]), (5, .lf (.v true)), (10, .lf (.z 3 (.int .i64) false)), (11, .lf (.v true)), (12, .lf (.v true))] | _ => []⟩
noncomputable def whole_signed.cals : Cals := (Cals.cons 76 nat_Norm.sig Cals.nil)
noncomputable def whole_signed.sig : Sig := whole_signed.spec.sig whole_signed.cals T Try.f72
noncomputable def whole_signed.F (x : (List Int) × (List Int) × Unit) : Option ((Bool × (List Int)) × Unit) := limF whole_signed.spec whole_signed.cals T Try.f72 x
theorem whole_signed.ck : CalsOk Try.prog whole_signed.cals := (CalsOk.cons nat_Norm.cal CalsOk.nil)
theorem whole_signed.cal : CalOk Try.prog 72 whole_signed.sig := calOk_lim' tabOk whole_signed.ck mix Try.func72 (by kernel_rfl) (by kernel_rfl) (by kernel_rfl) (by kernel_rfl)
def whole_signed.m4 (x0 : (List Int)) (x4_0 : Bool) (x5 : Int) (x10 : (List Int)) (x11 : Int) (x12 : Int) : S := ⟨[(0, .one (.lf (.own 0))), (4, .box 0 0), (5, .one (.lf (.val true (.int .i64) x5))), (10, .one (.lf (.val false (.sl 3 (.int .i64)) x10))), (11, .one (.lf (.val true (.int .i64) x11))), (12, .one (.lf (.val true (.int .i64) x12)))], ⟨[some ⟨70, (.int .u32), true, true, x0⟩], [some ⟨25, [.val true .bool x4_0, .nil]⟩]⟩⟩
noncomputable def whole_signed.b4 (f4 : (List Int) → Bool → Int → (List Int) → Int → Int → Option ((Bool × (List Int)) × Unit)) (x0 : (List Int)) (x4_0 : Bool) (x5 : Int) (x10 : (List Int)) (x11 : Int) (x12 : Int) : Option ((Bool × (List Int)) × Unit) :=
  let v1 := decide (x12 < x11)
  bif v1 then (bif decide (0 ≤ x12) && decide (x12 < (List.length x10 : Int)) then (let v2 := List.getD x10 (Int.toNat x12) (0 : Int)
  let v3 := IntKind.i64.wrap (x5 * v2)
  let v4 := IntKind.i64.wrap (x12 + (1 : Int))
  f4 x0 x4_0 v3 x10 x11 v4)
  else none)
  else (let v5 := decide (x5 < (0 : Int))
  bif v5 then (let v6 := (List.length x0 : Int)
  let v7 := decide (v6 > (0 : Int))
  some ((v7, x0), ()))
  else (some ((false, x0), ())))
noncomputable def whole_signed.e (f4 : (List Int) → Bool → Int → (List Int) → Int → Int → Option ((Bool × (List Int)) × Unit)) (a0 : (List Int)) (a1 : (List Int)) : Option ((Bool × (List Int)) × Unit) :=
  (nat_Norm.F (a0, ())).bind fun y1 =>
  let v2 := (List.length a1 : Int)
  f4 y1.1 false (1 : Int) a1 v2 (0 : Int)
noncomputable def whole_signed.L4 (k : Nat) (x0 : (List Int)) (x4_0 : Bool) (x5 : Int) (x10 : (List Int)) (x11 : Int) (x12 : Int) : Option ((Bool × (List Int)) × Unit) := heads (whole_signed.spec.env whole_signed.cals T Try.f72) (Func.pts Try.f72) k 4 (whole_signed.m4 x0 x4_0 x5 x10 x11 x12)
theorem whole_signed.L4_succ (k : Nat) (x0 : (List Int)) (x4_0 : Bool) (x5 : Int) (x10 : (List Int)) (x11 : Int) (x12 : Int) : whole_signed.L4 (k + 1) x0 x4_0 x5 x10 x11 x12 = whole_signed.b4 (whole_signed.L4 k) x0 x4_0 x5 x10 x11 x12 := by kernel_rfl
theorem whole_signed.L4_zero (x0 : (List Int)) (x4_0 : Bool) (x5 : Int) (x10 : (List Int)) (x11 : Int) (x12 : Int) : whole_signed.L4 0 x0 x4_0 x5 x10 x11 x12 = none := by kernel_rfl
theorem whole_signed.eval (k : Nat) (a0 : (List Int)) (a1 : (List Int)) : evalF whole_signed.spec whole_signed.cals T Try.f72 k (a0, a1, ()) = whole_signed.e (whole_signed.L4 k) a0 a1 := by kernel_rfl
theorem whole_signed.F_eq (a0 : (List Int)) (a1 : (List Int)) : whole_signed.F (a0, a1, ()) = limF whole_signed.spec whole_signed.cals T Try.f72 (a0, a1, ()) := by kernel_rfl
theorem whole_signed.of (k : Nat) (a0 : (List Int)) (a1 : (List Int)) {y : (Bool × (List Int)) × Unit} (h : whole_signed.e (whole_signed.L4 k) a0 a1 = some y) : whole_signed.F (a0, a1, ()) = some y := (whole_signed.F_eq a0 a1).trans (limF_of (q := whole_signed.spec) (C := whole_signed.cals) (T := T) (f := Try.f72) (x := (a0, a1, ())) (y := y) k ((whole_signed.eval k a0 a1).trans h))

/-! ### fulcrum/nat.Of -/
def nat_Of.spec : Spec := ⟨[(false, (.int .u64))], [(false, (.sl 70 (.int .u32)))], .own, fun j => match j with  | _ => []⟩
noncomputable def nat_Of.cals : Cals := (Cals.cons 99 nat_own.sig Cals.nil)
noncomputable def nat_Of.sig : Sig := nat_Of.spec.sig nat_Of.cals T Try.f73
noncomputable def nat_Of.F (x : Int × Unit) : Option ((List Int) × Unit) := limF nat_Of.spec nat_Of.cals T Try.f73 x
theorem nat_Of.ck : CalsOk Try.prog nat_Of.cals := (CalsOk.cons nat_own.cal CalsOk.nil)
theorem nat_Of.cal : CalOk Try.prog 73 nat_Of.sig := calOk_lim' tabOk nat_Of.ck mix Try.func73 (by kernel_rfl) (by kernel_rfl) (by kernel_rfl) (by kernel_rfl)
noncomputable def nat_Of.e  (a0 : Int) : Option ((List Int) × Unit) :=
  let v1 := IntKind.u32.wrap a0
  bif decide ((32 : Int) < 0) then none
  else (let v2 := shrI .u64 a0 (32 : Int)
  let v3 := IntKind.u32.wrap v2
  let v4 := ([v1, v3] : List Int)
  (nat_own.F (v4, ())).bind fun y5 =>
  some (y5.1, ()))
theorem nat_Of.eval (k : Nat) (a0 : Int) : evalF nat_Of.spec nat_Of.cals T Try.f73 k (a0, ()) = nat_Of.e  a0 := by kernel_rfl
theorem nat_Of.F_eq (a0 : Int) : nat_Of.F (a0, ()) = limF nat_Of.spec nat_Of.cals T Try.f73 (a0, ()) := by kernel_rfl
theorem nat_Of.of (k : Nat) (a0 : Int) {y : (List Int) × Unit} (h : nat_Of.e  a0 = some y) : nat_Of.F (a0, ()) = some y := (nat_Of.F_eq a0).trans (limF_of (q := nat_Of.spec) (C := nat_Of.cals) (T := T) (f := Try.f73) (x := (a0, ())) (y := y) k ((nat_Of.eval k a0).trans h))

/-! ### fulcrum/whole.Of -/
def whole_Of.spec : Spec := ⟨[(false, (.int .i64))], [(true, (.prod .bool (.sl 70 (.int .u32))))], .own, fun j => match j with  | _ => []⟩
noncomputable def whole_Of.cals : Cals := (Cals.cons 73 nat_Of.sig (Cals.cons 72 whole_signed.sig Cals.nil))
noncomputable def whole_Of.sig : Sig := whole_Of.spec.sig whole_Of.cals T Try.f20
noncomputable def whole_Of.F (x : Int × Unit) : Option ((Bool × (List Int)) × Unit) := limF whole_Of.spec whole_Of.cals T Try.f20 x
theorem whole_Of.ck : CalsOk Try.prog whole_Of.cals := (CalsOk.cons nat_Of.cal (CalsOk.cons whole_signed.cal CalsOk.nil))
theorem whole_Of.cal : CalOk Try.prog 20 whole_Of.sig := calOk_lim' tabOk whole_Of.ck mix Try.func20 (by kernel_rfl) (by kernel_rfl) (by kernel_rfl) (by kernel_rfl)
noncomputable def whole_Of.e  (a0 : Int) : Option ((Bool × (List Int)) × Unit) :=
  let v1 := decide (a0 < (0 : Int))
  bif v1 then (let v2 := IntKind.u64.wrap a0
  let v3 := negI .u64 v2
  (nat_Of.F (v3, ())).bind fun y4 =>
  let v5 := ([(-1 : Int)] : List Int)
  (whole_signed.F (y4.1, v5, ())).bind fun y6 =>
  some ((y6.1.1, y6.1.2), ()))
  else (let v7 := IntKind.u64.wrap a0
  (nat_Of.F (v7, ())).bind fun y8 =>
  (whole_signed.F (y8.1, ([] : List Int), ())).bind fun y9 =>
  some ((y9.1.1, y9.1.2), ()))
theorem whole_Of.eval (k : Nat) (a0 : Int) : evalF whole_Of.spec whole_Of.cals T Try.f20 k (a0, ()) = whole_Of.e  a0 := by kernel_rfl
theorem whole_Of.F_eq (a0 : Int) : whole_Of.F (a0, ()) = limF whole_Of.spec whole_Of.cals T Try.f20 (a0, ()) := by kernel_rfl
theorem whole_Of.of (k : Nat) (a0 : Int) {y : (Bool × (List Int)) × Unit} (h : whole_Of.e  a0 = some y) : whole_Of.F (a0, ()) = some y := (whole_Of.F_eq a0).trans (limF_of (q := whole_Of.spec) (C := whole_Of.cals) (T := T) (f := Try.f20) (x := (a0, ())) (y := y) k ((whole_Of.eval k a0).trans h))

/-! ### fulcrum/fulcrumref02.made -/
def fulcrumref02_made.spec : Spec := ⟨[(false, .bool), (false, (.sl 70 (.int .u32)))], [(true, (.prod .bool (.sl 70 (.int .u32))))], .own, fun j => match j with  | _ => []⟩
noncomputable def fulcrumref02_made.cals : Cals := (Cals.cons 77 fulcrumref01_Norm.sig Cals.nil)
noncomputable def fulcrumref02_made.sig : Sig := fulcrumref02_made.spec.sig fulcrumref02_made.cals T Try.f74
noncomputable def fulcrumref02_made.F (x : Bool × (List Int) × Unit) : Option ((Bool × (List Int)) × Unit) := limF fulcrumref02_made.spec fulcrumref02_made.cals T Try.f74 x
theorem fulcrumref02_made.ck : CalsOk Try.prog fulcrumref02_made.cals := (CalsOk.cons fulcrumref01_Norm.cal CalsOk.nil)
theorem fulcrumref02_made.cal : CalOk Try.prog 74 fulcrumref02_made.sig := calOk_lim' tabOk fulcrumref02_made.ck mix Try.func74 (by kernel_rfl) (by kernel_rfl) (by kernel_rfl) (by kernel_rfl)
noncomputable def fulcrumref02_made.e  (a0 : Bool) (a1 : (List Int)) : Option ((Bool × (List Int)) × Unit) :=
  (fulcrumref01_Norm.F (a1, ())).bind fun y1 =>
  bif a0 then (let v2 := (List.length y1.1 : Int)
  let v3 := decide (v2 > (0 : Int))
  some ((v3, y1.1), ()))
  else (some ((false, y1.1), ()))
theorem fulcrumref02_made.eval (k : Nat) (a0 : Bool) (a1 : (List Int)) : evalF fulcrumref02_made.spec fulcrumref02_made.cals T Try.f74 k (a0, a1, ()) = fulcrumref02_made.e  a0 a1 := by kernel_rfl
theorem fulcrumref02_made.F_eq (a0 : Bool) (a1 : (List Int)) : fulcrumref02_made.F (a0, a1, ()) = limF fulcrumref02_made.spec fulcrumref02_made.cals T Try.f74 (a0, a1, ()) := by kernel_rfl
theorem fulcrumref02_made.of (k : Nat) (a0 : Bool) (a1 : (List Int)) {y : (Bool × (List Int)) × Unit} (h : fulcrumref02_made.e  a0 a1 = some y) : fulcrumref02_made.F (a0, a1, ()) = some y := (fulcrumref02_made.F_eq a0 a1).trans (limF_of (q := fulcrumref02_made.spec) (C := fulcrumref02_made.cals) (T := T) (f := Try.f74) (x := (a0, a1, ())) (y := y) k ((fulcrumref02_made.eval k a0 a1).trans h))

/-! ### fulcrum/fulcrumref01.Of -/
def fulcrumref01_Of.spec : Spec := ⟨[(false, (.int .u64))], [(false, (.sl 70 (.int .u32)))], .own, fun j => match j with  | _ => []⟩
noncomputable def fulcrumref01_Of.cals : Cals := (Cals.cons 77 fulcrumref01_Norm.sig Cals.nil)
noncomputable def fulcrumref01_Of.sig : Sig := fulcrumref01_Of.spec.sig fulcrumref01_Of.cals T Try.f75
noncomputable def fulcrumref01_Of.F (x : Int × Unit) : Option ((List Int) × Unit) := limF fulcrumref01_Of.spec fulcrumref01_Of.cals T Try.f75 x
theorem fulcrumref01_Of.ck : CalsOk Try.prog fulcrumref01_Of.cals := (CalsOk.cons fulcrumref01_Norm.cal CalsOk.nil)
theorem fulcrumref01_Of.cal : CalOk Try.prog 75 fulcrumref01_Of.sig := calOk_lim' tabOk fulcrumref01_Of.ck mix Try.func75 (by kernel_rfl) (by kernel_rfl) (by kernel_rfl) (by kernel_rfl)
noncomputable def fulcrumref01_Of.e  (a0 : Int) : Option ((List Int) × Unit) :=
  let v1 := IntKind.u32.wrap a0
  bif decide ((32 : Int) < 0) then none
  else (let v2 := shrI .u64 a0 (32 : Int)
  let v3 := IntKind.u32.wrap v2
  let v4 := ([v1, v3] : List Int)
  (fulcrumref01_Norm.F (v4, ())).bind fun y5 =>
  some (y5.1, ()))
theorem fulcrumref01_Of.eval (k : Nat) (a0 : Int) : evalF fulcrumref01_Of.spec fulcrumref01_Of.cals T Try.f75 k (a0, ()) = fulcrumref01_Of.e  a0 := by kernel_rfl
theorem fulcrumref01_Of.F_eq (a0 : Int) : fulcrumref01_Of.F (a0, ()) = limF fulcrumref01_Of.spec fulcrumref01_Of.cals T Try.f75 (a0, ()) := by kernel_rfl
theorem fulcrumref01_Of.of (k : Nat) (a0 : Int) {y : (List Int) × Unit} (h : fulcrumref01_Of.e  a0 = some y) : fulcrumref01_Of.F (a0, ()) = some y := (fulcrumref01_Of.F_eq a0).trans (limF_of (q := fulcrumref01_Of.spec) (C := fulcrumref01_Of.cals) (T := T) (f := Try.f75) (x := (a0, ())) (y := y) k ((fulcrumref01_Of.eval k a0).trans h))

/-! ### fulcrum/fulcrumref02.Of -/
def fulcrumref02_Of.spec : Spec := ⟨[(false, (.int .i64))], [(true, (.prod .bool (.sl 70 (.int .u32))))], .own, fun j => match j with  | _ => []⟩
noncomputable def fulcrumref02_Of.cals : Cals := (Cals.cons 75 fulcrumref01_Of.sig (Cals.cons 74 fulcrumref02_made.sig Cals.nil))
noncomputable def fulcrumref02_Of.sig : Sig := fulcrumref02_Of.spec.sig fulcrumref02_Of.cals T Try.f21
noncomputable def fulcrumref02_Of.F (x : Int × Unit) : Option ((Bool × (List Int)) × Unit) := limF fulcrumref02_Of.spec fulcrumref02_Of.cals T Try.f21 x
theorem fulcrumref02_Of.ck : CalsOk Try.prog fulcrumref02_Of.cals := (CalsOk.cons fulcrumref01_Of.cal (CalsOk.cons fulcrumref02_made.cal CalsOk.nil))
theorem fulcrumref02_Of.cal : CalOk Try.prog 21 fulcrumref02_Of.sig := calOk_lim' tabOk fulcrumref02_Of.ck mix Try.func21 (by kernel_rfl) (by kernel_rfl) (by kernel_rfl) (by kernel_rfl)
noncomputable def fulcrumref02_Of.e  (a0 : Int) : Option ((Bool × (List Int)) × Unit) :=
  let v1 := decide (a0 < (0 : Int))
  bif v1 then (let v2 := IntKind.u64.wrap a0
  let v3 := IntKind.u64.wrap ((0 : Int) - v2)
  (fulcrumref01_Of.F (v3, ())).bind fun y4 =>
  (fulcrumref02_made.F (true, y4.1, ())).bind fun y5 =>
  some ((y5.1.1, y5.1.2), ()))
  else (let v6 := IntKind.u64.wrap a0
  (fulcrumref01_Of.F (v6, ())).bind fun y7 =>
  (fulcrumref02_made.F (false, y7.1, ())).bind fun y8 =>
  some ((y8.1.1, y8.1.2), ()))
theorem fulcrumref02_Of.eval (k : Nat) (a0 : Int) : evalF fulcrumref02_Of.spec fulcrumref02_Of.cals T Try.f21 k (a0, ()) = fulcrumref02_Of.e  a0 := by kernel_rfl
theorem fulcrumref02_Of.F_eq (a0 : Int) : fulcrumref02_Of.F (a0, ()) = limF fulcrumref02_Of.spec fulcrumref02_Of.cals T Try.f21 (a0, ()) := by kernel_rfl
theorem fulcrumref02_Of.of (k : Nat) (a0 : Int) {y : (Bool × (List Int)) × Unit} (h : fulcrumref02_Of.e  a0 = some y) : fulcrumref02_Of.F (a0, ()) = some y := (fulcrumref02_Of.F_eq a0).trans (limF_of (q := fulcrumref02_Of.spec) (C := fulcrumref02_Of.cals) (T := T) (f := Try.f21) (x := (a0, ())) (y := y) k ((fulcrumref02_Of.eval k a0).trans h))

/-! ### fulcrum/whole.Norm -/
def whole_Norm.spec : Spec := ⟨[(true, (.prod .bool (.sl 70 (.int .u32))))], [(true, (.prod .bool (.sl 70 (.int .u32))))], .own, fun j => match j with  | _ => []⟩
noncomputable def whole_Norm.cals : Cals := (Cals.cons 29 whole_Sign.sig (Cals.cons 72 whole_signed.sig Cals.nil))
noncomputable def whole_Norm.sig : Sig := whole_Norm.spec.sig whole_Norm.cals T Try.f22
noncomputable def whole_Norm.F (x : (Bool × (List Int)) × Unit) : Option ((Bool × (List Int)) × Unit) := limF whole_Norm.spec whole_Norm.cals T Try.f22 x
theorem whole_Norm.ck : CalsOk Try.prog whole_Norm.cals := (CalsOk.cons whole_Sign.cal (CalsOk.cons whole_signed.cal CalsOk.nil))
theorem whole_Norm.cal : CalOk Try.prog 22 whole_Norm.sig := calOk_lim' tabOk whole_Norm.ck mix Try.func22 (by kernel_rfl) (by kernel_rfl) (by kernel_rfl) (by kernel_rfl)
noncomputable def whole_Norm.e  (a0 : (Bool × (List Int))) : Option ((Bool × (List Int)) × Unit) :=
  (whole_Sign.F ((a0.1, a0.2), ())).bind fun y1 =>
  let v2 := ([y1.1] : List Int)
  (whole_signed.F (a0.2, v2, ())).bind fun y3 =>
  some ((y3.1.1, y3.1.2), ())
theorem whole_Norm.eval (k : Nat) (a0 : (Bool × (List Int))) : evalF whole_Norm.spec whole_Norm.cals T Try.f22 k (a0, ()) = whole_Norm.e  a0 := by kernel_rfl
theorem whole_Norm.F_eq (a0 : (Bool × (List Int))) : whole_Norm.F (a0, ()) = limF whole_Norm.spec whole_Norm.cals T Try.f22 (a0, ()) := by kernel_rfl
theorem whole_Norm.of (k : Nat) (a0 : (Bool × (List Int))) {y : (Bool × (List Int)) × Unit} (h : whole_Norm.e  a0 = some y) : whole_Norm.F (a0, ()) = some y := (whole_Norm.F_eq a0).trans (limF_of (q := whole_Norm.spec) (C := whole_Norm.cals) (T := T) (f := Try.f22) (x := (a0, ())) (y := y) k ((whole_Norm.eval k a0).trans h))

/-! ### fulcrum/fulcrumref02.Norm -/
def fulcrumref02_Norm.spec : Spec := ⟨[(true, (.prod .bool (.sl 70 (.int .u32))))], [(true, (.prod .bool (.sl 70 (.int .u32))))], .own, fun j => match j with  | _ => []⟩
noncomputable def fulcrumref02_Norm.cals : Cals := (Cals.cons 74 fulcrumref02_made.sig Cals.nil)
noncomputable def fulcrumref02_Norm.sig : Sig := fulcrumref02_Norm.spec.sig fulcrumref02_Norm.cals T Try.f23
noncomputable def fulcrumref02_Norm.F (x : (Bool × (List Int)) × Unit) : Option ((Bool × (List Int)) × Unit) := limF fulcrumref02_Norm.spec fulcrumref02_Norm.cals T Try.f23 x
theorem fulcrumref02_Norm.ck : CalsOk Try.prog fulcrumref02_Norm.cals := (CalsOk.cons fulcrumref02_made.cal CalsOk.nil)
theorem fulcrumref02_Norm.cal : CalOk Try.prog 23 fulcrumref02_Norm.sig := calOk_lim' tabOk fulcrumref02_Norm.ck mix Try.func23 (by kernel_rfl) (by kernel_rfl) (by kernel_rfl) (by kernel_rfl)
noncomputable def fulcrumref02_Norm.e  (a0 : (Bool × (List Int))) : Option ((Bool × (List Int)) × Unit) :=
  (fulcrumref02_made.F (a0.1, a0.2, ())).bind fun y1 =>
  some ((y1.1.1, y1.1.2), ())
theorem fulcrumref02_Norm.eval (k : Nat) (a0 : (Bool × (List Int))) : evalF fulcrumref02_Norm.spec fulcrumref02_Norm.cals T Try.f23 k (a0, ()) = fulcrumref02_Norm.e  a0 := by kernel_rfl
theorem fulcrumref02_Norm.F_eq (a0 : (Bool × (List Int))) : fulcrumref02_Norm.F (a0, ()) = limF fulcrumref02_Norm.spec fulcrumref02_Norm.cals T Try.f23 (a0, ()) := by kernel_rfl
theorem fulcrumref02_Norm.of (k : Nat) (a0 : (Bool × (List Int))) {y : (Bool × (List Int)) × Unit} (h : fulcrumref02_Norm.e  a0 = some y) : fulcrumref02_Norm.F (a0, ()) = some y := (fulcrumref02_Norm.F_eq a0).trans (limF_of (q := fulcrumref02_Norm.spec) (C := fulcrumref02_Norm.cals) (T := T) (f := Try.f23) (x := (a0, ())) (y := y) k ((fulcrumref02_Norm.eval k a0).trans h))

/-! ### fulcrum/whole.Neg -/
def whole_Neg.spec : Spec := ⟨[(true, (.prod .bool (.sl 70 (.int .u32))))], [(true, (.prod .bool (.sl 70 (.int .u32))))], .own, fun j => match j with  | _ => []⟩
noncomputable def whole_Neg.cals : Cals := (Cals.cons 29 whole_Sign.sig (Cals.cons 72 whole_signed.sig Cals.nil))
noncomputable def whole_Neg.sig : Sig := whole_Neg.spec.sig whole_Neg.cals T Try.f24
noncomputable def whole_Neg.F (x : (Bool × (List Int)) × Unit) : Option ((Bool × (List Int)) × Unit) := limF whole_Neg.spec whole_Neg.cals T Try.f24 x
theorem whole_Neg.ck : CalsOk Try.prog whole_Neg.cals := (CalsOk.cons whole_Sign.cal (CalsOk.cons whole_signed.cal CalsOk.nil))
theorem whole_Neg.cal : CalOk Try.prog 24 whole_Neg.sig := calOk_lim' tabOk whole_Neg.ck mix Try.func24 (by kernel_rfl) (by kernel_rfl) (by kernel_rfl) (by kernel_rfl)
noncomputable def whole_Neg.e  (a0 : (Bool × (List Int))) : Option ((Bool × (List Int)) × Unit) :=
  (whole_Sign.F ((a0.1, a0.2), ())).bind fun y1 =>
  let v2 := ([(-1 : Int), y1.1] : List Int)
  (whole_signed.F (a0.2, v2, ())).bind fun y3 =>
  some ((y3.1.1, y3.1.2), ())
theorem whole_Neg.eval (k : Nat) (a0 : (Bool × (List Int))) : evalF whole_Neg.spec whole_Neg.cals T Try.f24 k (a0, ()) = whole_Neg.e  a0 := by kernel_rfl
theorem whole_Neg.F_eq (a0 : (Bool × (List Int))) : whole_Neg.F (a0, ()) = limF whole_Neg.spec whole_Neg.cals T Try.f24 (a0, ()) := by kernel_rfl
theorem whole_Neg.of (k : Nat) (a0 : (Bool × (List Int))) {y : (Bool × (List Int)) × Unit} (h : whole_Neg.e  a0 = some y) : whole_Neg.F (a0, ()) = some y := (whole_Neg.F_eq a0).trans (limF_of (q := whole_Neg.spec) (C := whole_Neg.cals) (T := T) (f := Try.f24) (x := (a0, ())) (y := y) k ((whole_Neg.eval k a0).trans h))

/-! ### fulcrum/fulcrumref02.Neg -/
def fulcrumref02_Neg.spec : Spec := ⟨[(true, (.prod .bool (.sl 70 (.int .u32))))], [(true, (.prod .bool (.sl 70 (.int .u32))))], .own, fun j => match j with  | _ => []⟩
noncomputable def fulcrumref02_Neg.cals : Cals := (Cals.cons 74 fulcrumref02_made.sig Cals.nil)
noncomputable def fulcrumref02_Neg.sig : Sig := fulcrumref02_Neg.spec.sig fulcrumref02_Neg.cals T Try.f25
noncomputable def fulcrumref02_Neg.F (x : (Bool × (List Int)) × Unit) : Option ((Bool × (List Int)) × Unit) := limF fulcrumref02_Neg.spec fulcrumref02_Neg.cals T Try.f25 x
theorem fulcrumref02_Neg.ck : CalsOk Try.prog fulcrumref02_Neg.cals := (CalsOk.cons fulcrumref02_made.cal CalsOk.nil)
theorem fulcrumref02_Neg.cal : CalOk Try.prog 25 fulcrumref02_Neg.sig := calOk_lim' tabOk fulcrumref02_Neg.ck mix Try.func25 (by kernel_rfl) (by kernel_rfl) (by kernel_rfl) (by kernel_rfl)
noncomputable def fulcrumref02_Neg.e  (a0 : (Bool × (List Int))) : Option ((Bool × (List Int)) × Unit) :=
  let v1 := not a0.1
  (fulcrumref02_made.F (v1, a0.2, ())).bind fun y2 =>
  some ((y2.1.1, y2.1.2), ())
theorem fulcrumref02_Neg.eval (k : Nat) (a0 : (Bool × (List Int))) : evalF fulcrumref02_Neg.spec fulcrumref02_Neg.cals T Try.f25 k (a0, ()) = fulcrumref02_Neg.e  a0 := by kernel_rfl
theorem fulcrumref02_Neg.F_eq (a0 : (Bool × (List Int))) : fulcrumref02_Neg.F (a0, ()) = limF fulcrumref02_Neg.spec fulcrumref02_Neg.cals T Try.f25 (a0, ()) := by kernel_rfl
theorem fulcrumref02_Neg.of (k : Nat) (a0 : (Bool × (List Int))) {y : (Bool × (List Int)) × Unit} (h : fulcrumref02_Neg.e  a0 = some y) : fulcrumref02_Neg.F (a0, ()) = some y := (fulcrumref02_Neg.F_eq a0).trans (limF_of (q := fulcrumref02_Neg.spec) (C := fulcrumref02_Neg.cals) (T := T) (f := Try.f25) (x := (a0, ())) (y := y) k ((fulcrumref02_Neg.eval k a0).trans h))

/-! ### fulcrum/whole.Abs -/
def whole_Abs.spec : Spec := ⟨[(true, (.prod .bool (.sl 70 (.int .u32))))], [(false, (.sl 70 (.int .u32)))], .own, fun j => match j with  | _ => []⟩
noncomputable def whole_Abs.cals : Cals := (Cals.cons 76 nat_Norm.sig Cals.nil)
noncomputable def whole_Abs.sig : Sig := whole_Abs.spec.sig whole_Abs.cals T Try.f27
noncomputable def whole_Abs.F (x : (Bool × (List Int)) × Unit) : Option ((List Int) × Unit) := limF whole_Abs.spec whole_Abs.cals T Try.f27 x
theorem whole_Abs.ck : CalsOk Try.prog whole_Abs.cals := (CalsOk.cons nat_Norm.cal CalsOk.nil)
theorem whole_Abs.cal : CalOk Try.prog 27 whole_Abs.sig := calOk_lim' tabOk whole_Abs.ck mix Try.func27 (by kernel_rfl) (by kernel_rfl) (by kernel_rfl) (by kernel_rfl)
noncomputable def whole_Abs.e  (a0 : (Bool × (List Int))) : Option ((List Int) × Unit) :=
  (nat_Norm.F (a0.2, ())).bind fun y1 =>
  some (y1.1, ())
theorem whole_Abs.eval (k : Nat) (a0 : (Bool × (List Int))) : evalF whole_Abs.spec whole_Abs.cals T Try.f27 k (a0, ()) = whole_Abs.e  a0 := by kernel_rfl
theorem whole_Abs.F_eq (a0 : (Bool × (List Int))) : whole_Abs.F (a0, ()) = limF whole_Abs.spec whole_Abs.cals T Try.f27 (a0, ()) := by kernel_rfl
theorem whole_Abs.of (k : Nat) (a0 : (Bool × (List Int))) {y : (List Int) × Unit} (h : whole_Abs.e  a0 = some y) : whole_Abs.F (a0, ()) = some y := (whole_Abs.F_eq a0).trans (limF_of (q := whole_Abs.spec) (C := whole_Abs.cals) (T := T) (f := Try.f27) (x := (a0, ())) (y := y) k ((whole_Abs.eval k a0).trans h))

/-! ### fulcrum/fulcrumref02.Abs -/
def fulcrumref02_Abs.spec : Spec := ⟨[(true, (.prod .bool (.sl 70 (.int .u32))))], [(false, (.sl 70 (.int .u32)))], .own, fun j => match j with  | _ => []⟩
noncomputable def fulcrumref02_Abs.cals : Cals := (Cals.cons 77 fulcrumref01_Norm.sig Cals.nil)
noncomputable def fulcrumref02_Abs.sig : Sig := fulcrumref02_Abs.spec.sig fulcrumref02_Abs.cals T Try.f28
noncomputable def fulcrumref02_Abs.F (x : (Bool × (List Int)) × Unit) : Option ((List Int) × Unit) := limF fulcrumref02_Abs.spec fulcrumref02_Abs.cals T Try.f28 x
theorem fulcrumref02_Abs.ck : CalsOk Try.prog fulcrumref02_Abs.cals := (CalsOk.cons fulcrumref01_Norm.cal CalsOk.nil)
theorem fulcrumref02_Abs.cal : CalOk Try.prog 28 fulcrumref02_Abs.sig := calOk_lim' tabOk fulcrumref02_Abs.ck mix Try.func28 (by kernel_rfl) (by kernel_rfl) (by kernel_rfl) (by kernel_rfl)
noncomputable def fulcrumref02_Abs.e  (a0 : (Bool × (List Int))) : Option ((List Int) × Unit) :=
  (fulcrumref01_Norm.F (a0.2, ())).bind fun y1 =>
  some (y1.1, ())
theorem fulcrumref02_Abs.eval (k : Nat) (a0 : (Bool × (List Int))) : evalF fulcrumref02_Abs.spec fulcrumref02_Abs.cals T Try.f28 k (a0, ()) = fulcrumref02_Abs.e  a0 := by kernel_rfl
theorem fulcrumref02_Abs.F_eq (a0 : (Bool × (List Int))) : fulcrumref02_Abs.F (a0, ()) = limF fulcrumref02_Abs.spec fulcrumref02_Abs.cals T Try.f28 (a0, ()) := by kernel_rfl
theorem fulcrumref02_Abs.of (k : Nat) (a0 : (Bool × (List Int))) {y : (List Int) × Unit} (h : fulcrumref02_Abs.e  a0 = some y) : fulcrumref02_Abs.F (a0, ()) = some y := (fulcrumref02_Abs.F_eq a0).trans (limF_of (q := fulcrumref02_Abs.spec) (C := fulcrumref02_Abs.cals) (T := T) (f := Try.f28) (x := (a0, ())) (y := y) k ((fulcrumref02_Abs.eval k a0).trans h))

/-! ### fulcrum/fulcrumref02.Sign -/
def fulcrumref02_Sign.spec : Spec := ⟨[(true, (.prod .bool (.sl 70 (.int .u32))))], [(false, (.int .i64))], .own, fun j => match j with  | _ => []⟩
noncomputable def fulcrumref02_Sign.cals : Cals := (Cals.cons 23 fulcrumref02_Norm.sig Cals.nil)
noncomputable def fulcrumref02_Sign.sig : Sig := fulcrumref02_Sign.spec.sig fulcrumref02_Sign.cals T Try.f30
noncomputable def fulcrumref02_Sign.F (x : (Bool × (List Int)) × Unit) : Option (Int × Unit) := limF fulcrumref02_Sign.spec fulcrumref02_Sign.cals T Try.f30 x
theorem fulcrumref02_Sign.ck : CalsOk Try.prog fulcrumref02_Sign.cals := (CalsOk.cons fulcrumref02_Norm.cal CalsOk.nil)
theorem fulcrumref02_Sign.cal : CalOk Try.prog 30 fulcrumref02_Sign.sig := calOk_lim' tabOk fulcrumref02_Sign.ck mix Try.func30 (by kernel_rfl) (by kernel_rfl) (by kernel_rfl) (by kernel_rfl)
noncomputable def fulcrumref02_Sign.e  (a0 : (Bool × (List Int))) : Option (Int × Unit) :=
  (fulcrumref02_Norm.F ((a0.1, a0.2), ())).bind fun y1 =>
  bif y1.1.1 then (some ((-1 : Int), ()))
  else (let v2 := (List.length y1.1.2 : Int)
  let v3 := decide (v2 > (0 : Int))
  bif v3 then (some ((1 : Int), ()))
  else (some ((0 : Int), ())))
theorem fulcrumref02_Sign.eval (k : Nat) (a0 : (Bool × (List Int))) : evalF fulcrumref02_Sign.spec fulcrumref02_Sign.cals T Try.f30 k (a0, ()) = fulcrumref02_Sign.e  a0 := by kernel_rfl
theorem fulcrumref02_Sign.F_eq (a0 : (Bool × (List Int))) : fulcrumref02_Sign.F (a0, ()) = limF fulcrumref02_Sign.spec fulcrumref02_Sign.cals T Try.f30 (a0, ()) := by kernel_rfl
theorem fulcrumref02_Sign.of (k : Nat) (a0 : (Bool × (List Int))) {y : Int × Unit} (h : fulcrumref02_Sign.e  a0 = some y) : fulcrumref02_Sign.F (a0, ()) = some y := (fulcrumref02_Sign.F_eq a0).trans (limF_of (q := fulcrumref02_Sign.spec) (C := fulcrumref02_Sign.cals) (T := T) (f := Try.f30) (x := (a0, ())) (y := y) k ((fulcrumref02_Sign.eval k a0).trans h))

/-! ### fulcrum/fulcrumlaw02.WholeMakes -/
def fulcrumlaw02_WholeMakes.spec : Spec := ⟨[(false, (.int .i64)), (true, (.prod .bool (.sl 70 (.int .u32))))], [(false, .bool)], .own, fun j => match j with  | _ => []⟩
noncomputable def fulcrumlaw02_WholeMakes.cals : Cals := (Cals.cons 17 whole_Small.sig (Cals.cons 18 fulcrumref02_Small.sig (Cals.cons 20 whole_Of.sig (Cals.cons 21 fulcrumref02_Of.sig (Cals.cons 19 fulcrumlaw02_same.sig (Cals.cons 22 whole_Norm.sig (Cals.cons 23 fulcrumref02_Norm.sig (Cals.cons 24 whole_Neg.sig (Cals.cons 25 fulcrumref02_Neg.sig (Cals.cons 27 whole_Abs.sig (Cals.cons 28 fulcrumref02_Abs.sig (Cals.cons 26 fulcrummem_SameNat.sig (Cals.cons 29 whole_Sign.sig (Cals.cons 30 fulcrumref02_Sign.sig Cals.nil))))))))))))))
noncomputable def fulcrumlaw02_WholeMakes.sig : Sig := fulcrumlaw02_WholeMakes.spec.sig fulcrumlaw02_WholeMakes.cals T Try.f3
noncomputable def fulcrumlaw02_WholeMakes.F (x : Int × (Bool × (List Int)) × Unit) : Option (Bool × Unit) := limF fulcrumlaw02_WholeMakes.spec fulcrumlaw02_WholeMakes.cals T Try.f3 x
theorem fulcrumlaw02_WholeMakes.ck : CalsOk Try.prog fulcrumlaw02_WholeMakes.cals := (CalsOk.cons whole_Small.cal (CalsOk.cons fulcrumref02_Small.cal (CalsOk.cons whole_Of.cal (CalsOk.cons fulcrumref02_Of.cal (CalsOk.cons fulcrumlaw02_same.cal (CalsOk.cons whole_Norm.cal (CalsOk.cons fulcrumref02_Norm.cal (CalsOk.cons whole_Neg.cal (CalsOk.cons fulcrumref02_Neg.cal (CalsOk.cons whole_Abs.cal (CalsOk.cons fulcrumref02_Abs.cal (CalsOk.cons fulcrummem_SameNat.cal (CalsOk.cons whole_Sign.cal (CalsOk.cons fulcrumref02_Sign.cal CalsOk.nil))))))))))))))
theorem fulcrumlaw02_WholeMakes.cal : CalOk Try.prog 3 fulcrumlaw02_WholeMakes.sig := calOk_lim' tabOk fulcrumlaw02_WholeMakes.ck mix Try.func3 (by kernel_rfl) (by kernel_rfl) (by kernel_rfl) (by kernel_rfl)
noncomputable def fulcrumlaw02_WholeMakes.e  (a0 : Int) (a1 : (Bool × (List Int))) : Option (Bool × Unit) :=
  (whole_Small.F ((a1.1, a1.2), ())).bind fun y1 =>
  (fulcrumref02_Small.F ((a1.1, a1.2), ())).bind fun y2 =>
  let v3 := (!(y1.2.1 == y2.2.1))
  bif v3 then (some (false, ()))
  else (let v4 := (y1.1 != y2.1)
  bif v4 then (some (false, ()))
  else ((whole_Of.F (a0, ())).bind fun y5 =>
  (fulcrumref02_Of.F (a0, ())).bind fun y6 =>
  (fulcrumlaw02_same.F ((y5.1.1, y5.1.2), (y6.1.1, y6.1.2), ())).bind fun y7 =>
  let v8 := not y7.1
  bif v8 then (some (false, ()))
  else ((whole_Norm.F ((a1.1, a1.2), ())).bind fun y9 =>
  (fulcrumref02_Norm.F ((a1.1, a1.2), ())).bind fun y10 =>
  (fulcrumlaw02_same.F ((y9.1.1, y9.1.2), (y10.1.1, y10.1.2), ())).bind fun y11 =>
  let v12 := not y11.1
  bif v12 then (some (false, ()))
  else ((whole_Of.F (a0, ())).bind fun y13 =>
  (whole_Small.F ((y13.1.1, y13.1.2), ())).bind fun y14 =>
  let v15 := not y14.2.1
  bif v15 then (some (false, ()))
  else (let v16 := (y14.1 != a0)
  bif v16 then (some (false, ()))
  else ((whole_Neg.F ((a1.1, a1.2), ())).bind fun y17 =>
  (fulcrumref02_Neg.F ((a1.1, a1.2), ())).bind fun y18 =>
  (fulcrumlaw02_same.F ((y17.1.1, y17.1.2), (y18.1.1, y18.1.2), ())).bind fun y19 =>
  let v20 := not y19.1
  bif v20 then (some (false, ()))
  else ((whole_Abs.F ((a1.1, a1.2), ())).bind fun y21 =>
  (fulcrumref02_Abs.F ((a1.1, a1.2), ())).bind fun y22 =>
  (fulcrummem_SameNat.F (y21.1, y22.1, ())).bind fun y23 =>
  bif y23.1 then ((whole_Sign.F ((a1.1, a1.2), ())).bind fun y24 =>
  (fulcrumref02_Sign.F ((a1.1, a1.2), ())).bind fun y25 =>
  let v26 := (y24.1 == y25.1)
  some (v26, ()))
  else (some (false, ())))))))))
theorem fulcrumlaw02_WholeMakes.eval (k : Nat) (a0 : Int) (a1 : (Bool × (List Int))) : evalF fulcrumlaw02_WholeMakes.spec fulcrumlaw02_WholeMakes.cals T Try.f3 k (a0, a1, ()) = fulcrumlaw02_WholeMakes.e  a0 a1 := by kernel_rfl
theorem fulcrumlaw02_WholeMakes.F_eq (a0 : Int) (a1 : (Bool × (List Int))) : fulcrumlaw02_WholeMakes.F (a0, a1, ()) = limF fulcrumlaw02_WholeMakes.spec fulcrumlaw02_WholeMakes.cals T Try.f3 (a0, a1, ()) := by kernel_rfl
theorem fulcrumlaw02_WholeMakes.of (k : Nat) (a0 : Int) (a1 : (Bool × (List Int))) {y : Bool × Unit} (h : fulcrumlaw02_WholeMakes.e  a0 a1 = some y) : fulcrumlaw02_WholeMakes.F (a0, a1, ()) = some y := (fulcrumlaw02_WholeMakes.F_eq a0 a1).trans (limF_of (q := fulcrumlaw02_WholeMakes.spec) (C := fulcrumlaw02_WholeMakes.cals) (T := T) (f := Try.f3) (x := (a0, a1, ())) (y := y) k ((fulcrumlaw02_WholeMakes.eval k a0 a1).trans h))

/-! ### math/bits.Add32 -/
def bits_Add32.spec : Spec := ⟨[(false, (.int .u32)), (false, (.int .u32)), (false, (.int .u32))], [(false, (.int .u32)), (false, (.int .u32))], .own, fun j => match j with  | _ => []⟩
noncomputable def bits_Add32.cals : Cals := Cals.nil
noncomputable def bits_Add32.sig : Sig := bits_Add32.spec.sig bits_Add32.cals T Try.f100
noncomputable def bits_Add32.F (x : Int × Int × Int × Unit) : Option (Int × Int × Unit) := limF bits_Add32.spec bits_Add32.cals T Try.f100 x
theorem bits_Add32.ck : CalsOk Try.prog bits_Add32.cals := CalsOk.nil
theorem bits_Add32.cal : CalOk Try.prog 100 bits_Add32.sig := calOk_lim' tabOk bits_Add32.ck mix Try.func100 (by kernel_rfl) (by kernel_rfl) (by kernel_rfl) (by kernel_rfl)
noncomputable def bits_Add32.e  (a0 : Int) (a1 : Int) (a2 : Int) : Option (Int × Int × Unit) :=
  let v1 := IntKind.u64.wrap a0
  let v2 := IntKind.u64.wrap a1
  let v3 := IntKind.u64.wrap (v1 + v2)
  let v4 := IntKind.u64.wrap a2
  let v5 := IntKind.u64.wrap (v3 + v4)
  let v6 := IntKind.u32.wrap v5
  bif decide ((32 : Int) < 0) then none
  else (let v7 := shrI .u64 v5 (32 : Int)
  let v8 := IntKind.u32.wrap v7
  some (v6, v8, ()))
theorem bits_Add32.eval (k : Nat) (a0 : Int) (a1 : Int) (a2 : Int) : evalF bits_Add32.spec bits_Add32.cals T Try.f100 k (a0, a1, a2, ()) = bits_Add32.e  a0 a1 a2 := by kernel_rfl
theorem bits_Add32.F_eq (a0 : Int) (a1 : Int) (a2 : Int) : bits_Add32.F (a0, a1, a2, ()) = limF bits_Add32.spec bits_Add32.cals T Try.f100 (a0, a1, a2, ()) := by kernel_rfl
theorem bits_Add32.of (k : Nat) (a0 : Int) (a1 : Int) (a2 : Int) {y : Int × Int × Unit} (h : bits_Add32.e  a0 a1 a2 = some y) : bits_Add32.F (a0, a1, a2, ()) = some y := (bits_Add32.F_eq a0 a1 a2).trans (limF_of (q := bits_Add32.spec) (C := bits_Add32.cals) (T := T) (f := Try.f100) (x := (a0, a1, a2, ())) (y := y) k ((bits_Add32.eval k a0 a1 a2).trans h))

/-! ### fulcrum/nat.Add -/
def nat_Add.spec : Spec := ⟨[(false, (.sl 70 (.int .u32))), (false, (.sl 70 (.int .u32)))], [(false, (.sl 70 (.int .u32)))], .own, fun j => match j with | 6 => [(0, .lf (.z 70 (.int .u32) false)), (1, .lf (.z 70 (.int .u32) false)), (5, .lf (.o 70 (.int .u32) true)), (6, .lf (.v true)), (21, .lf (.v true)), (22, .lf (.v true))] | _ => []⟩
noncomputable def nat_Add.cals : Cals := (Cals.cons 100 bits_Add32.sig (Cals.cons 99 nat_own.sig Cals.nil))
noncomputable def nat_Add.sig : Sig := nat_Add.spec.sig nat_Add.cals T Try.f79
noncomputable def nat_Add.F (x : (List Int) × (List Int) × Unit) : Option ((List Int) × Unit) := limF nat_Add.spec nat_Add.cals T Try.f79 x
theorem nat_Add.ck : CalsOk Try.prog nat_Add.cals := (CalsOk.cons bits_Add32.cal (CalsOk.cons nat_own.cal CalsOk.nil))
theorem nat_Add.cal : CalOk Try.prog 79 nat_Add.sig := calOk_lim' tabOk nat_Add.ck mix Try.func79 (by kernel_rfl) (by kernel_rfl) (by kernel_rfl) (by kernel_rfl)
def nat_Add.m6 (x0 : (List Int)) (x1 : (List Int)) (x5 : (List Int)) (x6 : Int) (x21 : Int) (x22 : Int) : S := ⟨[(0, .one (.lf (.val false (.sl 70 (.int .u32)) x0))), (1, .one (.lf (.val false (.sl 70 (.int .u32)) x1))), (5, .one (.lf (.own 0))), (6, .one (.lf (.val true (.int .u32) x6))), (21, .one (.lf (.val true (.int .i64) x21))), (22, .one (.lf (.val true (.int .i64) x22)))], ⟨[some ⟨70, (.int .u32), true, true, x5⟩], []⟩⟩
noncomputable def nat_Add.b6 (f6 : (List Int) → (List Int) → (List Int) → Int → Int → Int → Option ((List Int) × Unit)) (x0 : (List Int)) (x1 : (List Int)) (x5 : (List Int)) (x6 : Int) (x21 : Int) (x22 : Int) : Option ((List Int) × Unit) :=
  let v1 := decide (x22 < x21)
  bif v1 then (let v2 := (List.length x1 : Int)
  let v3 := decide (x22 < v2)
  bif v3 then (bif decide (0 ≤ x22) && decide (x22 < (List.length x1 : Int)) then (let v4 := List.getD x1 (Int.toNat x22) (0 : Int)
  bif decide (0 ≤ x22) && decide (x22 < (List.length x0 : Int)) then (let v5 := List.getD x0 (Int.toNat x22) (0 : Int)
  (bits_Add32.F (v5, v4, x6, ())).bind fun y6 =>
  bif decide (0 ≤ x22) && decide (x22 < (List.length x5 : Int)) then (let v7 := List.set x5 (Int.toNat x22) y6.1
  let v8 := IntKind.i64.wrap (x22 + (1 : Int))
  f6 x0 x1 v7 y6.2.1 x21 v8)
  else none)
  else none)
  else none)
  else (bif decide (0 ≤ x22) && decide (x22 < (List.length x0 : Int)) then (let v9 := List.getD x0 (Int.toNat x22) (0 : Int)
  (bits_Add32.F (v9, (0 : Int), x6, ())).bind fun y10 =>
  bif decide (0 ≤ x22) && decide (x22 < (List.length x5 : Int)) then (let v11 := List.set x5 (Int.toNat x22) y10.1
  let v12 := IntKind.i64.wrap (x22 + (1 : Int))
  f6 x0 x1 v11 y10.2.1 x21 v12)
  else none)
  else none))
  else (let v13 := (List.length x0 : Int)
  bif decide (0 ≤ v13) && decide (v13 < (List.length x5 : Int)) then (let v14 := List.set x5 (Int.toNat v13) x6
  (nat_own.F (v14, ())).bind fun y15 =>
  some (y15.1, ()))
  else none)
noncomputable def nat_Add.e (f6 : (List Int) → (List Int) → (List Int) → Int → Int → Int → Option ((List Int) × Unit)) (a0 : (List Int)) (a1 : (List Int)) : Option ((List Int) × Unit) :=
  let v1 := (List.length a0 : Int)
  let v2 := (List.length a1 : Int)
  let v3 := decide (v1 < v2)
  bif v3 then (let v4 := (List.length a1 : Int)
  let v5 := IntKind.i64.wrap (v4 + (1 : Int))
  bif decide (0 ≤ v5) && (decide (v5 ≤ v5) && (decide (Int.toNat v5 * 4 ≤ 281474976710656) && Nat.blt 0 4)) then (let v6 := List.replicate (Int.toNat v5) (0 : Int)
  let v7 := (List.length a1 : Int)
  f6 a1 a0 v6 (0 : Int) v7 (0 : Int))
  else none)
  else (let v8 := (List.length a0 : Int)
  let v9 := IntKind.i64.wrap (v8 + (1 : Int))
  bif decide (0 ≤ v9) && (decide (v9 ≤ v9) && (decide (Int.toNat v9 * 4 ≤ 281474976710656) && Nat.blt 0 4)) then (let v10 := List.replicate (Int.toNat v9) (0 : Int)
  let v11 := (List.length a0 : Int)
  f6 a0 a1 v10 (0 : Int) v11 (0 : Int))
  else none)
noncomputable def nat_Add.L6 (k : Nat) (x0 : (List Int)) (x1 : (List Int)) (x5 : (List Int)) (x6 : Int) (x21 : Int) (x22 : Int) : Option ((List Int) × Unit) := heads (nat_Add.spec.env nat_Add.cals T Try.f79) (Func.pts Try.f79) k 6 (nat_Add.m6 x0 x1 x5 x6 x21 x22)
theorem nat_Add.L6_succ (k : Nat) (x0 : (List Int)) (x1 : (List Int)) (x5 : (List Int)) (x6 : Int) (x21 : Int) (x22 : Int) : nat_Add.L6 (k + 1) x0 x1 x5 x6 x21 x22 = nat_Add.b6 (nat_Add.L6 k) x0 x1 x5 x6 x21 x22 := by kernel_rfl
theorem nat_Add.L6_zero (x0 : (List Int)) (x1 : (List Int)) (x5 : (List Int)) (x6 : Int) (x21 : Int) (x22 : Int) : nat_Add.L6 0 x0 x1 x5 x6 x21 x22 = none := by kernel_rfl
theorem nat_Add.eval (k : Nat) (a0 : (List Int)) (a1 : (List Int)) : evalF nat_Add.spec nat_Add.cals T Try.f79 k (a0, a1, ()) = nat_Add.e (nat_Add.L6 k) a0 a1 := by kernel_rfl
theorem nat_Add.F_eq (a0 : (List Int)) (a1 : (List Int)) : nat_Add.F (a0, a1, ()) = limF nat_Add.spec nat_Add.cals T Try.f79 (a0, a1, ()) := by kernel_rfl
theorem nat_Add.of (k : Nat) (a0 : (List Int)) (a1 : (List Int)) {y : (List Int) × Unit} (h : nat_Add.e (nat_Add.L6 k) a0 a1 = some y) : nat_Add.F (a0, a1, ()) = some y := (nat_Add.F_eq a0 a1).trans (limF_of (q := nat_Add.spec) (C := nat_Add.cals) (T := T) (f := Try.f79) (x := (a0, a1, ())) (y := y) k ((nat_Add.eval k a0 a1).trans h))

/-! ### fulcrum/nat.Cmp -/
def nat_Cmp.spec : Spec := ⟨[(false, (.sl 70 (.int .u32))), (false, (.sl 70 (.int .u32)))], [(false, (.int .i64))], .own, fun j => match j with | 7 => [(0, .lf (.z 70 (.int .u32) false)), (1, .lf (.z 70 (.int .u32) false)), (5, .lf (.v true))] | _ => []⟩
noncomputable def nat_Cmp.cals : Cals := (Cals.cons 98 nat_trim.sig Cals.nil)
noncomputable def nat_Cmp.sig : Sig := nat_Cmp.spec.sig nat_Cmp.cals T Try.f80
noncomputable def nat_Cmp.F (x : (List Int) × (List Int) × Unit) : Option (Int × Unit) := limF nat_Cmp.spec nat_Cmp.cals T Try.f80 x
theorem nat_Cmp.ck : CalsOk Try.prog nat_Cmp.cals := (CalsOk.cons nat_trim.cal CalsOk.nil)
theorem nat_Cmp.cal : CalOk Try.prog 80 nat_Cmp.sig := calOk_lim' tabOk nat_Cmp.ck mix Try.func80 (by kernel_rfl) (by kernel_rfl) (by kernel_rfl) (by kernel_rfl)
def nat_Cmp.m7 (x0 : (List Int)) (x1 : (List Int)) (x5 : Int) : S := ⟨[(0, .one (.lf (.val false (.sl 70 (.int .u32)) x0))), (1, .one (.lf (.val false (.sl 70 (.int .u32)) x1))), (5, .one (.lf (.val true (.int .i64) x5)))], ⟨[], []⟩⟩
noncomputable def nat_Cmp.b7 (f7 : (List Int) → (List Int) → Int → Option (Int × Unit)) (x0 : (List Int)) (x1 : (List Int)) (x5 : Int) : Option (Int × Unit) :=
  let v1 := decide (x5 ≥ (0 : Int))
  bif v1 then (bif decide (0 ≤ x5) && decide (x5 < (List.length x0 : Int)) then (let v2 := List.getD x0 (Int.toNat x5) (0 : Int)
  bif decide (0 ≤ x5) && decide (x5 < (List.length x1 : Int)) then (let v3 := List.getD x1 (Int.toNat x5) (0 : Int)
  let v4 := (v2 != v3)
  bif v4 then (bif decide (0 ≤ x5) && decide (x5 < (List.length x0 : Int)) then (let v5 := List.getD x0 (Int.toNat x5) (0 : Int)
  bif decide (0 ≤ x5) && decide (x5 < (List.length x1 : Int)) then (let v6 := List.getD x1 (Int.toNat x5) (0 : Int)
  let v7 := decide (v5 < v6)
  bif v7 then (some ((-1 : Int), ()))
  else (some ((1 : Int), ())))
  else none)
  else none)
  else (let v8 := IntKind.i64.wrap (x5 - (1 : Int))
  f7 x0 x1 v8))
  else none)
  else none)
  else (some ((0 : Int), ()))
noncomputable def nat_Cmp.e (f7 : (List Int) → (List Int) → Int → Option (Int × Unit)) (a0 : (List Int)) (a1 : (List Int)) : Option (Int × Unit) :=
  (nat_trim.F (a0, ())).bind fun y1 =>
  (nat_trim.F (a1, ())).bind fun y2 =>
  let v3 := (List.length y1.1 : Int)
  let v4 := (List.length y2.1 : Int)
  let v5 := (v3 != v4)
  bif v5 then (let v6 := (List.length y1.1 : Int)
  let v7 := (List.length y2.1 : Int)
  let v8 := decide (v6 < v7)
  bif v8 then (some ((-1 : Int), ()))
  else (some ((1 : Int), ())))
  else (let v9 := (List.length y1.1 : Int)
  let v10 := IntKind.i64.wrap (v9 - (1 : Int))
  f7 y1.1 y2.1 v10)
noncomputable def nat_Cmp.L7 (k : Nat) (x0 : (List Int)) (x1 : (List Int)) (x5 : Int) : Option (Int × Unit) := heads (nat_Cmp.spec.env nat_Cmp.cals T Try.f80) (Func.pts Try.f80) k 7 (nat_Cmp.m7 x0 x1 x5)
theorem nat_Cmp.L7_succ (k : Nat) (x0 : (List Int)) (x1 : (List Int)) (x5 : Int) : nat_Cmp.L7 (k + 1) x0 x1 x5 = nat_Cmp.b7 (nat_Cmp.L7 k) x0 x1 x5 := by kernel_rfl
theorem nat_Cmp.L7_zero (x0 : (List Int)) (x1 : (List Int)) (x5 : Int) : nat_Cmp.L7 0 x0 x1 x5 = none := by kernel_rfl
theorem nat_Cmp.eval (k : Nat) (a0 : (List Int)) (a1 : (List Int)) : evalF nat_Cmp.spec nat_Cmp.cals T Try.f80 k (a0, a1, ()) = nat_Cmp.e (nat_Cmp.L7 k) a0 a1 := by kernel_rfl
theorem nat_Cmp.F_eq (a0 : (List Int)) (a1 : (List Int)) : nat_Cmp.F (a0, a1, ()) = limF nat_Cmp.spec nat_Cmp.cals T Try.f80 (a0, a1, ()) := by kernel_rfl
theorem nat_Cmp.of (k : Nat) (a0 : (List Int)) (a1 : (List Int)) {y : Int × Unit} (h : nat_Cmp.e (nat_Cmp.L7 k) a0 a1 = some y) : nat_Cmp.F (a0, a1, ()) = some y := (nat_Cmp.F_eq a0 a1).trans (limF_of (q := nat_Cmp.spec) (C := nat_Cmp.cals) (T := T) (f := Try.f80) (x := (a0, a1, ())) (y := y) k ((nat_Cmp.eval k a0 a1).trans h))

/-! ### math/bits.Sub32 -/
def bits_Sub32.spec : Spec := ⟨[(false, (.int .u32)), (false, (.int .u32)), (false, (.int .u32))], [(false, (.int .u32)), (false, (.int .u32))], .own, fun j => match j with  | _ => []⟩
noncomputable def bits_Sub32.cals : Cals := Cals.nil
noncomputable def bits_Sub32.sig : Sig := bits_Sub32.spec.sig bits_Sub32.cals T Try.f101
noncomputable def bits_Sub32.F (x : Int × Int × Int × Unit) : Option (Int × Int × Unit) := limF bits_Sub32.spec bits_Sub32.cals T Try.f101 x
theorem bits_Sub32.ck : CalsOk Try.prog bits_Sub32.cals := CalsOk.nil
theorem bits_Sub32.cal : CalOk Try.prog 101 bits_Sub32.sig := calOk_lim' tabOk bits_Sub32.ck mix Try.func101 (by kernel_rfl) (by kernel_rfl) (by kernel_rfl) (by kernel_rfl)
noncomputable def bits_Sub32.e  (a0 : Int) (a1 : Int) (a2 : Int) : Option (Int × Int × Unit) :=
  let v1 := IntKind.u32.wrap (a0 - a1)
  let v2 := IntKind.u32.wrap (v1 - a2)
  let v3 := bitsOp .xor .u32 (if IntKind.u32.signed then -1 else IntKind.u32.max) a0
  let v4 := bitsOp .and .u32 v3 a1
  let v5 := bitsOp .xor .u32 a0 a1
  let v6 := bitsOp .xor .u32 (if IntKind.u32.signed then -1 else IntKind.u32.max) v5
  let v7 := bitsOp .and .u32 v6 v2
  let v8 := bitsOp .or .u32 v4 v7
  bif decide ((31 : Int) < 0) then none
  else (let v9 := shrI .u32 v8 (31 : Int)
  some (v2, v9, ()))
theorem bits_Sub32.eval (k : Nat) (a0 : Int) (a1 : Int) (a2 : Int) : evalF bits_Sub32.spec bits_Sub32.cals T Try.f101 k (a0, a1, a2, ()) = bits_Sub32.e  a0 a1 a2 := by kernel_rfl
theorem bits_Sub32.F_eq (a0 : Int) (a1 : Int) (a2 : Int) : bits_Sub32.F (a0, a1, a2, ()) = limF bits_Sub32.spec bits_Sub32.cals T Try.f101 (a0, a1, a2, ()) := by kernel_rfl
theorem bits_Sub32.of (k : Nat) (a0 : Int) (a1 : Int) (a2 : Int) {y : Int × Int × Unit} (h : bits_Sub32.e  a0 a1 a2 = some y) : bits_Sub32.F (a0, a1, a2, ()) = some y := (bits_Sub32.F_eq a0 a1 a2).trans (limF_of (q := bits_Sub32.spec) (C := bits_Sub32.cals) (T := T) (f := Try.f101) (x := (a0, a1, a2, ())) (y := y) k ((bits_Sub32.eval k a0 a1 a2).trans h))

/-! ### fulcrum/nat.Sub -/
def nat_Sub.spec : Spec := ⟨[(false, (.sl 70 (.int .u32))), (false, (.sl 70 (.int .u32)))], [(false, (.sl 70 (.int .u32))), (false, (.int .i64))], .own, fun j => match j with | 7 => [(0, .lf (.z 70 (.int .u32) false)), (1, .lf (.z 70 (.int .u32) false)), (6, .lf (.o 70 (.int .u32) true)), (7, .lf (.v true)), (20, .lf (.v true)), (21, .lf (.v true))] | _ => []⟩
noncomputable def nat_Sub.cals : Cals := (Cals.cons 80 nat_Cmp.sig (Cals.cons 98 nat_trim.sig (Cals.cons 101 bits_Sub32.sig (Cals.cons 99 nat_own.sig Cals.nil))))
noncomputable def nat_Sub.sig : Sig := nat_Sub.spec.sig nat_Sub.cals T Try.f81
noncomputable def nat_Sub.F (x : (List Int) × (List Int) × Unit) : Option ((List Int) × Int × Unit) := limF nat_Sub.spec nat_Sub.cals T Try.f81 x
theorem nat_Sub.ck : CalsOk Try.prog nat_Sub.cals := (CalsOk.cons nat_Cmp.cal (CalsOk.cons nat_trim.cal (CalsOk.cons bits_Sub32.cal (CalsOk.cons nat_own.cal CalsOk.nil))))
theorem nat_Sub.cal : CalOk Try.prog 81 nat_Sub.sig := calOk_lim' tabOk nat_Sub.ck mix Try.func81 (by kernel_rfl) (by kernel_rfl) (by kernel_rfl) (by kernel_rfl)
def nat_Sub.m7 (x0 : (List Int)) (x1 : (List Int)) (x6 : (List Int)) (x7 : Int) (x20 : Int) (x21 : Int) : S := ⟨[(0, .one (.lf (.val false (.sl 70 (.int .u32)) x0))), (1, .one (.lf (.val false (.sl 70 (.int .u32)) x1))), (6, .one (.lf (.own 0))), (7, .one (.lf (.val true (.int .u32) x7))), (20, .one (.lf (.val true (.int .i64) x20))), (21, .one (.lf (.val true (.int .i64) x21)))], ⟨[some ⟨70, (.int .u32), true, true, x6⟩], []⟩⟩
noncomputable def nat_Sub.b7 (f7 : (List Int) → (List Int) → (List Int) → Int → Int → Int → Option ((List Int) × Int × Unit)) (x0 : (List Int)) (x1 : (List Int)) (x6 : (List Int)) (x7 : Int) (x20 : Int) (x21 : Int) : Option ((List Int) × Int × Unit) :=
  let v1 := decide (x21 < x20)
  bif v1 then (let v2 := (List.length x1 : Int)
  let v3 := decide (x21 < v2)
  bif v3 then (bif decide (0 ≤ x21) && decide (x21 < (List.length x1 : Int)) then (let v4 := List.getD x1 (Int.toNat x21) (0 : Int)
  bif decide (0 ≤ x21) && decide (x21 < (List.length x0 : Int)) then (let v5 := List.getD x0 (Int.toNat x21) (0 : Int)
  (bits_Sub32.F (v5, v4, x7, ())).bind fun y6 =>
  bif decide (0 ≤ x21) && decide (x21 < (List.length x6 : Int)) then (let v7 := List.set x6 (Int.toNat x21) y6.1
  let v8 := IntKind.i64.wrap (x21 + (1 : Int))
  f7 x0 x1 v7 y6.2.1 x20 v8)
  else none)
  else none)
  else none)
  else (bif decide (0 ≤ x21) && decide (x21 < (List.length x0 : Int)) then (let v9 := List.getD x0 (Int.toNat x21) (0 : Int)
  (bits_Sub32.F (v9, (0 : Int), x7, ())).bind fun y10 =>
  bif decide (0 ≤ x21) && decide (x21 < (List.length x6 : Int)) then (let v11 := List.set x6 (Int.toNat x21) y10.1
  let v12 := IntKind.i64.wrap (x21 + (1 : Int))
  f7 x0 x1 v11 y10.2.1 x20 v12)
  else none)
  else none))
  else ((nat_own.F (x6, ())).bind fun y13 =>
  some (y13.1, (0 : Int), ()))
noncomputable def nat_Sub.e (f7 : (List Int) → (List Int) → (List Int) → Int → Int → Int → Option ((List Int) × Int × Unit)) (a0 : (List Int)) (a1 : (List Int)) : Option ((List Int) × Int × Unit) :=
  (nat_Cmp.F (a0, a1, ())).bind fun y1 =>
  let v2 := decide (y1.1 < (0 : Int))
  bif v2 then (some (([] : List Int), (10 : Int), ()))
  else ((nat_trim.F (a1, ())).bind fun y3 =>
  let v4 := (List.length a0 : Int)
  bif decide (0 ≤ v4) && (decide (v4 ≤ v4) && (decide (Int.toNat v4 * 4 ≤ 281474976710656) && Nat.blt 0 4)) then (let v5 := List.replicate (Int.toNat v4) (0 : Int)
  let v6 := (List.length a0 : Int)
  f7 a0 y3.1 v5 (0 : Int) v6 (0 : Int))
  else none)
noncomputable def nat_Sub.L7 (k : Nat) (x0 : (List Int)) (x1 : (List Int)) (x6 : (List Int)) (x7 : Int) (x20 : Int) (x21 : Int) : Option ((List Int) × Int × Unit) := heads (nat_Sub.spec.env nat_Sub.cals T Try.f81) (Func.pts Try.f81) k 7 (nat_Sub.m7 x0 x1 x6 x7 x20 x21)
theorem nat_Sub.L7_succ (k : Nat) (x0 : (List Int)) (x1 : (List Int)) (x6 : (List Int)) (x7 : Int) (x20 : Int) (x21 : Int) : nat_Sub.L7 (k + 1) x0 x1 x6 x7 x20 x21 = nat_Sub.b7 (nat_Sub.L7 k) x0 x1 x6 x7 x20 x21 := by kernel_rfl
theorem nat_Sub.L7_zero (x0 : (List Int)) (x1 : (List Int)) (x6 : (List Int)) (x7 : Int) (x20 : Int) (x21 : Int) : nat_Sub.L7 0 x0 x1 x6 x7 x20 x21 = none := by kernel_rfl
theorem nat_Sub.eval (k : Nat) (a0 : (List Int)) (a1 : (List Int)) : evalF nat_Sub.spec nat_Sub.cals T Try.f81 k (a0, a1, ()) = nat_Sub.e (nat_Sub.L7 k) a0 a1 := by kernel_rfl
theorem nat_Sub.F_eq (a0 : (List Int)) (a1 : (List Int)) : nat_Sub.F (a0, a1, ()) = limF nat_Sub.spec nat_Sub.cals T Try.f81 (a0, a1, ()) := by kernel_rfl
theorem nat_Sub.of (k : Nat) (a0 : (List Int)) (a1 : (List Int)) {y : (List Int) × Int × Unit} (h : nat_Sub.e (nat_Sub.L7 k) a0 a1 = some y) : nat_Sub.F (a0, a1, ()) = some y := (nat_Sub.F_eq a0 a1).trans (limF_of (q := nat_Sub.spec) (C := nat_Sub.cals) (T := T) (f := Try.f81) (x := (a0, a1, ())) (y := y) k ((nat_Sub.eval k a0 a1).trans h))

/-! ### fulcrum/whole.Add -/
def whole_Add.spec : Spec := ⟨[(true, (.prod .bool (.sl 70 (.int .u32)))), (true, (.prod .bool (.sl 70 (.int .u32))))], [(true, (.prod .bool (.sl 70 (.int .u32))))], .own, fun j => match j with  | _ => []⟩
noncomputable def whole_Add.cals : Cals := (Cals.cons 29 whole_Sign.sig (Cals.cons 79 nat_Add.sig (Cals.cons 72 whole_signed.sig (Cals.cons 80 nat_Cmp.sig (Cals.cons 81 nat_Sub.sig Cals.nil)))))
noncomputable def whole_Add.sig : Sig := whole_Add.spec.sig whole_Add.cals T Try.f31
noncomputable def whole_Add.F (x : (Bool × (List Int)) × (Bool × (List Int)) × Unit) : Option ((Bool × (List Int)) × Unit) := limF whole_Add.spec whole_Add.cals T Try.f31 x
theorem whole_Add.ck : CalsOk Try.prog whole_Add.cals := (CalsOk.cons whole_Sign.cal (CalsOk.cons nat_Add.cal (CalsOk.cons whole_signed.cal (CalsOk.cons nat_Cmp.cal (CalsOk.cons nat_Sub.cal CalsOk.nil)))))
theorem whole_Add.cal : CalOk Try.prog 31 whole_Add.sig := calOk_lim' tabOk whole_Add.ck mix Try.func31 (by kernel_rfl) (by kernel_rfl) (by kernel_rfl) (by kernel_rfl)
noncomputable def whole_Add.e  (a0 : (Bool × (List Int))) (a1 : (Bool × (List Int))) : Option ((Bool × (List Int)) × Unit) :=
  (whole_Sign.F ((a0.1, a0.2), ())).bind fun y1 =>
  (whole_Sign.F ((a1.1, a1.2), ())).bind fun y2 =>
  let v3 := IntKind.i64.wrap (y1.1 * y2.1)
  let v4 := decide (v3 ≥ (0 : Int))
  bif v4 then ((nat_Add.F (a0.2, a1.2, ())).bind fun y5 =>
  let v6 := bitsOp .or .i64 y1.1 y2.1
  let v7 := bitsOp .or .i64 v6 (1 : Int)
  let v8 := ([v7] : List Int)
  (whole_signed.F (y5.1, v8, ())).bind fun y9 =>
  some ((y9.1.1, y9.1.2), ()))
  else ((nat_Cmp.F (a0.2, a1.2, ())).bind fun y10 =>
  let v11 := decide (y10.1 ≥ (0 : Int))
  bif v11 then ((nat_Sub.F (a0.2, a1.2, ())).bind fun y12 =>
  let v13 := ([y1.1] : List Int)
  (whole_signed.F (y12.1, v13, ())).bind fun y14 =>
  some ((y14.1.1, y14.1.2), ()))
  else ((nat_Sub.F (a1.2, a0.2, ())).bind fun y15 =>
  let v16 := ([y2.1] : List Int)
  (whole_signed.F (y15.1, v16, ())).bind fun y17 =>
  some ((y17.1.1, y17.1.2), ())))
theorem whole_Add.eval (k : Nat) (a0 : (Bool × (List Int))) (a1 : (Bool × (List Int))) : evalF whole_Add.spec whole_Add.cals T Try.f31 k (a0, a1, ()) = whole_Add.e  a0 a1 := by kernel_rfl
theorem whole_Add.F_eq (a0 : (Bool × (List Int))) (a1 : (Bool × (List Int))) : whole_Add.F (a0, a1, ()) = limF whole_Add.spec whole_Add.cals T Try.f31 (a0, a1, ()) := by kernel_rfl
theorem whole_Add.of (k : Nat) (a0 : (Bool × (List Int))) (a1 : (Bool × (List Int))) {y : (Bool × (List Int)) × Unit} (h : whole_Add.e  a0 a1 = some y) : whole_Add.F (a0, a1, ()) = some y := (whole_Add.F_eq a0 a1).trans (limF_of (q := whole_Add.spec) (C := whole_Add.cals) (T := T) (f := Try.f31) (x := (a0, a1, ())) (y := y) k ((whole_Add.eval k a0 a1).trans h))

/-! ### fulcrum/fulcrumref01.at -/
def fulcrumref01_at.spec : Spec := ⟨[(false, (.sl 70 (.int .u32))), (false, (.int .i64))], [(false, (.int .u64))], .own, fun j => match j with  | _ => []⟩
noncomputable def fulcrumref01_at.cals : Cals := Cals.nil
noncomputable def fulcrumref01_at.sig : Sig := fulcrumref01_at.spec.sig fulcrumref01_at.cals T Try.f102
noncomputable def fulcrumref01_at.F (x : (List Int) × Int × Unit) : Option (Int × Unit) := limF fulcrumref01_at.spec fulcrumref01_at.cals T Try.f102 x
theorem fulcrumref01_at.ck : CalsOk Try.prog fulcrumref01_at.cals := CalsOk.nil
theorem fulcrumref01_at.cal : CalOk Try.prog 102 fulcrumref01_at.sig := calOk_lim' tabOk fulcrumref01_at.ck mix Try.func102 (by kernel_rfl) (by kernel_rfl) (by kernel_rfl) (by kernel_rfl)
noncomputable def fulcrumref01_at.e  (a0 : (List Int)) (a1 : Int) : Option (Int × Unit) :=
  let v1 := (List.length a0 : Int)
  let v2 := decide (a1 ≥ v1)
  bif v2 then (some ((0 : Int), ()))
  else (bif decide (0 ≤ a1) && decide (a1 < (List.length a0 : Int)) then (let v3 := List.getD a0 (Int.toNat a1) (0 : Int)
  let v4 := IntKind.u64.wrap v3
  some (v4, ()))
  else none)
theorem fulcrumref01_at.eval (k : Nat) (a0 : (List Int)) (a1 : Int) : evalF fulcrumref01_at.spec fulcrumref01_at.cals T Try.f102 k (a0, a1, ()) = fulcrumref01_at.e  a0 a1 := by kernel_rfl
theorem fulcrumref01_at.F_eq (a0 : (List Int)) (a1 : Int) : fulcrumref01_at.F (a0, a1, ()) = limF fulcrumref01_at.spec fulcrumref01_at.cals T Try.f102 (a0, a1, ()) := by kernel_rfl
theorem fulcrumref01_at.of (k : Nat) (a0 : (List Int)) (a1 : Int) {y : Int × Unit} (h : fulcrumref01_at.e  a0 a1 = some y) : fulcrumref01_at.F (a0, a1, ()) = some y := (fulcrumref01_at.F_eq a0 a1).trans (limF_of (q := fulcrumref01_at.spec) (C := fulcrumref01_at.cals) (T := T) (f := Try.f102) (x := (a0, a1, ())) (y := y) k ((fulcrumref01_at.eval k a0 a1).trans h))

/-! ### fulcrum/fulcrumref01.Add -/
def fulcrumref01_Add.spec : Spec := ⟨[(false, (.sl 70 (.int .u32))), (false, (.sl 70 (.int .u32)))], [(false, (.sl 70 (.int .u32)))], .own, fun j => match j with | 7 => [(0, .lf (.z 70 (.int .u32) false)), (1, .lf (.z 70 (.int .u32) false)), (5, .lf (.v true)), (6, .lf (.o 70 (.int .u32) true)), (7, .lf (.v true)), (8, .lf (.v true))] | _ => []⟩
noncomputable def fulcrumref01_Add.cals : Cals := (Cals.cons 102 fulcrumref01_at.sig (Cals.cons 77 fulcrumref01_Norm.sig Cals.nil))
noncomputable def fulcrumref01_Add.sig : Sig := fulcrumref01_Add.spec.sig fulcrumref01_Add.cals T Try.f82
noncomputable def fulcrumref01_Add.F (x : (List Int) × (List Int) × Unit) : Option ((List Int) × Unit) := limF fulcrumref01_Add.spec fulcrumref01_Add.cals T Try.f82 x
theorem fulcrumref01_Add.ck : CalsOk Try.prog fulcrumref01_Add.cals := (CalsOk.cons fulcrumref01_at.cal (CalsOk.cons fulcrumref01_Norm.cal CalsOk.nil))
theorem fulcrumref01_Add.cal : CalOk Try.prog 82 fulcrumref01_Add.sig := calOk_lim' tabOk fulcrumref01_Add.ck mix Try.func82 (by kernel_rfl) (by kernel_rfl) (by kernel_rfl) (by kernel_rfl)
def fulcrumref01_Add.m7 (x0 : (List Int)) (x1 : (List Int)) (x5 : Int) (x6 : (List Int)) (x7 : Int) (x8 : Int) : S := ⟨[(0, .one (.lf (.val false (.sl 70 (.int .u32)) x0))), (1, .one (.lf (.val false (.sl 70 (.int .u32)) x1))), (5, .one (.lf (.val true (.int .i64) x5))), (6, .one (.lf (.own 0))), (7, .one (.lf (.val true (.int .u64) x7))), (8, .one (.lf (.val true (.int .i64) x8)))], ⟨[some ⟨70, (.int .u32), true, true, x6⟩], []⟩⟩
noncomputable def fulcrumref01_Add.b7 (f7 : (List Int) → (List Int) → Int → (List Int) → Int → Int → Option ((List Int) × Unit)) (x0 : (List Int)) (x1 : (List Int)) (x5 : Int) (x6 : (List Int)) (x7 : Int) (x8 : Int) : Option ((List Int) × Unit) :=
  let v1 := decide (x8 ≤ x5)
  bif v1 then ((fulcrumref01_at.F (x0, x8, ())).bind fun y2 =>
  (fulcrumref01_at.F (x1, x8, ())).bind fun y3 =>
  let v4 := IntKind.u64.wrap (y2.1 + y3.1)
  let v5 := IntKind.u64.wrap (v4 + x7)
  let v6 := IntKind.u32.wrap v5
  bif decide (0 ≤ x8) && decide (x8 < (List.length x6 : Int)) then (let v7 := List.set x6 (Int.toNat x8) v6
  bif decide ((32 : Int) < 0) then none
  else (let v8 := shrI .u64 v5 (32 : Int)
  let v9 := IntKind.i64.wrap (x8 + (1 : Int))
  f7 x0 x1 x5 v7 v8 v9))
  else none)
  else ((fulcrumref01_Norm.F (x6, ())).bind fun y10 =>
  some (y10.1, ()))
noncomputable def fulcrumref01_Add.e (f7 : (List Int) → (List Int) → Int → (List Int) → Int → Int → Option ((List Int) × Unit)) (a0 : (List Int)) (a1 : (List Int)) : Option ((List Int) × Unit) :=
  let v1 := (List.length a0 : Int)
  let v2 := (List.length a1 : Int)
  let v3 := decide (v2 > v1)
  bif v3 then (let v4 := (List.length a1 : Int)
  let v5 := IntKind.i64.wrap (v4 + (1 : Int))
  bif decide (0 ≤ v5) && (decide (v5 ≤ v5) && (decide (Int.toNat v5 * 4 ≤ 281474976710656) && Nat.blt 0 4)) then (let v6 := List.replicate (Int.toNat v5) (0 : Int)
  f7 a0 a1 v4 v6 (0 : Int) (0 : Int))
  else none)
  else (let v7 := IntKind.i64.wrap (v1 + (1 : Int))
  bif decide (0 ≤ v7) && (decide (v7 ≤ v7) && (decide (Int.toNat v7 * 4 ≤ 281474976710656) && Nat.blt 0 4)) then (let v8 := List.replicate (Int.toNat v7) (0 : Int)
  f7 a0 a1 v1 v8 (0 : Int) (0 : Int))
  else none)
noncomputable def fulcrumref01_Add.L7 (k : Nat) (x0 : (List Int)) (x1 : (List Int)) (x5 : Int) (x6 : (List Int)) (x7 : Int) (x8 : Int) : Option ((List Int) × Unit) := heads (fulcrumref01_Add.spec.env fulcrumref01_Add.cals T Try.f82) (Func.pts Try.f82) k 7 (fulcrumref01_Add.m7 x0 x1 x5 x6 x7 x8)
theorem fulcrumref01_Add.L7_succ (k : Nat) (x0 : (List Int)) (x1 : (List Int)) (x5 : Int) (x6 : (List Int)) (x7 : Int) (x8 : Int) : fulcrumref01_Add.L7 (k + 1) x0 x1 x5 x6 x7 x8 = fulcrumref01_Add.b7 (fulcrumref01_Add.L7 k) x0 x1 x5 x6 x7 x8 := by kernel_rfl
theorem fulcrumref01_Add.L7_zero (x0 : (List Int)) (x1 : (List Int)) (x5 : Int) (x6 : (List Int)) (x7 : Int) (x8 : Int) : fulcrumref01_Add.L7 0 x0 x1 x5 x6 x7 x8 = none := by kernel_rfl
theorem fulcrumref01_Add.eval (k : Nat) (a0 : (List Int)) (a1 : (List Int)) : evalF fulcrumref01_Add.spec fulcrumref01_Add.cals T Try.f82 k (a0, a1, ()) = fulcrumref01_Add.e (fulcrumref01_Add.L7 k) a0 a1 := by kernel_rfl
theorem fulcrumref01_Add.F_eq (a0 : (List Int)) (a1 : (List Int)) : fulcrumref01_Add.F (a0, a1, ()) = limF fulcrumref01_Add.spec fulcrumref01_Add.cals T Try.f82 (a0, a1, ()) := by kernel_rfl
theorem fulcrumref01_Add.of (k : Nat) (a0 : (List Int)) (a1 : (List Int)) {y : (List Int) × Unit} (h : fulcrumref01_Add.e (fulcrumref01_Add.L7 k) a0 a1 = some y) : fulcrumref01_Add.F (a0, a1, ()) = some y := (fulcrumref01_Add.F_eq a0 a1).trans (limF_of (q := fulcrumref01_Add.spec) (C := fulcrumref01_Add.cals) (T := T) (f := Try.f82) (x := (a0, a1, ())) (y := y) k ((fulcrumref01_Add.eval k a0 a1).trans h))

/-! ### fulcrum/fulcrumref01.Cmp -/
def fulcrumref01_Cmp.spec : Spec := ⟨[(false, (.sl 70 (.int .u32))), (false, (.sl 70 (.int .u32)))], [(false, (.int .i64))], .own, fun j => match j with | 5 => [(0, .lf (.z 70 (.int .u32) false)), (1, .lf (.z 70 (.int .u32) false)), (6, .lf (.v true))] | _ => []⟩
noncomputable def fulcrumref01_Cmp.cals : Cals := (Cals.cons 102 fulcrumref01_at.sig Cals.nil)
noncomputable def fulcrumref01_Cmp.sig : Sig := fulcrumref01_Cmp.spec.sig fulcrumref01_Cmp.cals T Try.f83
noncomputable def fulcrumref01_Cmp.F (x : (List Int) × (List Int) × Unit) : Option (Int × Unit) := limF fulcrumref01_Cmp.spec fulcrumref01_Cmp.cals T Try.f83 x
theorem fulcrumref01_Cmp.ck : CalsOk Try.prog fulcrumref01_Cmp.cals := (CalsOk.cons fulcrumref01_at.cal CalsOk.nil)
theorem fulcrumref01_Cmp.cal : CalOk Try.prog 83 fulcrumref01_Cmp.sig := calOk_lim' tabOk fulcrumref01_Cmp.ck mix Try.func83 (by kernel_rfl) (by kernel_rfl) (by kernel_rfl) (by kernel_rfl)
def fulcrumref01_Cmp.m5 (x0 : (List Int)) (x1 : (List Int)) (x6 : Int) : S := ⟨[(0, .one (.lf (.val false (.sl 70 (.int .u32)) x0))), (1, .one (.lf (.val false (.sl 70 (.int .u32)) x1))), (6, .one (.lf (.val true (.int .i64) x6)))], ⟨[], []⟩⟩
noncomputable def fulcrumref01_Cmp.b5 (f5 : (List Int) → (List Int) → Int → Option (Int × Unit)) (x0 : (List Int)) (x1 : (List Int)) (x6 : Int) : Option (Int × Unit) :=
  let v1 := decide (x6 ≥ (0 : Int))
  bif v1 then ((fulcrumref01_at.F (x0, x6, ())).bind fun y2 =>
  (fulcrumref01_at.F (x1, x6, ())).bind fun y3 =>
  let v4 := decide (y2.1 < y3.1)
  bif v4 then (some ((-1 : Int), ()))
  else ((fulcrumref01_at.F (x0, x6, ())).bind fun y5 =>
  (fulcrumref01_at.F (x1, x6, ())).bind fun y6 =>
  let v7 := decide (y5.1 > y6.1)
  bif v7 then (some ((1 : Int), ()))
  else (let v8 := IntKind.i64.wrap (x6 - (1 : Int))
  f5 x0 x1 v8)))
  else (some ((0 : Int), ()))
noncomputable def fulcrumref01_Cmp.e (f5 : (List Int) → (List Int) → Int → Option (Int × Unit)) (a0 : (List Int)) (a1 : (List Int)) : Option (Int × Unit) :=
  let v1 := (List.length a0 : Int)
  let v2 := (List.length a1 : Int)
  let v3 := decide (v2 > v1)
  bif v3 then (let v4 := (List.length a1 : Int)
  let v5 := IntKind.i64.wrap (v4 - (1 : Int))
  f5 a0 a1 v5)
  else (let v6 := IntKind.i64.wrap (v1 - (1 : Int))
  f5 a0 a1 v6)
noncomputable def fulcrumref01_Cmp.L5 (k : Nat) (x0 : (List Int)) (x1 : (List Int)) (x6 : Int) : Option (Int × Unit) := heads (fulcrumref01_Cmp.spec.env fulcrumref01_Cmp.cals T Try.f83) (Func.pts Try.f83) k 5 (fulcrumref01_Cmp.m5 x0 x1 x6)
theorem fulcrumref01_Cmp.L5_succ (k : Nat) (x0 : (List Int)) (x1 : (List Int)) (x6 : Int) : fulcrumref01_Cmp.L5 (k + 1) x0 x1 x6 = fulcrumref01_Cmp.b5 (fulcrumref01_Cmp.L5 k) x0 x1 x6 := by kernel_rfl
theorem fulcrumref01_Cmp.L5_zero (x0 : (List Int)) (x1 : (List Int)) (x6 : Int) : fulcrumref01_Cmp.L5 0 x0 x1 x6 = none := by kernel_rfl
theorem fulcrumref01_Cmp.eval (k : Nat) (a0 : (List Int)) (a1 : (List Int)) : evalF fulcrumref01_Cmp.spec fulcrumref01_Cmp.cals T Try.f83 k (a0, a1, ()) = fulcrumref01_Cmp.e (fulcrumref01_Cmp.L5 k) a0 a1 := by kernel_rfl
theorem fulcrumref01_Cmp.F_eq (a0 : (List Int)) (a1 : (List Int)) : fulcrumref01_Cmp.F (a0, a1, ()) = limF fulcrumref01_Cmp.spec fulcrumref01_Cmp.cals T Try.f83 (a0, a1, ()) := by kernel_rfl
theorem fulcrumref01_Cmp.of (k : Nat) (a0 : (List Int)) (a1 : (List Int)) {y : Int × Unit} (h : fulcrumref01_Cmp.e (fulcrumref01_Cmp.L5 k) a0 a1 = some y) : fulcrumref01_Cmp.F (a0, a1, ()) = some y := (fulcrumref01_Cmp.F_eq a0 a1).trans (limF_of (q := fulcrumref01_Cmp.spec) (C := fulcrumref01_Cmp.cals) (T := T) (f := Try.f83) (x := (a0, a1, ())) (y := y) k ((fulcrumref01_Cmp.eval k a0 a1).trans h))

/-! ### fulcrum/fulcrumref01.Sub -/
def fulcrumref01_Sub.spec : Spec := ⟨[(false, (.sl 70 (.int .u32))), (false, (.sl 70 (.int .u32)))], [(false, (.sl 70 (.int .u32))), (false, (.int .i64))], .own, fun j => match j with | 6 => [(0, .lf (.z 70 (.int .u32) false)), (1, .lf (.z 70 (.int .u32) false)), (6, .lf (.o 70 (.int .u32) true)), (7, .lf (.v true)), (8, .lf (.v true))] | _ => []⟩
noncomputable def fulcrumref01_Sub.cals : Cals := (Cals.cons 83 fulcrumref01_Cmp.sig (Cals.cons 102 fulcrumref01_at.sig (Cals.cons 77 fulcrumref01_Norm.sig Cals.nil)))
noncomputable def fulcrumref01_Sub.sig : Sig := fulcrumref01_Sub.spec.sig fulcrumref01_Sub.cals T Try.f84
noncomputable def fulcrumref01_Sub.F (x : (List Int) × (List Int) × Unit) : Option ((List Int) × Int × Unit) := limF fulcrumref01_Sub.spec fulcrumref01_Sub.cals T Try.f84 x
theorem fulcrumref01_Sub.ck : CalsOk Try.prog fulcrumref01_Sub.cals := (CalsOk.cons fulcrumref01_Cmp.cal (CalsOk.cons fulcrumref01_at.cal (CalsOk.cons fulcrumref01_Norm.cal CalsOk.nil)))
theorem fulcrumref01_Sub.cal : CalOk Try.prog 84 fulcrumref01_Sub.sig := calOk_lim' tabOk fulcrumref01_Sub.ck mix Try.func84 (by kernel_rfl) (by kernel_rfl) (by kernel_rfl) (by kernel_rfl)
def fulcrumref01_Sub.m6 (x0 : (List Int)) (x1 : (List Int)) (x6 : (List Int)) (x7 : Int) (x8 : Int) : S := ⟨[(0, .one (.lf (.val false (.sl 70 (.int .u32)) x0))), (1, .one (.lf (.val false (.sl 70 (.int .u32)) x1))), (6, .one (.lf (.own 0))), (7, .one (.lf (.val true (.int .u64) x7))), (8, .one (.lf (.val true (.int .i64) x8)))], ⟨[some ⟨70, (.int .u32), true, true, x6⟩], []⟩⟩
noncomputable def fulcrumref01_Sub.b6 (f6 : (List Int) → (List Int) → (List Int) → Int → Int → Option ((List Int) × Int × Unit)) (x0 : (List Int)) (x1 : (List Int)) (x6 : (List Int)) (x7 : Int) (x8 : Int) : Option ((List Int) × Int × Unit) :=
  let v1 := (List.length x0 : Int)
  let v2 := decide (x8 < v1)
  bif v2 then ((fulcrumref01_at.F (x0, x8, ())).bind fun y3 =>
  (fulcrumref01_at.F (x1, x8, ())).bind fun y4 =>
  let v5 := IntKind.u64.wrap (y3.1 - y4.1)
  let v6 := IntKind.u64.wrap (v5 - x7)
  let v7 := IntKind.u32.wrap v6
  bif decide (0 ≤ x8) && decide (x8 < (List.length x6 : Int)) then (let v8 := List.set x6 (Int.toNat x8) v7
  bif decide ((63 : Int) < 0) then none
  else (let v9 := shrI .u64 v6 (63 : Int)
  let v10 := IntKind.i64.wrap (x8 + (1 : Int))
  f6 x0 x1 v8 v9 v10))
  else none)
  else ((fulcrumref01_Norm.F (x6, ())).bind fun y11 =>
  some (y11.1, (0 : Int), ()))
noncomputable def fulcrumref01_Sub.e (f6 : (List Int) → (List Int) → (List Int) → Int → Int → Option ((List Int) × Int × Unit)) (a0 : (List Int)) (a1 : (List Int)) : Option ((List Int) × Int × Unit) :=
  (fulcrumref01_Cmp.F (a0, a1, ())).bind fun y1 =>
  let v2 := decide (y1.1 < (0 : Int))
  bif v2 then (some (([] : List Int), (10 : Int), ()))
  else (let v3 := (List.length a0 : Int)
  bif decide (0 ≤ v3) && (decide (v3 ≤ v3) && (decide (Int.toNat v3 * 4 ≤ 281474976710656) && Nat.blt 0 4)) then (let v4 := List.replicate (Int.toNat v3) (0 : Int)
  f6 a0 a1 v4 (0 : Int) (0 : Int))
  else none)
noncomputable def fulcrumref01_Sub.L6 (k : Nat) (x0 : (List Int)) (x1 : (List Int)) (x6 : (List Int)) (x7 : Int) (x8 : Int) : Option ((List Int) × Int × Unit) := heads (fulcrumref01_Sub.spec.env fulcrumref01_Sub.cals T Try.f84) (Func.pts Try.f84) k 6 (fulcrumref01_Sub.m6 x0 x1 x6 x7 x8)
theorem fulcrumref01_Sub.L6_succ (k : Nat) (x0 : (List Int)) (x1 : (List Int)) (x6 : (List Int)) (x7 : Int) (x8 : Int) : fulcrumref01_Sub.L6 (k + 1) x0 x1 x6 x7 x8 = fulcrumref01_Sub.b6 (fulcrumref01_Sub.L6 k) x0 x1 x6 x7 x8 := by kernel_rfl
theorem fulcrumref01_Sub.L6_zero (x0 : (List Int)) (x1 : (List Int)) (x6 : (List Int)) (x7 : Int) (x8 : Int) : fulcrumref01_Sub.L6 0 x0 x1 x6 x7 x8 = none := by kernel_rfl
theorem fulcrumref01_Sub.eval (k : Nat) (a0 : (List Int)) (a1 : (List Int)) : evalF fulcrumref01_Sub.spec fulcrumref01_Sub.cals T Try.f84 k (a0, a1, ()) = fulcrumref01_Sub.e (fulcrumref01_Sub.L6 k) a0 a1 := by kernel_rfl
theorem fulcrumref01_Sub.F_eq (a0 : (List Int)) (a1 : (List Int)) : fulcrumref01_Sub.F (a0, a1, ()) = limF fulcrumref01_Sub.spec fulcrumref01_Sub.cals T Try.f84 (a0, a1, ()) := by kernel_rfl
theorem fulcrumref01_Sub.of (k : Nat) (a0 : (List Int)) (a1 : (List Int)) {y : (List Int) × Int × Unit} (h : fulcrumref01_Sub.e (fulcrumref01_Sub.L6 k) a0 a1 = some y) : fulcrumref01_Sub.F (a0, a1, ()) = some y := (fulcrumref01_Sub.F_eq a0 a1).trans (limF_of (q := fulcrumref01_Sub.spec) (C := fulcrumref01_Sub.cals) (T := T) (f := Try.f84) (x := (a0, a1, ())) (y := y) k ((fulcrumref01_Sub.eval k a0 a1).trans h))

/-! ### fulcrum/fulcrumref02.Add -/
def fulcrumref02_Add.spec : Spec := ⟨[(true, (.prod .bool (.sl 70 (.int .u32)))), (true, (.prod .bool (.sl 70 (.int .u32))))], [(true, (.prod .bool (.sl 70 (.int .u32))))], .own, fun j => match j with  | _ => []⟩
noncomputable def fulcrumref02_Add.cals : Cals := (Cals.cons 82 fulcrumref01_Add.sig (Cals.cons 74 fulcrumref02_made.sig (Cals.cons 83 fulcrumref01_Cmp.sig (Cals.cons 84 fulcrumref01_Sub.sig Cals.nil))))
noncomputable def fulcrumref02_Add.sig : Sig := fulcrumref02_Add.spec.sig fulcrumref02_Add.cals T Try.f32
noncomputable def fulcrumref02_Add.F (x : (Bool × (List Int)) × (Bool × (List Int)) × Unit) : Option ((Bool × (List Int)) × Unit) := limF fulcrumref02_Add.spec fulcrumref02_Add.cals T Try.f32 x
theorem fulcrumref02_Add.ck : CalsOk Try.prog fulcrumref02_Add.cals := (CalsOk.cons fulcrumref01_Add.cal (CalsOk.cons fulcrumref02_made.cal (CalsOk.cons fulcrumref01_Cmp.cal (CalsOk.cons fulcrumref01_Sub.cal CalsOk.nil))))
theorem fulcrumref02_Add.cal : CalOk Try.prog 32 fulcrumref02_Add.sig := calOk_lim' tabOk fulcrumref02_Add.ck mix Try.func32 (by kernel_rfl) (by kernel_rfl) (by kernel_rfl) (by kernel_rfl)
noncomputable def fulcrumref02_Add.e  (a0 : (Bool × (List Int))) (a1 : (Bool × (List Int))) : Option ((Bool × (List Int)) × Unit) :=
  let v1 := (a0.1 == a1.1)
  bif v1 then ((fulcrumref01_Add.F (a0.2, a1.2, ())).bind fun y2 =>
  (fulcrumref02_made.F (a0.1, y2.1, ())).bind fun y3 =>
  some ((y3.1.1, y3.1.2), ()))
  else ((fulcrumref01_Cmp.F (a0.2, a1.2, ())).bind fun y4 =>
  let v5 := decide (y4.1 ≥ (0 : Int))
  bif v5 then ((fulcrumref01_Sub.F (a0.2, a1.2, ())).bind fun y6 =>
  (fulcrumref02_made.F (a0.1, y6.1, ())).bind fun y7 =>
  some ((y7.1.1, y7.1.2), ()))
  else ((fulcrumref01_Sub.F (a1.2, a0.2, ())).bind fun y8 =>
  (fulcrumref02_made.F (a1.1, y8.1, ())).bind fun y9 =>
  some ((y9.1.1, y9.1.2), ())))
theorem fulcrumref02_Add.eval (k : Nat) (a0 : (Bool × (List Int))) (a1 : (Bool × (List Int))) : evalF fulcrumref02_Add.spec fulcrumref02_Add.cals T Try.f32 k (a0, a1, ()) = fulcrumref02_Add.e  a0 a1 := by kernel_rfl
theorem fulcrumref02_Add.F_eq (a0 : (Bool × (List Int))) (a1 : (Bool × (List Int))) : fulcrumref02_Add.F (a0, a1, ()) = limF fulcrumref02_Add.spec fulcrumref02_Add.cals T Try.f32 (a0, a1, ()) := by kernel_rfl
theorem fulcrumref02_Add.of (k : Nat) (a0 : (Bool × (List Int))) (a1 : (Bool × (List Int))) {y : (Bool × (List Int)) × Unit} (h : fulcrumref02_Add.e  a0 a1 = some y) : fulcrumref02_Add.F (a0, a1, ()) = some y := (fulcrumref02_Add.F_eq a0 a1).trans (limF_of (q := fulcrumref02_Add.spec) (C := fulcrumref02_Add.cals) (T := T) (f := Try.f32) (x := (a0, a1, ())) (y := y) k ((fulcrumref02_Add.eval k a0 a1).trans h))

/-! ### fulcrum/whole.Sub -/
def whole_Sub.spec : Spec := ⟨[(true, (.prod .bool (.sl 70 (.int .u32)))), (true, (.prod .bool (.sl 70 (.int .u32))))], [(true, (.prod .bool (.sl 70 (.int .u32))))], .own, fun j => match j with  | _ => []⟩
noncomputable def whole_Sub.cals : Cals := (Cals.cons 24 whole_Neg.sig (Cals.cons 31 whole_Add.sig Cals.nil))
noncomputable def whole_Sub.sig : Sig := whole_Sub.spec.sig whole_Sub.cals T Try.f33
noncomputable def whole_Sub.F (x : (Bool × (List Int)) × (Bool × (List Int)) × Unit) : Option ((Bool × (List Int)) × Unit) := limF whole_Sub.spec whole_Sub.cals T Try.f33 x
theorem whole_Sub.ck : CalsOk Try.prog whole_Sub.cals := (CalsOk.cons whole_Neg.cal (CalsOk.cons whole_Add.cal CalsOk.nil))
theorem whole_Sub.cal : CalOk Try.prog 33 whole_Sub.sig := calOk_lim' tabOk whole_Sub.ck mix Try.func33 (by kernel_rfl) (by kernel_rfl) (by kernel_rfl) (by kernel_rfl)
noncomputable def whole_Sub.e  (a0 : (Bool × (List Int))) (a1 : (Bool × (List Int))) : Option ((Bool × (List Int)) × Unit) :=
  (whole_Neg.F ((a1.1, a1.2), ())).bind fun y1 =>
  (whole_Add.F ((a0.1, a0.2), (y1.1.1, y1.1.2), ())).bind fun y2 =>
  some ((y2.1.1, y2.1.2), ())
theorem whole_Sub.eval (k : Nat) (a0 : (Bool × (List Int))) (a1 : (Bool × (List Int))) : evalF whole_Sub.spec whole_Sub.cals T Try.f33 k (a0, a1, ()) = whole_Sub.e  a0 a1 := by kernel_rfl
theorem whole_Sub.F_eq (a0 : (Bool × (List Int))) (a1 : (Bool × (List Int))) : whole_Sub.F (a0, a1, ()) = limF whole_Sub.spec whole_Sub.cals T Try.f33 (a0, a1, ()) := by kernel_rfl
theorem whole_Sub.of (k : Nat) (a0 : (Bool × (List Int))) (a1 : (Bool × (List Int))) {y : (Bool × (List Int)) × Unit} (h : whole_Sub.e  a0 a1 = some y) : whole_Sub.F (a0, a1, ()) = some y := (whole_Sub.F_eq a0 a1).trans (limF_of (q := whole_Sub.spec) (C := whole_Sub.cals) (T := T) (f := Try.f33) (x := (a0, a1, ())) (y := y) k ((whole_Sub.eval k a0 a1).trans h))

/-! ### fulcrum/fulcrumref02.Sub -/
def fulcrumref02_Sub.spec : Spec := ⟨[(true, (.prod .bool (.sl 70 (.int .u32)))), (true, (.prod .bool (.sl 70 (.int .u32))))], [(true, (.prod .bool (.sl 70 (.int .u32))))], .own, fun j => match j with  | _ => []⟩
noncomputable def fulcrumref02_Sub.cals : Cals := (Cals.cons 25 fulcrumref02_Neg.sig (Cals.cons 32 fulcrumref02_Add.sig Cals.nil))
noncomputable def fulcrumref02_Sub.sig : Sig := fulcrumref02_Sub.spec.sig fulcrumref02_Sub.cals T Try.f34
noncomputable def fulcrumref02_Sub.F (x : (Bool × (List Int)) × (Bool × (List Int)) × Unit) : Option ((Bool × (List Int)) × Unit) := limF fulcrumref02_Sub.spec fulcrumref02_Sub.cals T Try.f34 x
theorem fulcrumref02_Sub.ck : CalsOk Try.prog fulcrumref02_Sub.cals := (CalsOk.cons fulcrumref02_Neg.cal (CalsOk.cons fulcrumref02_Add.cal CalsOk.nil))
theorem fulcrumref02_Sub.cal : CalOk Try.prog 34 fulcrumref02_Sub.sig := calOk_lim' tabOk fulcrumref02_Sub.ck mix Try.func34 (by kernel_rfl) (by kernel_rfl) (by kernel_rfl) (by kernel_rfl)
noncomputable def fulcrumref02_Sub.e  (a0 : (Bool × (List Int))) (a1 : (Bool × (List Int))) : Option ((Bool × (List Int)) × Unit) :=
  (fulcrumref02_Neg.F ((a1.1, a1.2), ())).bind fun y1 =>
  (fulcrumref02_Add.F ((a0.1, a0.2), (y1.1.1, y1.1.2), ())).bind fun y2 =>
  some ((y2.1.1, y2.1.2), ())
theorem fulcrumref02_Sub.eval (k : Nat) (a0 : (Bool × (List Int))) (a1 : (Bool × (List Int))) : evalF fulcrumref02_Sub.spec fulcrumref02_Sub.cals T Try.f34 k (a0, a1, ()) = fulcrumref02_Sub.e  a0 a1 := by kernel_rfl
theorem fulcrumref02_Sub.F_eq (a0 : (Bool × (List Int))) (a1 : (Bool × (List Int))) : fulcrumref02_Sub.F (a0, a1, ()) = limF fulcrumref02_Sub.spec fulcrumref02_Sub.cals T Try.f34 (a0, a1, ()) := by kernel_rfl
theorem fulcrumref02_Sub.of (k : Nat) (a0 : (Bool × (List Int))) (a1 : (Bool × (List Int))) {y : (Bool × (List Int)) × Unit} (h : fulcrumref02_Sub.e  a0 a1 = some y) : fulcrumref02_Sub.F (a0, a1, ()) = some y := (fulcrumref02_Sub.F_eq a0 a1).trans (limF_of (q := fulcrumref02_Sub.spec) (C := fulcrumref02_Sub.cals) (T := T) (f := Try.f34) (x := (a0, a1, ())) (y := y) k ((fulcrumref02_Sub.eval k a0 a1).trans h))

/-! ### fulcrum/nat.Mul -/
def nat_Mul.spec : Spec := ⟨[(false, (.sl 70 (.int .u32))), (false, (.sl 70 (.int .u32)))], [(false, (.sl 70 (.int .u32)))], .own, fun j => match j with | 4 => [(0, .lf (.z 70 (.int .u32) false)), (1, .lf (.z 70 (.int .u32) false)), (5, .lf (.o 70 (.int .u32) true)), (21, .lf (.v true)), (22, .lf (.v true))] | 8 => [(0, .lf (.z 70 (.int .u32) false)), (1, .lf (.z 70 (.int .u32) false)), (5, .lf (.o 70 (.int .u32) true)), (6, .lf (.v true)), (7, .lf (.v true)), (21, .lf (.v true)), (22, .lf (.v true)), (26, .lf (.v true)), (27, .lf (.v true))] | _ => []⟩
noncomputable def nat_Mul.cals : Cals := (Cals.cons 98 nat_trim.sig (Cals.cons 99 nat_own.sig Cals.nil))
noncomputable def nat_Mul.sig : Sig := nat_Mul.spec.sig nat_Mul.cals T Try.f85
noncomputable def nat_Mul.F (x : (List Int) × (List Int) × Unit) : Option ((List Int) × Unit) := limF nat_Mul.spec nat_Mul.cals T Try.f85 x
theorem nat_Mul.ck : CalsOk Try.prog nat_Mul.cals := (CalsOk.cons nat_trim.cal (CalsOk.cons nat_own.cal CalsOk.nil))
theorem nat_Mul.cal : CalOk Try.prog 85 nat_Mul.sig := calOk_lim' tabOk nat_Mul.ck mix Try.func85 (by kernel_rfl) (by kernel_rfl) (by kernel_rfl) (by kernel_rfl)
def nat_Mul.m4 (x0 : (List Int)) (x1 : (List Int)) (x5 : (List Int)) (x21 : Int) (x22 : Int) : S := ⟨[(0, .one (.lf (.val false (.sl 70 (.int .u32)) x0))), (1, .one (.lf (.val false (.sl 70 (.int .u32)) x1))), (5, .one (.lf (.own 0))), (21, .one (.lf (.val true (.int .i64) x21))), (22, .one (.lf (.val true (.int .i64) x22)))], ⟨[some ⟨70, (.int .u32), true, true, x5⟩], []⟩⟩
def nat_Mul.m8 (x0 : (List Int)) (x1 : (List Int)) (x5 : (List Int)) (x6 : Int) (x7 : Int) (x21 : Int) (x22 : Int) (x26 : Int) (x27 : Int) : S := ⟨[(0, .one (.lf (.val false (.sl 70 (.int .u32)) x0))), (1, .one (.lf (.val false (.sl 70 (.int .u32)) x1))), (5, .one (.lf (.own 0))), (6, .one (.lf (.val true (.int .i64) x6))), (7, .one (.lf (.val true (.int .u64) x7))), (21, .one (.lf (.val true (.int .i64) x21))), (22, .one (.lf (.val true (.int .i64) x22))), (26, .one (.lf (.val true (.int .i64) x26))), (27, .one (.lf (.val true (.int .i64) x27)))], ⟨[some ⟨70, (.int .u32), true, true, x5⟩], []⟩⟩
noncomputable def nat_Mul.b4 (f4 : (List Int) → (List Int) → (List Int) → Int → Int → Option ((List Int) × Unit)) (f8 : (List Int) → (List Int) → (List Int) → Int → Int → Int → Int → Int → Int → Option ((List Int) × Unit)) (x0 : (List Int)) (x1 : (List Int)) (x5 : (List Int)) (x21 : Int) (x22 : Int) : Option ((List Int) × Unit) :=
  let v1 := decide (x22 < x21)
  bif v1 then (let v2 := (List.length x1 : Int)
  f8 x0 x1 x5 x22 (0 : Int) x21 x22 v2 (0 : Int))
  else ((nat_own.F (x5, ())).bind fun y3 =>
  some (y3.1, ()))
noncomputable def nat_Mul.b8 (f4 : (List Int) → (List Int) → (List Int) → Int → Int → Option ((List Int) × Unit)) (f8 : (List Int) → (List Int) → (List Int) → Int → Int → Int → Int → Int → Int → Option ((List Int) × Unit)) (x0 : (List Int)) (x1 : (List Int)) (x5 : (List Int)) (x6 : Int) (x7 : Int) (x21 : Int) (x22 : Int) (x26 : Int) (x27 : Int) : Option ((List Int) × Unit) :=
  let v1 := decide (x27 < x26)
  bif v1 then (bif decide (0 ≤ x6) && decide (x6 < (List.length x0 : Int)) then (let v2 := List.getD x0 (Int.toNat x6) (0 : Int)
  let v3 := IntKind.u64.wrap v2
  bif decide (0 ≤ x27) && decide (x27 < (List.length x1 : Int)) then (let v4 := List.getD x1 (Int.toNat x27) (0 : Int)
  let v5 := IntKind.u64.wrap v4
  let v6 := IntKind.u64.wrap (v3 * v5)
  let v7 := IntKind.i64.wrap (x6 + x27)
  bif decide (0 ≤ v7) && decide (v7 < (List.length x5 : Int)) then (let v8 := List.getD x5 (Int.toNat v7) (0 : Int)
  let v9 := IntKind.u64.wrap v8
  let v10 := IntKind.u64.wrap (v6 + v9)
  let v11 := IntKind.u64.wrap (v10 + x7)
  let v12 := IntKind.i64.wrap (x6 + x27)
  let v13 := IntKind.u32.wrap v11
  bif decide (0 ≤ v12) && decide (v12 < (List.length x5 : Int)) then (let v14 := List.set x5 (Int.toNat v12) v13
  bif decide ((32 : Int) < 0) then none
  else (let v15 := shrI .u64 v11 (32 : Int)
  let v16 := IntKind.i64.wrap (x27 + (1 : Int))
  f8 x0 x1 v14 x6 v15 x21 x22 x26 v16))
  else none)
  else none)
  else none)
  else none)
  else (let v17 := (List.length x1 : Int)
  let v18 := IntKind.i64.wrap (x6 + v17)
  let v19 := IntKind.u32.wrap x7
  bif decide (0 ≤ v18) && decide (v18 < (List.length x5 : Int)) then (let v20 := List.set x5 (Int.toNat v18) v19
  let v21 := IntKind.i64.wrap (x22 + (1 : Int))
  f4 x0 x1 v20 x21 v21)
  else none)
noncomputable def nat_Mul.e (f4 : (List Int) → (List Int) → (List Int) → Int → Int → Option ((List Int) × Unit)) (f8 : (List Int) → (List Int) → (List Int) → Int → Int → Int → Int → Int → Int → Option ((List Int) × Unit)) (a0 : (List Int)) (a1 : (List Int)) : Option ((List Int) × Unit) :=
  (nat_trim.F (a0, ())).bind fun y1 =>
  (nat_trim.F (a1, ())).bind fun y2 =>
  let v3 := (List.length y1.1 : Int)
  let v4 := (List.length y2.1 : Int)
  let v5 := IntKind.i64.wrap (v3 + v4)
  bif decide (0 ≤ v5) && (decide (v5 ≤ v5) && (decide (Int.toNat v5 * 4 ≤ 281474976710656) && Nat.blt 0 4)) then (let v6 := List.replicate (Int.toNat v5) (0 : Int)
  let v7 := (List.length y1.1 : Int)
  f4 y1.1 y2.1 v6 v7 (0 : Int))
  else none
noncomputable def nat_Mul.L4 (k : Nat) (x0 : (List Int)) (x1 : (List Int)) (x5 : (List Int)) (x21 : Int) (x22 : Int) : Option ((List Int) × Unit) := heads (nat_Mul.spec.env nat_Mul.cals T Try.f85) (Func.pts Try.f85) k 4 (nat_Mul.m4 x0 x1 x5 x21 x22)
noncomputable def nat_Mul.L8 (k : Nat) (x0 : (List Int)) (x1 : (List Int)) (x5 : (List Int)) (x6 : Int) (x7 : Int) (x21 : Int) (x22 : Int) (x26 : Int) (x27 : Int) : Option ((List Int) × Unit) := heads (nat_Mul.spec.env nat_Mul.cals T Try.f85) (Func.pts Try.f85) k 8 (nat_Mul.m8 x0 x1 x5 x6 x7 x21 x22 x26 x27)
theorem nat_Mul.L4_succ (k : Nat) (x0 : (List Int)) (x1 : (List Int)) (x5 : (List Int)) (x21 : Int) (x22 : Int) : nat_Mul.L4 (k + 1) x0 x1 x5 x21 x22 = nat_Mul.b4 (nat_Mul.L4 k) (nat_Mul.L8 k) x0 x1 x5 x21 x22 := by kernel_rfl
theorem nat_Mul.L4_zero (x0 : (List Int)) (x1 : (List Int)) (x5 : (List Int)) (x21 : Int) (x22 : Int) : nat_Mul.L4 0 x0 x1 x5 x21 x22 = none := by kernel_rfl
theorem nat_Mul.L8_succ (k : Nat) (x0 : (List Int)) (x1 : (List Int)) (x5 : (List Int)) (x6 : Int) (x7 : Int) (x21 : Int) (x22 : Int) (x26 : Int) (x27 : Int) : nat_Mul.L8 (k + 1) x0 x1 x5 x6 x7 x21 x22 x26 x27 = nat_Mul.b8 (nat_Mul.L4 k) (nat_Mul.L8 k) x0 x1 x5 x6 x7 x21 x22 x26 x27 := by kernel_rfl
theorem nat_Mul.L8_zero (x0 : (List Int)) (x1 : (List Int)) (x5 : (List Int)) (x6 : Int) (x7 : Int) (x21 : Int) (x22 : Int) (x26 : Int) (x27 : Int) : nat_Mul.L8 0 x0 x1 x5 x6 x7 x21 x22 x26 x27 = none := by kernel_rfl
theorem nat_Mul.eval (k : Nat) (a0 : (List Int)) (a1 : (List Int)) : evalF nat_Mul.spec nat_Mul.cals T Try.f85 k (a0, a1, ()) = nat_Mul.e (nat_Mul.L4 k) (nat_Mul.L8 k) a0 a1 := by kernel_rfl
theorem nat_Mul.F_eq (a0 : (List Int)) (a1 : (List Int)) : nat_Mul.F (a0, a1, ()) = limF nat_Mul.spec nat_Mul.cals T Try.f85 (a0, a1, ()) := by kernel_rfl
theorem nat_Mul.of (k : Nat) (a0 : (List Int)) (a1 : (List Int)) {y : (List Int) × Unit} (h : nat_Mul.e (nat_Mul.L4 k) (nat_Mul.L8 k) a0 a1 = some y) : nat_Mul.F (a0, a1, ()) = some y := (nat_Mul.F_eq a0 a1).trans (limF_of (q := nat_Mul.spec) (C := nat_Mul.cals) (T := T) (f := Try.f85) (x := (a0, a1, ())) (y := y) k ((nat_Mul.eval k a0 a1).trans h))

/-! ### fulcrum/whole.Mul -/
def whole_Mul.spec : Spec := ⟨[(true, (.prod .bool (.sl 70 (.int .u32)))), (true, (.prod .bool (.sl 70 (.int .u32))))], [(true, (.prod .bool (.sl 70 (.int .u32))))], .own, fun j => match j with  | _ => []⟩
noncomputable def whole_Mul.cals : Cals := (Cals.cons 85 nat_Mul.sig (Cals.cons 29 whole_Sign.sig (Cals.cons 72 whole_signed.sig Cals.nil)))
noncomputable def whole_Mul.sig : Sig := whole_Mul.spec.sig whole_Mul.cals T Try.f35
noncomputable def whole_Mul.F (x : (Bool × (List Int)) × (Bool × (List Int)) × Unit) : Option ((Bool × (List Int)) × Unit) := limF whole_Mul.spec whole_Mul.cals T Try.f35 x
theorem whole_Mul.ck : CalsOk Try.prog whole_Mul.cals := (CalsOk.cons nat_Mul.cal (CalsOk.cons whole_Sign.cal (CalsOk.cons whole_signed.cal CalsOk.nil)))
theorem whole_Mul.cal : CalOk Try.prog 35 whole_Mul.sig := calOk_lim' tabOk whole_Mul.ck mix Try.func35 (by kernel_rfl) (by kernel_rfl) (by kernel_rfl) (by kernel_rfl)
noncomputable def whole_Mul.e  (a0 : (Bool × (List Int))) (a1 : (Bool × (List Int))) : Option ((Bool × (List Int)) × Unit) :=
  (nat_Mul.F (a0.2, a1.2, ())).bind fun y1 =>
  (whole_Sign.F ((a0.1, a0.2), ())).bind fun y2 =>
  (whole_Sign.F ((a1.1, a1.2), ())).bind fun y3 =>
  let v4 := ([y2.1, y3.1] : List Int)
  (whole_signed.F (y1.1, v4, ())).bind fun y5 =>
  some ((y5.1.1, y5.1.2), ())
theorem whole_Mul.eval (k : Nat) (a0 : (Bool × (List Int))) (a1 : (Bool × (List Int))) : evalF whole_Mul.spec whole_Mul.cals T Try.f35 k (a0, a1, ()) = whole_Mul.e  a0 a1 := by kernel_rfl
theorem whole_Mul.F_eq (a0 : (Bool × (List Int))) (a1 : (Bool × (List Int))) : whole_Mul.F (a0, a1, ()) = limF whole_Mul.spec whole_Mul.cals T Try.f35 (a0, a1, ()) := by kernel_rfl
theorem whole_Mul.of (k : Nat) (a0 : (Bool × (List Int))) (a1 : (Bool × (List Int))) {y : (Bool × (List Int)) × Unit} (h : whole_Mul.e  a0 a1 = some y) : whole_Mul.F (a0, a1, ()) = some y := (whole_Mul.F_eq a0 a1).trans (limF_of (q := whole_Mul.spec) (C := whole_Mul.cals) (T := T) (f := Try.f35) (x := (a0, a1, ())) (y := y) k ((whole_Mul.eval k a0 a1).trans h))

/-! ### fulcrum/fulcrumref01.Mul -/
def fulcrumref01_Mul.spec : Spec := ⟨[(false, (.sl 70 (.int .u32))), (false, (.sl 70 (.int .u32)))], [(false, (.sl 70 (.int .u32)))], .own, fun j => match j with | 3 => [(0, .lf (.z 70 (.int .u32) false)), (1, .lf (.z 70 (.int .u32) false)), (5, .lf (.o 70 (.int .u32) true)), (6, .lf (.v true))] | 7 => [(0, .lf (.z 70 (.int .u32) false)), (1, .lf (.z 70 (.int .u32) false)), (5, .lf (.o 70 (.int .u32) true)), (6, .lf (.v true)), (7, .lf (.v true)), (8, .lf (.v true))] | _ => []⟩
noncomputable def fulcrumref01_Mul.cals : Cals := (Cals.cons 77 fulcrumref01_Norm.sig Cals.nil)
noncomputable def fulcrumref01_Mul.sig : Sig := fulcrumref01_Mul.spec.sig fulcrumref01_Mul.cals T Try.f86
noncomputable def fulcrumref01_Mul.F (x : (List Int) × (List Int) × Unit) : Option ((List Int) × Unit) := limF fulcrumref01_Mul.spec fulcrumref01_Mul.cals T Try.f86 x
theorem fulcrumref01_Mul.ck : CalsOk Try.prog fulcrumref01_Mul.cals := (CalsOk.cons fulcrumref01_Norm.cal CalsOk.nil)
theorem fulcrumref01_Mul.cal : CalOk Try.prog 86 fulcrumref01_Mul.sig := calOk_lim' tabOk fulcrumref01_Mul.ck mix Try.func86 (by kernel_rfl) (by kernel_rfl) (by kernel_rfl) (by kernel_rfl)
def fulcrumref01_Mul.m3 (x0 : (List Int)) (x1 : (List Int)) (x5 : (List Int)) (x6 : Int) : S := ⟨[(0, .one (.lf (.val false (.sl 70 (.int .u32)) x0))), (1, .one (.lf (.val false (.sl 70 (.int .u32)) x1))), (5, .one (.lf (.own 0))), (6, .one (.lf (.val true (.int .i64) x6)))], ⟨[some ⟨70, (.int .u32), true, true, x5⟩], []⟩⟩
def fulcrumref01_Mul.m7 (x0 : (List Int)) (x1 : (List Int)) (x5 : (List Int)) (x6 : Int) (x7 : Int) (x8 : Int) : S := ⟨[(0, .one (.lf (.val false (.sl 70 (.int .u32)) x0))), (1, .one (.lf (.val false (.sl 70 (.int .u32)) x1))), (5, .one (.lf (.own 0))), (6, .one (.lf (.val true (.int .i64) x6))), (7, .one (.lf (.val true (.int .u64) x7))), (8, .one (.lf (.val true (.int .i64) x8)))], ⟨[some ⟨70, (.int .u32), true, true, x5⟩], []⟩⟩
noncomputable def fulcrumref01_Mul.b3 (f3 : (List Int) → (List Int) → (List Int) → Int → Option ((List Int) × Unit)) (f7 : (List Int) → (List Int) → (List Int) → Int → Int → Int → Option ((List Int) × Unit)) (x0 : (List Int)) (x1 : (List Int)) (x5 : (List Int)) (x6 : Int) : Option ((List Int) × Unit) :=
  let v1 := (List.length x0 : Int)
  let v2 := decide (x6 < v1)
  bif v2 then (f7 x0 x1 x5 x6 (0 : Int) (0 : Int))
  else ((fulcrumref01_Norm.F (x5, ())).bind fun y3 =>
  some (y3.1, ()))
noncomputable def fulcrumref01_Mul.b7 (f3 : (List Int) → (List Int) → (List Int) → Int → Option ((List Int) × Unit)) (f7 : (List Int) → (List Int) → (List Int) → Int → Int → Int → Option ((List Int) × Unit)) (x0 : (List Int)) (x1 : (List Int)) (x5 : (List Int)) (x6 : Int) (x7 : Int) (x8 : Int) : Option ((List Int) × Unit) :=
  let v1 := (List.length x1 : Int)
  let v2 := decide (x8 < v1)
  bif v2 then (bif decide (0 ≤ x6) && decide (x6 < (List.length x0 : Int)) then (let v3 := List.getD x0 (Int.toNat x6) (0 : Int)
  let v4 := IntKind.u64.wrap v3
  bif decide (0 ≤ x8) && decide (x8 < (List.length x1 : Int)) then (let v5 := List.getD x1 (Int.toNat x8) (0 : Int)
  let v6 := IntKind.u64.wrap v5
  let v7 := IntKind.u64.wrap (v4 * v6)
  let v8 := IntKind.i64.wrap (x6 + x8)
  bif decide (0 ≤ v8) && decide (v8 < (List.length x5 : Int)) then (let v9 := List.getD x5 (Int.toNat v8) (0 : Int)
  let v10 := IntKind.u64.wrap v9
  let v11 := IntKind.u64.wrap (v7 + v10)
  let v12 := IntKind.u64.wrap (v11 + x7)
  let v13 := IntKind.i64.wrap (x6 + x8)
  let v14 := IntKind.u32.wrap v12
  bif decide (0 ≤ v13) && decide (v13 < (List.length x5 : Int)) then (let v15 := List.set x5 (Int.toNat v13) v14
  bif decide ((32 : Int) < 0) then none
  else (let v16 := shrI .u64 v12 (32 : Int)
  let v17 := IntKind.i64.wrap (x8 + (1 : Int))
  f7 x0 x1 v15 x6 v16 v17))
  else none)
  else none)
  else none)
  else none)
  else (let v18 := (List.length x1 : Int)
  let v19 := IntKind.i64.wrap (x6 + v18)
  let v20 := IntKind.u32.wrap x7
  bif decide (0 ≤ v19) && decide (v19 < (List.length x5 : Int)) then (let v21 := List.set x5 (Int.toNat v19) v20
  let v22 := IntKind.i64.wrap (x6 + (1 : Int))
  f3 x0 x1 v21 v22)
  else none)
noncomputable def fulcrumref01_Mul.e (f3 : (List Int) → (List Int) → (List Int) → Int → Option ((List Int) × Unit)) (f7 : (List Int) → (List Int) → (List Int) → Int → Int → Int → Option ((List Int) × Unit)) (a0 : (List Int)) (a1 : (List Int)) : Option ((List Int) × Unit) :=
  let v1 := (List.length a0 : Int)
  let v2 := (List.length a1 : Int)
  let v3 := IntKind.i64.wrap (v1 + v2)
  bif decide (0 ≤ v3) && (decide (v3 ≤ v3) && (decide (Int.toNat v3 * 4 ≤ 281474976710656) && Nat.blt 0 4)) then (let v4 := List.replicate (Int.toNat v3) (0 : Int)
  f3 a0 a1 v4 (0 : Int))
  else none
noncomputable def fulcrumref01_Mul.L3 (k : Nat) (x0 : (List Int)) (x1 : (List Int)) (x5 : (List Int)) (x6 : Int) : Option ((List Int) × Unit) := heads (fulcrumref01_Mul.spec.env fulcrumref01_Mul.cals T Try.f86) (Func.pts Try.f86) k 3 (fulcrumref01_Mul.m3 x0 x1 x5 x6)
noncomputable def fulcrumref01_Mul.L7 (k : Nat) (x0 : (List Int)) (x1 : (List Int)) (x5 : (List Int)) (x6 : Int) (x7 : Int) (x8 : Int) : Option ((List Int) × Unit) := heads (fulcrumref01_Mul.spec.env fulcrumref01_Mul.cals T Try.f86) (Func.pts Try.f86) k 7 (fulcrumref01_Mul.m7 x0 x1 x5 x6 x7 x8)
theorem fulcrumref01_Mul.L3_succ (k : Nat) (x0 : (List Int)) (x1 : (List Int)) (x5 : (List Int)) (x6 : Int) : fulcrumref01_Mul.L3 (k + 1) x0 x1 x5 x6 = fulcrumref01_Mul.b3 (fulcrumref01_Mul.L3 k) (fulcrumref01_Mul.L7 k) x0 x1 x5 x6 := by kernel_rfl
theorem fulcrumref01_Mul.L3_zero (x0 : (List Int)) (x1 : (List Int)) (x5 : (List Int)) (x6 : Int) : fulcrumref01_Mul.L3 0 x0 x1 x5 x6 = none := by kernel_rfl
theorem fulcrumref01_Mul.L7_succ (k : Nat) (x0 : (List Int)) (x1 : (List Int)) (x5 : (List Int)) (x6 : Int) (x7 : Int) (x8 : Int) : fulcrumref01_Mul.L7 (k + 1) x0 x1 x5 x6 x7 x8 = fulcrumref01_Mul.b7 (fulcrumref01_Mul.L3 k) (fulcrumref01_Mul.L7 k) x0 x1 x5 x6 x7 x8 := by kernel_rfl
theorem fulcrumref01_Mul.L7_zero (x0 : (List Int)) (x1 : (List Int)) (x5 : (List Int)) (x6 : Int) (x7 : Int) (x8 : Int) : fulcrumref01_Mul.L7 0 x0 x1 x5 x6 x7 x8 = none := by kernel_rfl
theorem fulcrumref01_Mul.eval (k : Nat) (a0 : (List Int)) (a1 : (List Int)) : evalF fulcrumref01_Mul.spec fulcrumref01_Mul.cals T Try.f86 k (a0, a1, ()) = fulcrumref01_Mul.e (fulcrumref01_Mul.L3 k) (fulcrumref01_Mul.L7 k) a0 a1 := by kernel_rfl
theorem fulcrumref01_Mul.F_eq (a0 : (List Int)) (a1 : (List Int)) : fulcrumref01_Mul.F (a0, a1, ()) = limF fulcrumref01_Mul.spec fulcrumref01_Mul.cals T Try.f86 (a0, a1, ()) := by kernel_rfl
theorem fulcrumref01_Mul.of (k : Nat) (a0 : (List Int)) (a1 : (List Int)) {y : (List Int) × Unit} (h : fulcrumref01_Mul.e (fulcrumref01_Mul.L3 k) (fulcrumref01_Mul.L7 k) a0 a1 = some y) : fulcrumref01_Mul.F (a0, a1, ()) = some y := (fulcrumref01_Mul.F_eq a0 a1).trans (limF_of (q := fulcrumref01_Mul.spec) (C := fulcrumref01_Mul.cals) (T := T) (f := Try.f86) (x := (a0, a1, ())) (y := y) k ((fulcrumref01_Mul.eval k a0 a1).trans h))

/-! ### fulcrum/fulcrumref02.Mul -/
def fulcrumref02_Mul.spec : Spec := ⟨[(true, (.prod .bool (.sl 70 (.int .u32)))), (true, (.prod .bool (.sl 70 (.int .u32))))], [(true, (.prod .bool (.sl 70 (.int .u32))))], .own, fun j => match j with  | _ => []⟩
noncomputable def fulcrumref02_Mul.cals : Cals := (Cals.cons 86 fulcrumref01_Mul.sig (Cals.cons 74 fulcrumref02_made.sig Cals.nil))
noncomputable def fulcrumref02_Mul.sig : Sig := fulcrumref02_Mul.spec.sig fulcrumref02_Mul.cals T Try.f36
noncomputable def fulcrumref02_Mul.F (x : (Bool × (List Int)) × (Bool × (List Int)) × Unit) : Option ((Bool × (List Int)) × Unit) := limF fulcrumref02_Mul.spec fulcrumref02_Mul.cals T Try.f36 x
theorem fulcrumref02_Mul.ck : CalsOk Try.prog fulcrumref02_Mul.cals := (CalsOk.cons fulcrumref01_Mul.cal (CalsOk.cons fulcrumref02_made.cal CalsOk.nil))
theorem fulcrumref02_Mul.cal : CalOk Try.prog 36 fulcrumref02_Mul.sig := calOk_lim' tabOk fulcrumref02_Mul.ck mix Try.func36 (by kernel_rfl) (by kernel_rfl) (by kernel_rfl) (by kernel_rfl)
noncomputable def fulcrumref02_Mul.e  (a0 : (Bool × (List Int))) (a1 : (Bool × (List Int))) : Option ((Bool × (List Int)) × Unit) :=
  let v1 := (!(a0.1 == a1.1))
  (fulcrumref01_Mul.F (a0.2, a1.2, ())).bind fun y2 =>
  (fulcrumref02_made.F (v1, y2.1, ())).bind fun y3 =>
  some ((y3.1.1, y3.1.2), ())
theorem fulcrumref02_Mul.eval (k : Nat) (a0 : (Bool × (List Int))) (a1 : (Bool × (List Int))) : evalF fulcrumref02_Mul.spec fulcrumref02_Mul.cals T Try.f36 k (a0, a1, ()) = fulcrumref02_Mul.e  a0 a1 := by kernel_rfl
theorem fulcrumref02_Mul.F_eq (a0 : (Bool × (List Int))) (a1 : (Bool × (List Int))) : fulcrumref02_Mul.F (a0, a1, ()) = limF fulcrumref02_Mul.spec fulcrumref02_Mul.cals T Try.f36 (a0, a1, ()) := by kernel_rfl
theorem fulcrumref02_Mul.of (k : Nat) (a0 : (Bool × (List Int))) (a1 : (Bool × (List Int))) {y : (Bool × (List Int)) × Unit} (h : fulcrumref02_Mul.e  a0 a1 = some y) : fulcrumref02_Mul.F (a0, a1, ()) = some y := (fulcrumref02_Mul.F_eq a0 a1).trans (limF_of (q := fulcrumref02_Mul.spec) (C := fulcrumref02_Mul.cals) (T := T) (f := Try.f36) (x := (a0, a1, ())) (y := y) k ((fulcrumref02_Mul.eval k a0 a1).trans h))

/-! ### fulcrum/whole.Cmp -/
def whole_Cmp.spec : Spec := ⟨[(true, (.prod .bool (.sl 70 (.int .u32)))), (true, (.prod .bool (.sl 70 (.int .u32))))], [(false, (.int .i64))], .own, fun j => match j with  | _ => []⟩
noncomputable def whole_Cmp.cals : Cals := (Cals.cons 33 whole_Sub.sig (Cals.cons 29 whole_Sign.sig Cals.nil))
noncomputable def whole_Cmp.sig : Sig := whole_Cmp.spec.sig whole_Cmp.cals T Try.f37
noncomputable def whole_Cmp.F (x : (Bool × (List Int)) × (Bool × (List Int)) × Unit) : Option (Int × Unit) := limF whole_Cmp.spec whole_Cmp.cals T Try.f37 x
theorem whole_Cmp.ck : CalsOk Try.prog whole_Cmp.cals := (CalsOk.cons whole_Sub.cal (CalsOk.cons whole_Sign.cal CalsOk.nil))
theorem whole_Cmp.cal : CalOk Try.prog 37 whole_Cmp.sig := calOk_lim' tabOk whole_Cmp.ck mix Try.func37 (by kernel_rfl) (by kernel_rfl) (by kernel_rfl) (by kernel_rfl)
noncomputable def whole_Cmp.e  (a0 : (Bool × (List Int))) (a1 : (Bool × (List Int))) : Option (Int × Unit) :=
  (whole_Sub.F ((a0.1, a0.2), (a1.1, a1.2), ())).bind fun y1 =>
  (whole_Sign.F ((y1.1.1, y1.1.2), ())).bind fun y2 =>
  some (y2.1, ())
theorem whole_Cmp.eval (k : Nat) (a0 : (Bool × (List Int))) (a1 : (Bool × (List Int))) : evalF whole_Cmp.spec whole_Cmp.cals T Try.f37 k (a0, a1, ()) = whole_Cmp.e  a0 a1 := by kernel_rfl
theorem whole_Cmp.F_eq (a0 : (Bool × (List Int))) (a1 : (Bool × (List Int))) : whole_Cmp.F (a0, a1, ()) = limF whole_Cmp.spec whole_Cmp.cals T Try.f37 (a0, a1, ()) := by kernel_rfl
theorem whole_Cmp.of (k : Nat) (a0 : (Bool × (List Int))) (a1 : (Bool × (List Int))) {y : Int × Unit} (h : whole_Cmp.e  a0 a1 = some y) : whole_Cmp.F (a0, a1, ()) = some y := (whole_Cmp.F_eq a0 a1).trans (limF_of (q := whole_Cmp.spec) (C := whole_Cmp.cals) (T := T) (f := Try.f37) (x := (a0, a1, ())) (y := y) k ((whole_Cmp.eval k a0 a1).trans h))

/-! ### fulcrum/fulcrumref02.Cmp -/
def fulcrumref02_Cmp.spec : Spec := ⟨[(true, (.prod .bool (.sl 70 (.int .u32)))), (true, (.prod .bool (.sl 70 (.int .u32))))], [(false, (.int .i64))], .own, fun j => match j with  | _ => []⟩
noncomputable def fulcrumref02_Cmp.cals : Cals := (Cals.cons 34 fulcrumref02_Sub.sig (Cals.cons 30 fulcrumref02_Sign.sig Cals.nil))
noncomputable def fulcrumref02_Cmp.sig : Sig := fulcrumref02_Cmp.spec.sig fulcrumref02_Cmp.cals T Try.f38
noncomputable def fulcrumref02_Cmp.F (x : (Bool × (List Int)) × (Bool × (List Int)) × Unit) : Option (Int × Unit) := limF fulcrumref02_Cmp.spec fulcrumref02_Cmp.cals T Try.f38 x
theorem fulcrumref02_Cmp.ck : CalsOk Try.prog fulcrumref02_Cmp.cals := (CalsOk.cons fulcrumref02_Sub.cal (CalsOk.cons fulcrumref02_Sign.cal CalsOk.nil))
theorem fulcrumref02_Cmp.cal : CalOk Try.prog 38 fulcrumref02_Cmp.sig := calOk_lim' tabOk fulcrumref02_Cmp.ck mix Try.func38 (by kernel_rfl) (by kernel_rfl) (by kernel_rfl) (by kernel_rfl)
noncomputable def fulcrumref02_Cmp.e  (a0 : (Bool × (List Int))) (a1 : (Bool × (List Int))) : Option (Int × Unit) :=
  (fulcrumref02_Sub.F ((a0.1, a0.2), (a1.1, a1.2), ())).bind fun y1 =>
  (fulcrumref02_Sign.F ((y1.1.1, y1.1.2), ())).bind fun y2 =>
  some (y2.1, ())
theorem fulcrumref02_Cmp.eval (k : Nat) (a0 : (Bool × (List Int))) (a1 : (Bool × (List Int))) : evalF fulcrumref02_Cmp.spec fulcrumref02_Cmp.cals T Try.f38 k (a0, a1, ()) = fulcrumref02_Cmp.e  a0 a1 := by kernel_rfl
theorem fulcrumref02_Cmp.F_eq (a0 : (Bool × (List Int))) (a1 : (Bool × (List Int))) : fulcrumref02_Cmp.F (a0, a1, ()) = limF fulcrumref02_Cmp.spec fulcrumref02_Cmp.cals T Try.f38 (a0, a1, ()) := by kernel_rfl
theorem fulcrumref02_Cmp.of (k : Nat) (a0 : (Bool × (List Int))) (a1 : (Bool × (List Int))) {y : Int × Unit} (h : fulcrumref02_Cmp.e  a0 a1 = some y) : fulcrumref02_Cmp.F (a0, a1, ()) = some y := (fulcrumref02_Cmp.F_eq a0 a1).trans (limF_of (q := fulcrumref02_Cmp.spec) (C := fulcrumref02_Cmp.cals) (T := T) (f := Try.f38) (x := (a0, a1, ())) (y := y) k ((fulcrumref02_Cmp.eval k a0 a1).trans h))

/-! ### fulcrum/fulcrumlaw02.WholeReckons -/
def fulcrumlaw02_WholeReckons.spec : Spec := ⟨[(true, (.prod .bool (.sl 70 (.int .u32)))), (true, (.prod .bool (.sl 70 (.int .u32))))], [(false, .bool)], .own, fun j => match j with  | _ => []⟩
noncomputable def fulcrumlaw02_WholeReckons.cals : Cals := (Cals.cons 31 whole_Add.sig (Cals.cons 32 fulcrumref02_Add.sig (Cals.cons 19 fulcrumlaw02_same.sig (Cals.cons 33 whole_Sub.sig (Cals.cons 34 fulcrumref02_Sub.sig (Cals.cons 35 whole_Mul.sig (Cals.cons 36 fulcrumref02_Mul.sig (Cals.cons 37 whole_Cmp.sig (Cals.cons 38 fulcrumref02_Cmp.sig Cals.nil)))))))))
noncomputable def fulcrumlaw02_WholeReckons.sig : Sig := fulcrumlaw02_WholeReckons.spec.sig fulcrumlaw02_WholeReckons.cals T Try.f4
noncomputable def fulcrumlaw02_WholeReckons.F (x : (Bool × (List Int)) × (Bool × (List Int)) × Unit) : Option (Bool × Unit) := limF fulcrumlaw02_WholeReckons.spec fulcrumlaw02_WholeReckons.cals T Try.f4 x
theorem fulcrumlaw02_WholeReckons.ck : CalsOk Try.prog fulcrumlaw02_WholeReckons.cals := (CalsOk.cons whole_Add.cal (CalsOk.cons fulcrumref02_Add.cal (CalsOk.cons fulcrumlaw02_same.cal (CalsOk.cons whole_Sub.cal (CalsOk.cons fulcrumref02_Sub.cal (CalsOk.cons whole_Mul.cal (CalsOk.cons fulcrumref02_Mul.cal (CalsOk.cons whole_Cmp.cal (CalsOk.cons fulcrumref02_Cmp.cal CalsOk.nil)))))))))
theorem fulcrumlaw02_WholeReckons.cal : CalOk Try.prog 4 fulcrumlaw02_WholeReckons.sig := calOk_lim' tabOk fulcrumlaw02_WholeReckons.ck mix Try.func4 (by kernel_rfl) (by kernel_rfl) (by kernel_rfl) (by kernel_rfl)
noncomputable def fulcrumlaw02_WholeReckons.e  (a0 : (Bool × (List Int))) (a1 : (Bool × (List Int))) : Option (Bool × Unit) :=
  (whole_Add.F ((a0.1, a0.2), (a1.1, a1.2), ())).bind fun y1 =>
  (fulcrumref02_Add.F ((a0.1, a0.2), (a1.1, a1.2), ())).bind fun y2 =>
  (fulcrumlaw02_same.F ((y1.1.1, y1.1.2), (y2.1.1, y2.1.2), ())).bind fun y3 =>
  let v4 := not y3.1
  bif v4 then (some (false, ()))
  else ((whole_Sub.F ((a0.1, a0.2), (a1.1, a1.2), ())).bind fun y5 =>
  (fulcrumref02_Sub.F ((a0.1, a0.2), (a1.1, a1.2), ())).bind fun y6 =>
  (fulcrumlaw02_same.F ((y5.1.1, y5.1.2), (y6.1.1, y6.1.2), ())).bind fun y7 =>
  let v8 := not y7.1
  bif v8 then (some (false, ()))
  else ((whole_Mul.F ((a0.1, a0.2), (a1.1, a1.2), ())).bind fun y9 =>
  (fulcrumref02_Mul.F ((a0.1, a0.2), (a1.1, a1.2), ())).bind fun y10 =>
  (fulcrumlaw02_same.F ((y9.1.1, y9.1.2), (y10.1.1, y10.1.2), ())).bind fun y11 =>
  bif y11.1 then ((whole_Cmp.F ((a0.1, a0.2), (a1.1, a1.2), ())).bind fun y12 =>
  (fulcrumref02_Cmp.F ((a0.1, a0.2), (a1.1, a1.2), ())).bind fun y13 =>
  let v14 := (y12.1 == y13.1)
  some (v14, ()))
  else (some (false, ()))))
theorem fulcrumlaw02_WholeReckons.eval (k : Nat) (a0 : (Bool × (List Int))) (a1 : (Bool × (List Int))) : evalF fulcrumlaw02_WholeReckons.spec fulcrumlaw02_WholeReckons.cals T Try.f4 k (a0, a1, ()) = fulcrumlaw02_WholeReckons.e  a0 a1 := by kernel_rfl
theorem fulcrumlaw02_WholeReckons.F_eq (a0 : (Bool × (List Int))) (a1 : (Bool × (List Int))) : fulcrumlaw02_WholeReckons.F (a0, a1, ()) = limF fulcrumlaw02_WholeReckons.spec fulcrumlaw02_WholeReckons.cals T Try.f4 (a0, a1, ()) := by kernel_rfl
theorem fulcrumlaw02_WholeReckons.of (k : Nat) (a0 : (Bool × (List Int))) (a1 : (Bool × (List Int))) {y : Bool × Unit} (h : fulcrumlaw02_WholeReckons.e  a0 a1 = some y) : fulcrumlaw02_WholeReckons.F (a0, a1, ()) = some y := (fulcrumlaw02_WholeReckons.F_eq a0 a1).trans (limF_of (q := fulcrumlaw02_WholeReckons.spec) (C := fulcrumlaw02_WholeReckons.cals) (T := T) (f := Try.f4) (x := (a0, a1, ())) (y := y) k ((fulcrumlaw02_WholeReckons.eval k a0 a1).trans h))

/-! ### fulcrum/fulcrumlaw02.one -/
def fulcrumlaw02_one.spec : Spec := ⟨[], [(true, (.prod .bool (.sl 70 (.int .u32))))], .own, fun j => match j with  | _ => []⟩
noncomputable def fulcrumlaw02_one.cals : Cals := (Cals.cons 20 whole_Of.sig Cals.nil)
noncomputable def fulcrumlaw02_one.sig : Sig := fulcrumlaw02_one.spec.sig fulcrumlaw02_one.cals T Try.f40
noncomputable def fulcrumlaw02_one.F (x : Unit) : Option ((Bool × (List Int)) × Unit) := limF fulcrumlaw02_one.spec fulcrumlaw02_one.cals T Try.f40 x
theorem fulcrumlaw02_one.ck : CalsOk Try.prog fulcrumlaw02_one.cals := (CalsOk.cons whole_Of.cal CalsOk.nil)
theorem fulcrumlaw02_one.cal : CalOk Try.prog 40 fulcrumlaw02_one.sig := calOk_lim' tabOk fulcrumlaw02_one.ck mix Try.func40 (by kernel_rfl) (by kernel_rfl) (by kernel_rfl) (by kernel_rfl)
noncomputable def fulcrumlaw02_one.e   : Option ((Bool × (List Int)) × Unit) :=
  (whole_Of.F ((1 : Int), ())).bind fun y1 =>
  some ((y1.1.1, y1.1.2), ())
theorem fulcrumlaw02_one.eval (k : Nat)  : evalF fulcrumlaw02_one.spec fulcrumlaw02_one.cals T Try.f40 k () = fulcrumlaw02_one.e   := by kernel_rfl
theorem fulcrumlaw02_one.F_eq  : fulcrumlaw02_one.F () = limF fulcrumlaw02_one.spec fulcrumlaw02_one.cals T Try.f40 () := by kernel_rfl
theorem fulcrumlaw02_one.of (k : Nat)  {y : (Bool × (List Int)) × Unit} (h : fulcrumlaw02_one.e   = some y) : fulcrumlaw02_one.F () = some y := (fulcrumlaw02_one.F_eq ).trans (limF_of (q := fulcrumlaw02_one.spec) (C := fulcrumlaw02_one.cals) (T := T) (f := Try.f40) (x := ()) (y := y) k ((fulcrumlaw02_one.eval k ).trans h))

/-! ### fulcrum/fulcrumlaw02.awake -/
def fulcrumlaw02_awake.spec : Spec := ⟨[], [(false, .bool)], .own, fun j => match j with  | _ => []⟩
noncomputable def fulcrumlaw02_awake.cals : Cals := (Cals.cons 20 whole_Of.sig (Cals.cons 40 fulcrumlaw02_one.sig (Cals.cons 37 whole_Cmp.sig (Cals.cons 29 whole_Sign.sig Cals.nil))))
noncomputable def fulcrumlaw02_awake.sig : Sig := fulcrumlaw02_awake.spec.sig fulcrumlaw02_awake.cals T Try.f39
noncomputable def fulcrumlaw02_awake.F (x : Unit) : Option (Bool × Unit) := limF fulcrumlaw02_awake.spec fulcrumlaw02_awake.cals T Try.f39 x
theorem fulcrumlaw02_awake.ck : CalsOk Try.prog fulcrumlaw02_awake.cals := (CalsOk.cons whole_Of.cal (CalsOk.cons fulcrumlaw02_one.cal (CalsOk.cons whole_Cmp.cal (CalsOk.cons whole_Sign.cal CalsOk.nil))))
theorem fulcrumlaw02_awake.cal : CalOk Try.prog 39 fulcrumlaw02_awake.sig := calOk_lim' tabOk fulcrumlaw02_awake.ck mix Try.func39 (by kernel_rfl) (by kernel_rfl) (by kernel_rfl) (by kernel_rfl)
noncomputable def fulcrumlaw02_awake.e   : Option (Bool × Unit) :=
  (whole_Of.F ((2 : Int), ())).bind fun y1 =>
  (fulcrumlaw02_one.F ()).bind fun y2 =>
  (whole_Cmp.F ((y1.1.1, y1.1.2), (y2.1.1, y2.1.2), ())).bind fun y3 =>
  let v4 := (y3.1 == (1 : Int))
  bif v4 then ((fulcrumlaw02_one.F ()).bind fun y5 =>
  (whole_Sign.F ((y5.1.1, y5.1.2), ())).bind fun y6 =>
  let v7 := (y6.1 == (1 : Int))
  bif v7 then ((whole_Of.F ((0 : Int), ())).bind fun y8 =>
  (whole_Sign.F ((y8.1.1, y8.1.2), ())).bind fun y9 =>
  let v10 := (y9.1 == (0 : Int))
  some (v10, ()))
  else (some (false, ())))
  else (some (false, ()))
theorem fulcrumlaw02_awake.eval (k : Nat)  : evalF fulcrumlaw02_awake.spec fulcrumlaw02_awake.cals T Try.f39 k () = fulcrumlaw02_awake.e   := by kernel_rfl
theorem fulcrumlaw02_awake.F_eq  : fulcrumlaw02_awake.F () = limF fulcrumlaw02_awake.spec fulcrumlaw02_awake.cals T Try.f39 () := by kernel_rfl
theorem fulcrumlaw02_awake.of (k : Nat)  {y : Bool × Unit} (h : fulcrumlaw02_awake.e   = some y) : fulcrumlaw02_awake.F () = some y := (fulcrumlaw02_awake.F_eq ).trans (limF_of (q := fulcrumlaw02_awake.spec) (C := fulcrumlaw02_awake.cals) (T := T) (f := Try.f39) (x := ()) (y := y) k ((fulcrumlaw02_awake.eval k ).trans h))

/-! ### fulcrum/fulcrumlaw02.WholeOrder -/
def fulcrumlaw02_WholeOrder.spec : Spec := ⟨[(true, (.prod .bool (.sl 70 (.int .u32)))), (true, (.prod .bool (.sl 70 (.int .u32)))), (true, (.prod .bool (.sl 70 (.int .u32))))], [(false, .bool)], .own, fun j => match j with  | _ => []⟩
noncomputable def fulcrumlaw02_WholeOrder.cals : Cals := (Cals.cons 37 whole_Cmp.sig (Cals.cons 31 whole_Add.sig (Cals.cons 29 whole_Sign.sig (Cals.cons 35 whole_Mul.sig (Cals.cons 39 fulcrumlaw02_awake.sig Cals.nil)))))
noncomputable def fulcrumlaw02_WholeOrder.sig : Sig := fulcrumlaw02_WholeOrder.spec.sig fulcrumlaw02_WholeOrder.cals T Try.f5
noncomputable def fulcrumlaw02_WholeOrder.F (x : (Bool × (List Int)) × (Bool × (List Int)) × (Bool × (List Int)) × Unit) : Option (Bool × Unit) := limF fulcrumlaw02_WholeOrder.spec fulcrumlaw02_WholeOrder.cals T Try.f5 x
theorem fulcrumlaw02_WholeOrder.ck : CalsOk Try.prog fulcrumlaw02_WholeOrder.cals := (CalsOk.cons whole_Cmp.cal (CalsOk.cons whole_Add.cal (CalsOk.cons whole_Sign.cal (CalsOk.cons whole_Mul.cal (CalsOk.cons fulcrumlaw02_awake.cal CalsOk.nil)))))
theorem fulcrumlaw02_WholeOrder.cal : CalOk Try.prog 5 fulcrumlaw02_WholeOrder.sig := calOk_lim' tabOk fulcrumlaw02_WholeOrder.ck mix Try.func5 (by kernel_rfl) (by kernel_rfl) (by kernel_rfl) (by kernel_rfl)
noncomputable def fulcrumlaw02_WholeOrder.e  (a0 : (Bool × (List Int))) (a1 : (Bool × (List Int))) (a2 : (Bool × (List Int))) : Option (Bool × Unit) :=
  (whole_Cmp.F ((a0.1, a0.2), (a1.1, a1.2), ())).bind fun y1 =>
  (whole_Cmp.F ((a1.1, a1.2), (a2.1, a2.2), ())).bind fun y2 =>
  let v3 := decide (y1.1 < (-1 : Int))
  bif v3 then (some (false, ()))
  else (let v4 := decide (y1.1 > (1 : Int))
  bif v4 then (some (false, ()))
  else ((whole_Cmp.F ((a1.1, a1.2), (a0.1, a0.2), ())).bind fun y5 =>
  let v6 := IntKind.i64.wrap ((0 : Int) - y1.1)
  let v7 := (y5.1 != v6)
  bif v7 then (some (false, ()))
  else ((whole_Cmp.F ((a0.1, a0.2), (a0.1, a0.2), ())).bind fun y8 =>
  let v9 := (y8.1 != (0 : Int))
  bif v9 then (some (false, ()))
  else (let v10 := decide (y1.1 ≤ (0 : Int))
  bif v10 then (let v11 := decide (y2.1 ≤ (0 : Int))
  bif v11 then ((whole_Cmp.F ((a0.1, a0.2), (a2.1, a2.2), ())).bind fun y12 =>
  let v13 := decide (y12.1 > (0 : Int))
  bif v13 then (some (false, ()))
  else ((whole_Add.F ((a0.1, a0.2), (a2.1, a2.2), ())).bind fun y14 =>
  (whole_Add.F ((a1.1, a1.2), (a2.1, a2.2), ())).bind fun y15 =>
  (whole_Cmp.F ((y14.1.1, y14.1.2), (y15.1.1, y15.1.2), ())).bind fun y16 =>
  let v17 := (y16.1 != y1.1)
  bif v17 then (some (false, ()))
  else ((whole_Sign.F ((a2.1, a2.2), ())).bind fun y18 =>
  let v19 := decide (y18.1 > (0 : Int))
  bif v19 then ((whole_Mul.F ((a0.1, a0.2), (a2.1, a2.2), ())).bind fun y20 =>
  (whole_Mul.F ((a1.1, a1.2), (a2.1, a2.2), ())).bind fun y21 =>
  (whole_Cmp.F ((y20.1.1, y20.1.2), (y21.1.1, y21.1.2), ())).bind fun y22 =>
  let v23 := (y22.1 != y1.1)
  bif v23 then (some (false, ()))
  else ((fulcrumlaw02_awake.F ()).bind fun y24 =>
  some (y24.1, ())))
  else ((fulcrumlaw02_awake.F ()).bind fun y25 =>
  some (y25.1, ())))))
  else ((whole_Add.F ((a0.1, a0.2), (a2.1, a2.2), ())).bind fun y26 =>
  (whole_Add.F ((a1.1, a1.2), (a2.1, a2.2), ())).bind fun y27 =>
  (whole_Cmp.F ((y26.1.1, y26.1.2), (y27.1.1, y27.1.2), ())).bind fun y28 =>
  let v29 := (y28.1 != y1.1)
  bif v29 then (some (false, ()))
  else ((whole_Sign.F ((a2.1, a2.2), ())).bind fun y30 =>
  let v31 := decide (y30.1 > (0 : Int))
  bif v31 then ((whole_Mul.F ((a0.1, a0.2), (a2.1, a2.2), ())).bind fun y32 =>
  (whole_Mul.F ((a1.1, a1.2), (a2.1, a2.2), ())).bind fun y33 =>
  (whole_Cmp.F ((y32.1.1, y32.1.2), (y33.1.1, y33.1.2), ())).bind fun y34 =>
  let v35 := (y34.1 != y1.1)
  bif v35 then (some (false, ()))
  else ((fulcrumlaw02_awake.F ()).bind fun y36 =>
  some (y36.1, ())))
  else ((fulcrumlaw02_awake.F ()).bind fun y37 =>
  some (y37.1, ())))))
  else ((whole_Add.F ((a0.1, a0.2), (a2.1, a2.2), ())).bind fun y38 =>
  (whole_Add.F ((a1.1, a1.2), (a2.1, a2.2), ())).bind fun y39 =>
  (whole_Cmp.F ((y38.1.1, y38.1.2), (y39.1.1, y39.1.2), ())).bind fun y40 =>
  let v41 := (y40.1 != y1.1)
  bif v41 then (some (false, ()))
  else ((whole_Sign.F ((a2.1, a2.2), ())).bind fun y42 =>
  let v43 := decide (y42.1 > (0 : Int))
  bif v43 then ((whole_Mul.F ((a0.1, a0.2), (a2.1, a2.2), ())).bind fun y44 =>
  (whole_Mul.F ((a1.1, a1.2), (a2.1, a2.2), ())).bind fun y45 =>
  (whole_Cmp.F ((y44.1.1, y44.1.2), (y45.1.1, y45.1.2), ())).bind fun y46 =>
  let v47 := (y46.1 != y1.1)
  bif v47 then (some (false, ()))
  else ((fulcrumlaw02_awake.F ()).bind fun y48 =>
  some (y48.1, ())))
  else ((fulcrumlaw02_awake.F ()).bind fun y49 =>
  some (y49.1, ()))))))))
theorem fulcrumlaw02_WholeOrder.eval (k : Nat) (a0 : (Bool × (List Int))) (a1 : (Bool × (List Int))) (a2 : (Bool × (List Int))) : evalF fulcrumlaw02_WholeOrder.spec fulcrumlaw02_WholeOrder.cals T Try.f5 k (a0, a1, a2, ()) = fulcrumlaw02_WholeOrder.e  a0 a1 a2 := by kernel_rfl
theorem fulcrumlaw02_WholeOrder.F_eq (a0 : (Bool × (List Int))) (a1 : (Bool × (List Int))) (a2 : (Bool × (List Int))) : fulcrumlaw02_WholeOrder.F (a0, a1, a2, ()) = limF fulcrumlaw02_WholeOrder.spec fulcrumlaw02_WholeOrder.cals T Try.f5 (a0, a1, a2, ()) := by kernel_rfl
theorem fulcrumlaw02_WholeOrder.of (k : Nat) (a0 : (Bool × (List Int))) (a1 : (Bool × (List Int))) (a2 : (Bool × (List Int))) {y : Bool × Unit} (h : fulcrumlaw02_WholeOrder.e  a0 a1 a2 = some y) : fulcrumlaw02_WholeOrder.F (a0, a1, a2, ()) = some y := (fulcrumlaw02_WholeOrder.F_eq a0 a1 a2).trans (limF_of (q := fulcrumlaw02_WholeOrder.spec) (C := fulcrumlaw02_WholeOrder.cals) (T := T) (f := Try.f5) (x := (a0, a1, a2, ())) (y := y) k ((fulcrumlaw02_WholeOrder.eval k a0 a1 a2).trans h))

/-! ### fulcrum/fulcrumlaw02.WholeRing -/
def fulcrumlaw02_WholeRing.spec : Spec := ⟨[(true, (.prod .bool (.sl 70 (.int .u32)))), (true, (.prod .bool (.sl 70 (.int .u32)))), (true, (.prod .bool (.sl 70 (.int .u32))))], [(false, .bool)], .own, fun j => match j with  | _ => []⟩
noncomputable def fulcrumlaw02_WholeRing.cals : Cals := (Cals.cons 31 whole_Add.sig (Cals.cons 19 fulcrumlaw02_same.sig (Cals.cons 35 whole_Mul.sig (Cals.cons 33 whole_Sub.sig (Cals.cons 22 whole_Norm.sig (Cals.cons 40 fulcrumlaw02_one.sig (Cals.cons 37 whole_Cmp.sig Cals.nil)))))))
noncomputable def fulcrumlaw02_WholeRing.sig : Sig := fulcrumlaw02_WholeRing.spec.sig fulcrumlaw02_WholeRing.cals T Try.f6
noncomputable def fulcrumlaw02_WholeRing.F (x : (Bool × (List Int)) × (Bool × (List Int)) × (Bool × (List Int)) × Unit) : Option (Bool × Unit) := limF fulcrumlaw02_WholeRing.spec fulcrumlaw02_WholeRing.cals T Try.f6 x
theorem fulcrumlaw02_WholeRing.ck : CalsOk Try.prog fulcrumlaw02_WholeRing.cals := (CalsOk.cons whole_Add.cal (CalsOk.cons fulcrumlaw02_same.cal (CalsOk.cons whole_Mul.cal (CalsOk.cons whole_Sub.cal (CalsOk.cons whole_Norm.cal (CalsOk.cons fulcrumlaw02_one.cal (CalsOk.cons whole_Cmp.cal CalsOk.nil)))))))
theorem fulcrumlaw02_WholeRing.cal : CalOk Try.prog 6 fulcrumlaw02_WholeRing.sig := calOk_lim' tabOk fulcrumlaw02_WholeRing.ck mix Try.func6 (by kernel_rfl) (by kernel_rfl) (by kernel_rfl) (by kernel_rfl)
noncomputable def fulcrumlaw02_WholeRing.e  (a0 : (Bool × (List Int))) (a1 : (Bool × (List Int))) (a2 : (Bool × (List Int))) : Option (Bool × Unit) :=
  (whole_Add.F ((a0.1, a0.2), (a1.1, a1.2), ())).bind fun y1 =>
  (whole_Add.F ((a1.1, a1.2), (a0.1, a0.2), ())).bind fun y2 =>
  (fulcrumlaw02_same.F ((y1.1.1, y1.1.2), (y2.1.1, y2.1.2), ())).bind fun y3 =>
  let v4 := not y3.1
  bif v4 then (some (false, ()))
  else ((whole_Add.F ((y1.1.1, y1.1.2), (a2.1, a2.2), ())).bind fun y5 =>
  (whole_Add.F ((a1.1, a1.2), (a2.1, a2.2), ())).bind fun y6 =>
  (whole_Add.F ((a0.1, a0.2), (y6.1.1, y6.1.2), ())).bind fun y7 =>
  (fulcrumlaw02_same.F ((y5.1.1, y5.1.2), (y7.1.1, y7.1.2), ())).bind fun y8 =>
  let v9 := not y8.1
  bif v9 then (some (false, ()))
  else ((whole_Mul.F ((a0.1, a0.2), (a1.1, a1.2), ())).bind fun y10 =>
  (whole_Mul.F ((a1.1, a1.2), (a0.1, a0.2), ())).bind fun y11 =>
  (fulcrumlaw02_same.F ((y10.1.1, y10.1.2), (y11.1.1, y11.1.2), ())).bind fun y12 =>
  let v13 := not y12.1
  bif v13 then (some (false, ()))
  else ((whole_Mul.F ((y10.1.1, y10.1.2), (a2.1, a2.2), ())).bind fun y14 =>
  (whole_Mul.F ((a1.1, a1.2), (a2.1, a2.2), ())).bind fun y15 =>
  (whole_Mul.F ((a0.1, a0.2), (y15.1.1, y15.1.2), ())).bind fun y16 =>
  (fulcrumlaw02_same.F ((y14.1.1, y14.1.2), (y16.1.1, y16.1.2), ())).bind fun y17 =>
  let v18 := not y17.1
  bif v18 then (some (false, ()))
  else ((whole_Mul.F ((y1.1.1, y1.1.2), (a2.1, a2.2), ())).bind fun y19 =>
  (whole_Mul.F ((a0.1, a0.2), (a2.1, a2.2), ())).bind fun y20 =>
  (whole_Mul.F ((a1.1, a1.2), (a2.1, a2.2), ())).bind fun y21 =>
  (whole_Add.F ((y20.1.1, y20.1.2), (y21.1.1, y21.1.2), ())).bind fun y22 =>
  (fulcrumlaw02_same.F ((y19.1.1, y19.1.2), (y22.1.1, y22.1.2), ())).bind fun y23 =>
  let v24 := not y23.1
  bif v24 then (some (false, ()))
  else ((whole_Sub.F ((y1.1.1, y1.1.2), (a1.1, a1.2), ())).bind fun y25 =>
  (whole_Norm.F ((a0.1, a0.2), ())).bind fun y26 =>
  (fulcrumlaw02_same.F ((y25.1.1, y25.1.2), (y26.1.1, y26.1.2), ())).bind fun y27 =>
  let v28 := not y27.1
  bif v28 then (some (false, ()))
  else ((fulcrumlaw02_one.F ()).bind fun y29 =>
  (whole_Mul.F ((a0.1, a0.2), (y29.1.1, y29.1.2), ())).bind fun y30 =>
  (whole_Norm.F ((a0.1, a0.2), ())).bind fun y31 =>
  (fulcrumlaw02_same.F ((y30.1.1, y30.1.2), (y31.1.1, y31.1.2), ())).bind fun y32 =>
  bif y32.1 then ((fulcrumlaw02_one.F ()).bind fun y33 =>
  (whole_Add.F ((a0.1, a0.2), (y33.1.1, y33.1.2), ())).bind fun y34 =>
  (whole_Cmp.F ((y34.1.1, y34.1.2), (a0.1, a0.2), ())).bind fun y35 =>
  let v36 := (y35.1 == (1 : Int))
  some (v36, ()))
  else (some (false, ()))))))))
theorem fulcrumlaw02_WholeRing.eval (k : Nat) (a0 : (Bool × (List Int))) (a1 : (Bool × (List Int))) (a2 : (Bool × (List Int))) : evalF fulcrumlaw02_WholeRing.spec fulcrumlaw02_WholeRing.cals T Try.f6 k (a0, a1, a2, ()) = fulcrumlaw02_WholeRing.e  a0 a1 a2 := by kernel_rfl
theorem fulcrumlaw02_WholeRing.F_eq (a0 : (Bool × (List Int))) (a1 : (Bool × (List Int))) (a2 : (Bool × (List Int))) : fulcrumlaw02_WholeRing.F (a0, a1, a2, ()) = limF fulcrumlaw02_WholeRing.spec fulcrumlaw02_WholeRing.cals T Try.f6 (a0, a1, a2, ()) := by kernel_rfl
theorem fulcrumlaw02_WholeRing.of (k : Nat) (a0 : (Bool × (List Int))) (a1 : (Bool × (List Int))) (a2 : (Bool × (List Int))) {y : Bool × Unit} (h : fulcrumlaw02_WholeRing.e  a0 a1 a2 = some y) : fulcrumlaw02_WholeRing.F (a0, a1, a2, ()) = some y := (fulcrumlaw02_WholeRing.F_eq a0 a1 a2).trans (limF_of (q := fulcrumlaw02_WholeRing.spec) (C := fulcrumlaw02_WholeRing.cals) (T := T) (f := Try.f6) (x := (a0, a1, a2, ())) (y := y) k ((fulcrumlaw02_WholeRing.eval k a0 a1 a2).trans h))

end Go.Fx.Try
