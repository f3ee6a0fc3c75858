import Derived.Test.YtjhbcpnliiegoaaW02
namespace Go.Fx.Try
open Go Go.Proofs Go.Fx
set_option linter.unusedVariables false
set_option maxRecDepth 100000


/-! ### fulcrum/nat.moved -/
def nat_moved.spec : Spec := ⟨[(false, (.sl 70 (.int .u32))), (false, (.int .i64))], [(false, (.sl 70 (.int .u32)))], .own, fun j => match j with | 3 => [(0, .lf (.z 70 (.int .u32) false)), (1, .lf (.v false)), (5, .lf (.o 70 (.int .u32) true)), (12, .lf (.v true)), (13, .lf (.v true))] | _ => []⟩
noncomputable def nat_moved.cals : Cals := Cals.nil
noncomputable def nat_moved.sig : Sig := nat_moved.spec.sig nat_moved.cals T Try.f103
noncomputable def nat_moved.F (x : (List Int) × Int × Unit) : Option ((List Int) × Unit) := limF nat_moved.spec nat_moved.cals T Try.f103 x
theorem nat_moved.ck : CalsOk Try.prog nat_moved.cals := CalsOk.nil
theorem nat_moved.cal : CalOk Try.prog 103 nat_moved.sig := calOk_lim' tabOk nat_moved.ck mix Try.func103 (by kernel_rfl) (by kernel_rfl) (by kernel_rfl) (by kernel_rfl)
def nat_moved.m3 (x0 : (List Int)) (x1 : Int) (x5 : (List Int)) (x12 : Int) (x13 : Int) : S := ⟨[(0, .one (.lf (.val false (.sl 70 (.int .u32)) x0))), (1, .one (.lf (.val false (.int .i64) x1))), (5, .one (.lf (.own 0))), (12, .one (.lf (.val true (.int .i64) x12))), (13, .one (.lf (.val true (.int .i64) x13)))], ⟨[some ⟨70, (.int .u32), true, true, x5⟩], []⟩⟩
noncomputable def nat_moved.b3 (f3 : (List Int) → Int → (List Int) → Int → Int → Option ((List Int) × Unit)) (x0 : (List Int)) (x1 : Int) (x5 : (List Int)) (x12 : Int) (x13 : Int) : Option ((List Int) × Unit) :=
  let v1 := decide (x13 < x12)
  bif v1 then (bif decide (0 ≤ x13) && decide (x13 < (List.length x5 : Int)) then (let v2 := List.getD x5 (Int.toNat x13) (0 : Int)
  bif decide (0 ≤ x13) && decide (x13 < (List.length x0 : Int)) then (let v3 := List.getD x0 (Int.toNat x13) (0 : Int)
  bif decide (x1 < 0) then none
  else (let v4 := shlI .u32 v3 x1
  let v5 := bitsOp .or .u32 v2 v4
  bif decide (0 ≤ x13) && decide (x13 < (List.length x5 : Int)) then (let v6 := List.set x5 (Int.toNat x13) v5
  let v7 := IntKind.i64.wrap (x13 + (1 : Int))
  bif decide (0 ≤ x13) && decide (x13 < (List.length x0 : Int)) then (let v8 := List.getD x0 (Int.toNat x13) (0 : Int)
  let v9 := IntKind.u64.wrap v8
  let v10 := IntKind.i64.wrap ((32 : Int) - x1)
  bif decide (v10 < 0) then none
  else (let v11 := shrI .u64 v9 v10
  let v12 := IntKind.u32.wrap v11
  bif decide (0 ≤ v7) && decide (v7 < (List.length v6 : Int)) then (let v13 := List.set v6 (Int.toNat v7) v12
  let v14 := IntKind.i64.wrap (x13 + (1 : Int))
  f3 x0 x1 v13 x12 v14)
  else none))
  else none)
  else none))
  else none)
  else none)
  else (some (x5, ()))
noncomputable def nat_moved.e (f3 : (List Int) → Int → (List Int) → Int → Int → Option ((List Int) × Unit)) (a0 : (List Int)) (a1 : Int) : Option ((List Int) × Unit) :=
  let v1 := (List.length a0 : Int)
  let v2 := IntKind.i64.wrap (v1 + (1 : Int))
  bif decide (0 ≤ v2) && (decide (v2 ≤ v2) && (decide (Int.toNat v2 * 4 ≤ 281474976710656) && Nat.blt 0 4)) then (let v3 := List.replicate (Int.toNat v2) (0 : Int)
  let v4 := (List.length a0 : Int)
  f3 a0 a1 v3 v4 (0 : Int))
  else none
noncomputable def nat_moved.L3 (k : Nat) (x0 : (List Int)) (x1 : Int) (x5 : (List Int)) (x12 : Int) (x13 : Int) : Option ((List Int) × Unit) := heads (nat_moved.spec.env nat_moved.cals T Try.f103) (Func.pts Try.f103) k 3 (nat_moved.m3 x0 x1 x5 x12 x13)
theorem nat_moved.L3_succ (k : Nat) (x0 : (List Int)) (x1 : Int) (x5 : (List Int)) (x12 : Int) (x13 : Int) : nat_moved.L3 (k + 1) x0 x1 x5 x12 x13 = nat_moved.b3 (nat_moved.L3 k) x0 x1 x5 x12 x13 := by kernel_rfl
theorem nat_moved.L3_zero (x0 : (List Int)) (x1 : Int) (x5 : (List Int)) (x12 : Int) (x13 : Int) : nat_moved.L3 0 x0 x1 x5 x12 x13 = none := by kernel_rfl
theorem nat_moved.eval (k : Nat) (a0 : (List Int)) (a1 : Int) : evalF nat_moved.spec nat_moved.cals T Try.f103 k (a0, a1, ()) = nat_moved.e (nat_moved.L3 k) a0 a1 := by kernel_rfl
theorem nat_moved.F_eq (a0 : (List Int)) (a1 : Int) : nat_moved.F (a0, a1, ()) = limF nat_moved.spec nat_moved.cals T Try.f103 (a0, a1, ()) := by kernel_rfl
theorem nat_moved.of (k : Nat) (a0 : (List Int)) (a1 : Int) {y : (List Int) × Unit} (h : nat_moved.e (nat_moved.L3 k) a0 a1 = some y) : nat_moved.F (a0, a1, ()) = some y := (nat_moved.F_eq a0 a1).trans (limF_of (q := nat_moved.spec) (C := nat_moved.cals) (T := T) (f := Try.f103) (x := (a0, a1, ())) (y := y) k ((nat_moved.eval k a0 a1).trans h))

/-! ### fulcrum/nat.Shift -/
def nat_Shift.spec : Spec := ⟨[(false, (.sl 70 (.int .u32))), (false, (.int .i64))], [(false, (.sl 70 (.int .u32))), (false, (.int .i64))], .own, fun j => match j with | 14 => [(0, .lf (.z 70 (.int .u32) false)), (8, .lf (.v true)), (9, .lf (.o 70 (.int .u32) true)), (56, .lf (.v true)), (57, .lf (.v true))] | _ => []⟩
noncomputable def nat_Shift.cals : Cals := (Cals.withSubs [31] (Cals.cons 98 nat_trim.sig (Cals.cons 103 nat_moved.sig (Cals.cons 99 nat_own.sig Cals.nil))))
noncomputable def nat_Shift.sig : Sig := nat_Shift.spec.sig nat_Shift.cals T Try.f87
noncomputable def nat_Shift.F (x : (List Int) × Int × Unit) : Option ((List Int) × Int × Unit) := limF nat_Shift.spec nat_Shift.cals T Try.f87 x
theorem nat_Shift.ck : CalsOk Try.prog nat_Shift.cals := (CalsOk.withSubs [31] (CalsOk.cons nat_trim.cal (CalsOk.cons nat_moved.cal (CalsOk.cons nat_own.cal CalsOk.nil))))
theorem nat_Shift.cal : CalOk Try.prog 87 nat_Shift.sig := calOk_lim' tabOk nat_Shift.ck mix Try.func87 (by kernel_rfl) (by kernel_rfl) (by kernel_rfl) (by kernel_rfl)
def nat_Shift.m14 (x0 : (List Int)) (x8 : Int) (x9 : (List Int)) (x56 : Int) (x57 : Int) : S := ⟨[(0, .one (.lf (.val false (.sl 70 (.int .u32)) x0))), (8, .one (.lf (.val true (.int .i64) x8))), (9, .one (.lf (.own 0))), (56, .one (.lf (.val true (.int .i64) x56))), (57, .one (.lf (.val true (.int .i64) x57)))], ⟨[some ⟨70, (.int .u32), true, true, x9⟩], []⟩⟩
noncomputable def nat_Shift.b14 (f14 : (List Int) → Int → (List Int) → Int → Int → Option ((List Int) × Int × Unit)) (x0 : (List Int)) (x8 : Int) (x9 : (List Int)) (x56 : Int) (x57 : Int) : Option ((List Int) × Int × Unit) :=
  let v1 := decide (x57 < x56)
  bif v1 then (bif decide (0 ≤ x57) && decide (x57 < (List.length x0 : Int)) then (let v2 := List.getD x0 (Int.toNat x57) (0 : Int)
  bif decide (x8 < 0) then none
  else (let v3 := shrI .u32 v2 x8
  bif decide (0 ≤ x57) && decide (x57 < (List.length x9 : Int)) then (let v4 := List.set x9 (Int.toNat x57) v3
  let v5 := IntKind.i64.wrap (x57 + (1 : Int))
  let v6 := (List.length x0 : Int)
  let v7 := decide (v5 < v6)
  bif v7 then (bif decide (0 ≤ x57) && decide (x57 < (List.length v4 : Int)) then (let v8 := List.getD v4 (Int.toNat x57) (0 : Int)
  let v9 := IntKind.i64.wrap (x57 + (1 : Int))
  bif decide (0 ≤ v9) && decide (v9 < (List.length x0 : Int)) then (let v10 := List.getD x0 (Int.toNat v9) (0 : Int)
  let v11 := IntKind.u64.wrap v10
  let v12 := IntKind.i64.wrap ((32 : Int) - x8)
  bif decide (v12 < 0) then none
  else (let v13 := shlI .u64 v11 v12
  let v14 := IntKind.u32.wrap v13
  let v15 := bitsOp .or .u32 v8 v14
  bif decide (0 ≤ x57) && decide (x57 < (List.length v4 : Int)) then (let v16 := List.set v4 (Int.toNat x57) v15
  let v17 := IntKind.i64.wrap (x57 + (1 : Int))
  f14 x0 x8 v16 x56 v17)
  else none))
  else none)
  else none)
  else (let v18 := IntKind.i64.wrap (x57 + (1 : Int))
  f14 x0 x8 v4 x56 v18))
  else none))
  else none)
  else ((nat_own.F (x9, ())).bind fun y19 =>
  some (y19.1, (0 : Int), ()))
noncomputable def nat_Shift.e (f14 : (List Int) → Int → (List Int) → Int → Int → Option ((List Int) × Int × Unit)) (a0 : (List Int)) (a1 : Int) : Option ((List Int) × Int × Unit) :=
  let v1 := decide (a1 < (-1048576 : Int))
  bif v1 then (some (([] : List Int), (12 : Int), ()))
  else (let v2 := decide (a1 > (1048576 : Int))
  bif v2 then (some (([] : List Int), (12 : Int), ()))
  else ((nat_trim.F (a0, ())).bind fun y3 =>
  let v4 := decide (a1 ≥ (0 : Int))
  bif v4 then (bif decide ((32 : Int) = 0) then none
  else (let v5 := IntKind.i64.wrap (Int.tdiv a1 (32 : Int))
  let v6 := (List.length y3.1 : Int)
  let v7 := IntKind.i64.wrap (v5 + v6)
  let v8 := IntKind.i64.wrap (v7 + (1 : Int))
  bif decide (0 ≤ v8) && (decide (v8 ≤ v8) && (decide (Int.toNat v8 * 4 ≤ 281474976710656) && Nat.blt 0 4)) then (let v9 := List.replicate (Int.toNat v8) (0 : Int)
  bif decide ((32 : Int) = 0) then none
  else (let v10 := IntKind.i64.wrap (Int.tdiv a1 (32 : Int))
  bif decide (0 ≤ v10) && (decide (v10 ≤ (List.length v9 : Int)) && decide ((List.length v9 : Int) ≤ (List.length v9 : Int))) then (bif decide ((32 : Int) = 0) then none
  else (let v11 := Int.tmod a1 (32 : Int)
  (nat_moved.F (y3.1, v11, ())).bind fun y12 =>
  bif Nat.blt 0 (Int.toNat ((List.length v9 : Int) - v10)) && Nat.ble ((Int.toNat v10) + (Int.toNat ((List.length v9 : Int) - v10))) (List.length v9) then (let v13 := List.take (Int.toNat v10) v9 ++ (List.take (Int.toNat ((List.length v9 : Int) - v10)) y12.1 ++ List.drop ((Int.toNat v10) + Nat.min (List.length y12.1) (Int.toNat ((List.length v9 : Int) - v10))) v9)
  let v14 := ((Nat.min (List.length y12.1) (Int.toNat ((List.length v9 : Int) - v10)) : Nat) : Int)
  (nat_own.F (v13, ())).bind fun y15 =>
  some (y15.1, (0 : Int), ()))
  else none))
  else none))
  else none))
  else (let v16 := negI .i64 a1
  bif decide ((32 : Int) = 0) then none
  else (let v17 := IntKind.i64.wrap (Int.tdiv v16 (32 : Int))
  let v18 := negI .i64 a1
  bif decide ((32 : Int) = 0) then none
  else (let v19 := Int.tmod v18 (32 : Int)
  let v20 := (List.length y3.1 : Int)
  let v21 := decide (v17 ≥ v20)
  bif v21 then (some (([] : List Int), (0 : Int), ()))
  else (bif decide (0 ≤ v17) && decide (v17 ≤ (List.length y3.1 : Int)) then (let v22 := List.drop (Int.toNat v17) y3.1
  let v23 := (List.length v22 : Int)
  bif decide (0 ≤ v23) && (decide (v23 ≤ v23) && (decide (Int.toNat v23 * 4 ≤ 281474976710656) && Nat.blt 0 4)) then (let v24 := List.replicate (Int.toNat v23) (0 : Int)
  let v25 := (List.length v22 : Int)
  f14 v22 v19 v24 v25 (0 : Int))
  else none)
  else none))))))
noncomputable def nat_Shift.L14 (k : Nat) (x0 : (List Int)) (x8 : Int) (x9 : (List Int)) (x56 : Int) (x57 : Int) : Option ((List Int) × Int × Unit) := heads (nat_Shift.spec.env nat_Shift.cals T Try.f87) (Func.pts Try.f87) k 14 (nat_Shift.m14 x0 x8 x9 x56 x57)
theorem nat_Shift.L14_succ (k : Nat) (x0 : (List Int)) (x8 : Int) (x9 : (List Int)) (x56 : Int) (x57 : Int) : nat_Shift.L14 (k + 1) x0 x8 x9 x56 x57 = nat_Shift.b14 (nat_Shift.L14 k) x0 x8 x9 x56 x57 := by kernel_rfl
theorem nat_Shift.L14_zero (x0 : (List Int)) (x8 : Int) (x9 : (List Int)) (x56 : Int) (x57 : Int) : nat_Shift.L14 0 x0 x8 x9 x56 x57 = none := by kernel_rfl
theorem nat_Shift.eval (k : Nat) (a0 : (List Int)) (a1 : Int) : evalF nat_Shift.spec nat_Shift.cals T Try.f87 k (a0, a1, ()) = nat_Shift.e (nat_Shift.L14 k) a0 a1 := by kernel_rfl
theorem nat_Shift.F_eq (a0 : (List Int)) (a1 : Int) : nat_Shift.F (a0, a1, ()) = limF nat_Shift.spec nat_Shift.cals T Try.f87 (a0, a1, ()) := by kernel_rfl
theorem nat_Shift.of (k : Nat) (a0 : (List Int)) (a1 : Int) {y : (List Int) × Int × Unit} (h : nat_Shift.e (nat_Shift.L14 k) a0 a1 = some y) : nat_Shift.F (a0, a1, ()) = some y := (nat_Shift.F_eq a0 a1).trans (limF_of (q := nat_Shift.spec) (C := nat_Shift.cals) (T := T) (f := Try.f87) (x := (a0, a1, ())) (y := y) k ((nat_Shift.eval k a0 a1).trans h))

/-! ### fulcrum/whole.Shift -/
def whole_Shift.spec : Spec := ⟨[(true, (.prod .bool (.sl 70 (.int .u32)))), (false, (.int .i64))], [(true, (.prod .bool (.sl 70 (.int .u32)))), (false, (.int .i64))], .own, fun j => match j with  | _ => []⟩
noncomputable def whole_Shift.cals : Cals := (Cals.cons 29 whole_Sign.sig (Cals.cons 87 nat_Shift.sig (Cals.cons 72 whole_signed.sig (Cals.cons 20 whole_Of.sig (Cals.cons 31 whole_Add.sig (Cals.cons 33 whole_Sub.sig Cals.nil))))))
noncomputable def whole_Shift.sig : Sig := whole_Shift.spec.sig whole_Shift.cals T Try.f41
noncomputable def whole_Shift.F (x : (Bool × (List Int)) × Int × Unit) : Option ((Bool × (List Int)) × Int × Unit) := limF whole_Shift.spec whole_Shift.cals T Try.f41 x
theorem whole_Shift.ck : CalsOk Try.prog whole_Shift.cals := (CalsOk.cons whole_Sign.cal (CalsOk.cons nat_Shift.cal (CalsOk.cons whole_signed.cal (CalsOk.cons whole_Of.cal (CalsOk.cons whole_Add.cal (CalsOk.cons whole_Sub.cal CalsOk.nil))))))
theorem whole_Shift.cal : CalOk Try.prog 41 whole_Shift.sig := calOk_lim' tabOk whole_Shift.ck mix Try.func41 (by kernel_rfl) (by kernel_rfl) (by kernel_rfl) (by kernel_rfl)
noncomputable def whole_Shift.e  (a0 : (Bool × (List Int))) (a1 : Int) : Option ((Bool × (List Int)) × Int × Unit) :=
  (whole_Sign.F ((a0.1, a0.2), ())).bind fun y1 =>
  let v2 := decide (y1.1 ≥ (0 : Int))
  bif v2 then ((nat_Shift.F (a0.2, a1, ())).bind fun y3 =>
  (whole_Sign.F ((a0.1, a0.2), ())).bind fun y4 =>
  let v5 := ([y4.1] : List Int)
  (whole_signed.F (y3.1, v5, ())).bind fun y6 =>
  some ((y6.1.1, y6.1.2), y3.2.1, ()))
  else (let v7 := decide (a1 ≥ (0 : Int))
  bif v7 then ((nat_Shift.F (a0.2, a1, ())).bind fun y8 =>
  (whole_Sign.F ((a0.1, a0.2), ())).bind fun y9 =>
  let v10 := ([y9.1] : List Int)
  (whole_signed.F (y8.1, v10, ())).bind fun y11 =>
  some ((y11.1.1, y11.1.2), y8.2.1, ()))
  else ((whole_Of.F ((1 : Int), ())).bind fun y12 =>
  (whole_Add.F ((a0.1, a0.2), (y12.1.1, y12.1.2), ())).bind fun y13 =>
  (nat_Shift.F (y13.1.2, a1, ())).bind fun y14 =>
  let v15 := (y14.2.1 != (0 : Int))
  bif v15 then (some ((false, ([] : List Int)), y14.2.1, ()))
  else (let v16 := ([(-1 : Int)] : List Int)
  (whole_signed.F (y14.1, v16, ())).bind fun y17 =>
  (whole_Of.F ((1 : Int), ())).bind fun y18 =>
  (whole_Sub.F ((y17.1.1, y17.1.2), (y18.1.1, y18.1.2), ())).bind fun y19 =>
  some ((y19.1.1, y19.1.2), (0 : Int), ()))))
theorem whole_Shift.eval (k : Nat) (a0 : (Bool × (List Int))) (a1 : Int) : evalF whole_Shift.spec whole_Shift.cals T Try.f41 k (a0, a1, ()) = whole_Shift.e  a0 a1 := by kernel_rfl
theorem whole_Shift.F_eq (a0 : (Bool × (List Int))) (a1 : Int) : whole_Shift.F (a0, a1, ()) = limF whole_Shift.spec whole_Shift.cals T Try.f41 (a0, a1, ()) := by kernel_rfl
theorem whole_Shift.of (k : Nat) (a0 : (Bool × (List Int))) (a1 : Int) {y : (Bool × (List Int)) × Int × Unit} (h : whole_Shift.e  a0 a1 = some y) : whole_Shift.F (a0, a1, ()) = some y := (whole_Shift.F_eq a0 a1).trans (limF_of (q := whole_Shift.spec) (C := whole_Shift.cals) (T := T) (f := Try.f41) (x := (a0, a1, ())) (y := y) k ((whole_Shift.eval k a0 a1).trans h))

/-! ### fulcrum/fulcrumref01.twice -/
def fulcrumref01_twice.spec : Spec := ⟨[(false, (.sl 70 (.int .u32))), (false, .bool)], [(false, (.sl 70 (.int .u32)))], .own, fun j => match j with | 6 => [(0, .lf (.z 70 (.int .u32) false)), (5, .lf (.o 70 (.int .u32) true)), (6, .lf (.v true)), (7, .lf (.v true))] | _ => []⟩
noncomputable def fulcrumref01_twice.cals : Cals := (Cals.cons 77 fulcrumref01_Norm.sig Cals.nil)
noncomputable def fulcrumref01_twice.sig : Sig := fulcrumref01_twice.spec.sig fulcrumref01_twice.cals T Try.f106
noncomputable def fulcrumref01_twice.F (x : (List Int) × Bool × Unit) : Option ((List Int) × Unit) := limF fulcrumref01_twice.spec fulcrumref01_twice.cals T Try.f106 x
theorem fulcrumref01_twice.ck : CalsOk Try.prog fulcrumref01_twice.cals := (CalsOk.cons fulcrumref01_Norm.cal CalsOk.nil)
theorem fulcrumref01_twice.cal : CalOk Try.prog 106 fulcrumref01_twice.sig := calOk_lim' tabOk fulcrumref01_twice.ck mix Try.func106 (by kernel_rfl) (by kernel_rfl) (by kernel_rfl) (by kernel_rfl)
def fulcrumref01_twice.m6 (x0 : (List Int)) (x5 : (List Int)) (x6 : Int) (x7 : Int) : S := ⟨[(0, .one (.lf (.val false (.sl 70 (.int .u32)) x0))), (5, .one (.lf (.own 0))), (6, .one (.lf (.val true (.int .u32) x6))), (7, .one (.lf (.val true (.int .i64) x7)))], ⟨[some ⟨70, (.int .u32), true, true, x5⟩], []⟩⟩
noncomputable def fulcrumref01_twice.b6 (f6 : (List Int) → (List Int) → Int → Int → Option ((List Int) × Unit)) (x0 : (List Int)) (x5 : (List Int)) (x6 : Int) (x7 : Int) : Option ((List Int) × Unit) :=
  let v1 := (List.length x0 : Int)
  let v2 := decide (x7 < v1)
  bif v2 then (bif decide (0 ≤ x7) && decide (x7 < (List.length x0 : Int)) then (let v3 := List.getD x0 (Int.toNat x7) (0 : Int)
  bif decide ((1 : Int) < 0) then none
  else (let v4 := shlI .u32 v3 (1 : Int)
  let v5 := bitsOp .or .u32 v4 x6
  bif decide (0 ≤ x7) && decide (x7 < (List.length x5 : Int)) then (let v6 := List.set x5 (Int.toNat x7) v5
  bif decide (0 ≤ x7) && decide (x7 < (List.length x0 : Int)) then (let v7 := List.getD x0 (Int.toNat x7) (0 : Int)
  bif decide ((31 : Int) < 0) then none
  else (let v8 := shrI .u32 v7 (31 : Int)
  let v9 := IntKind.i64.wrap (x7 + (1 : Int))
  f6 x0 v6 v8 v9))
  else none)
  else none))
  else none)
  else (let v10 := (List.length x0 : Int)
  bif decide (0 ≤ v10) && decide (v10 < (List.length x5 : Int)) then (let v11 := List.set x5 (Int.toNat v10) x6
  (fulcrumref01_Norm.F (v11, ())).bind fun y12 =>
  some (y12.1, ()))
  else none)
noncomputable def fulcrumref01_twice.e (f6 : (List Int) → (List Int) → Int → Int → Option ((List Int) × Unit)) (a0 : (List Int)) (a1 : Bool) : Option ((List Int) × Unit) :=
  let v1 := (List.length a0 : Int)
  let v2 := IntKind.i64.wrap (v1 + (1 : Int))
  bif decide (0 ≤ v2) && (decide (v2 ≤ v2) && (decide (Int.toNat v2 * 4 ≤ 281474976710656) && Nat.blt 0 4)) then (let v3 := List.replicate (Int.toNat v2) (0 : Int)
  bif a1 then (f6 a0 v3 (1 : Int) (0 : Int))
  else (f6 a0 v3 (0 : Int) (0 : Int)))
  else none
noncomputable def fulcrumref01_twice.L6 (k : Nat) (x0 : (List Int)) (x5 : (List Int)) (x6 : Int) (x7 : Int) : Option ((List Int) × Unit) := heads (fulcrumref01_twice.spec.env fulcrumref01_twice.cals T Try.f106) (Func.pts Try.f106) k 6 (fulcrumref01_twice.m6 x0 x5 x6 x7)
theorem fulcrumref01_twice.L6_succ (k : Nat) (x0 : (List Int)) (x5 : (List Int)) (x6 : Int) (x7 : Int) : fulcrumref01_twice.L6 (k + 1) x0 x5 x6 x7 = fulcrumref01_twice.b6 (fulcrumref01_twice.L6 k) x0 x5 x6 x7 := by kernel_rfl
theorem fulcrumref01_twice.L6_zero (x0 : (List Int)) (x5 : (List Int)) (x6 : Int) (x7 : Int) : fulcrumref01_twice.L6 0 x0 x5 x6 x7 = none := by kernel_rfl
theorem fulcrumref01_twice.eval (k : Nat) (a0 : (List Int)) (a1 : Bool) : evalF fulcrumref01_twice.spec fulcrumref01_twice.cals T Try.f106 k (a0, a1, ()) = fulcrumref01_twice.e (fulcrumref01_twice.L6 k) a0 a1 := by kernel_rfl
theorem fulcrumref01_twice.F_eq (a0 : (List Int)) (a1 : Bool) : fulcrumref01_twice.F (a0, a1, ()) = limF fulcrumref01_twice.spec fulcrumref01_twice.cals T Try.f106 (a0, a1, ()) := by kernel_rfl
theorem fulcrumref01_twice.of (k : Nat) (a0 : (List Int)) (a1 : Bool) {y : (List Int) × Unit} (h : fulcrumref01_twice.e (fulcrumref01_twice.L6 k) a0 a1 = some y) : fulcrumref01_twice.F (a0, a1, ()) = some y := (fulcrumref01_twice.F_eq a0 a1).trans (limF_of (q := fulcrumref01_twice.spec) (C := fulcrumref01_twice.cals) (T := T) (f := Try.f106) (x := (a0, a1, ())) (y := y) k ((fulcrumref01_twice.eval k a0 a1).trans h))

/-! ### fulcrum/fulcrumref01.Bit -/
def fulcrumref01_Bit.spec : Spec := ⟨[(false, (.sl 70 (.int .u32))), (false, (.int .i64))], [(false, .bool)], .own, fun j => match j with  | _ => []⟩
noncomputable def fulcrumref01_Bit.cals : Cals := Cals.nil
noncomputable def fulcrumref01_Bit.sig : Sig := fulcrumref01_Bit.spec.sig fulcrumref01_Bit.cals T Try.f107
noncomputable def fulcrumref01_Bit.F (x : (List Int) × Int × Unit) : Option (Bool × Unit) := limF fulcrumref01_Bit.spec fulcrumref01_Bit.cals T Try.f107 x
theorem fulcrumref01_Bit.ck : CalsOk Try.prog fulcrumref01_Bit.cals := CalsOk.nil
theorem fulcrumref01_Bit.cal : CalOk Try.prog 107 fulcrumref01_Bit.sig := calOk_lim' tabOk fulcrumref01_Bit.ck mix Try.func107 (by kernel_rfl) (by kernel_rfl) (by kernel_rfl) (by kernel_rfl)
noncomputable def fulcrumref01_Bit.e  (a0 : (List Int)) (a1 : Int) : Option (Bool × Unit) :=
  let v1 := decide (a1 ≥ (0 : Int))
  bif v1 then (bif decide ((32 : Int) = 0) then none
  else (let v2 := IntKind.i64.wrap (Int.tdiv a1 (32 : Int))
  let v3 := (List.length a0 : Int)
  let v4 := decide (v2 < v3)
  bif v4 then (bif decide ((32 : Int) = 0) then none
  else (let v5 := IntKind.i64.wrap (Int.tdiv a1 (32 : Int))
  bif decide (0 ≤ v5) && decide (v5 < (List.length a0 : Int)) then (let v6 := List.getD a0 (Int.toNat v5) (0 : Int)
  bif decide ((32 : Int) = 0) then none
  else (let v7 := Int.tmod a1 (32 : Int)
  let v8 := IntKind.u64.wrap v7
  bif decide (v8 < 0) then none
  else (let v9 := shrI .u32 v6 v8
  let v10 := bitsOp .and .u32 v9 (1 : Int)
  let v11 := (v10 == (1 : Int))
  some (v11, ()))))
  else none))
  else (some (false, ()))))
  else (some (false, ()))
theorem fulcrumref01_Bit.eval (k : Nat) (a0 : (List Int)) (a1 : Int) : evalF fulcrumref01_Bit.spec fulcrumref01_Bit.cals T Try.f107 k (a0, a1, ()) = fulcrumref01_Bit.e  a0 a1 := by kernel_rfl
theorem fulcrumref01_Bit.F_eq (a0 : (List Int)) (a1 : Int) : fulcrumref01_Bit.F (a0, a1, ()) = limF fulcrumref01_Bit.spec fulcrumref01_Bit.cals T Try.f107 (a0, a1, ()) := by kernel_rfl
theorem fulcrumref01_Bit.of (k : Nat) (a0 : (List Int)) (a1 : Int) {y : Bool × Unit} (h : fulcrumref01_Bit.e  a0 a1 = some y) : fulcrumref01_Bit.F (a0, a1, ()) = some y := (fulcrumref01_Bit.F_eq a0 a1).trans (limF_of (q := fulcrumref01_Bit.spec) (C := fulcrumref01_Bit.cals) (T := T) (f := Try.f107) (x := (a0, a1, ())) (y := y) k ((fulcrumref01_Bit.eval k a0 a1).trans h))

/-! ### fulcrum/fulcrumref01.Div -/
def fulcrumref01_Div.spec : Spec := ⟨[(false, (.sl 70 (.int .u32))), (false, (.sl 70 (.int .u32)))], [(false, (.sl 70 (.int .u32))), (false, (.sl 70 (.int .u32))), (false, (.int .i64))], .own, fun j => match j with | 11 => [(0, .lf (.z 70 (.int .u32) true)), (1, .lf (.o 70 (.int .u32) true)), (7, .lf (.o 70 (.int .u32) true)), (9, .lf (.o 70 (.int .u32) true)), (10, .lf (.v true))] | _ => []⟩
noncomputable def fulcrumref01_Div.cals : Cals := (Cals.cons 77 fulcrumref01_Norm.sig (Cals.cons 107 fulcrumref01_Bit.sig (Cals.cons 106 fulcrumref01_twice.sig (Cals.cons 83 fulcrumref01_Cmp.sig (Cals.cons 84 fulcrumref01_Sub.sig Cals.nil)))))
noncomputable def fulcrumref01_Div.sig : Sig := fulcrumref01_Div.spec.sig fulcrumref01_Div.cals T Try.f90
noncomputable def fulcrumref01_Div.F (x : (List Int) × (List Int) × Unit) : Option ((List Int) × (List Int) × Int × Unit) := limF fulcrumref01_Div.spec fulcrumref01_Div.cals T Try.f90 x
theorem fulcrumref01_Div.ck : CalsOk Try.prog fulcrumref01_Div.cals := (CalsOk.cons fulcrumref01_Norm.cal (CalsOk.cons fulcrumref01_Bit.cal (CalsOk.cons fulcrumref01_twice.cal (CalsOk.cons fulcrumref01_Cmp.cal (CalsOk.cons fulcrumref01_Sub.cal CalsOk.nil)))))
theorem fulcrumref01_Div.cal : CalOk Try.prog 90 fulcrumref01_Div.sig := calOk_lim' tabOk fulcrumref01_Div.ck mix Try.func90 (by kernel_rfl) (by kernel_rfl) (by kernel_rfl) (by kernel_rfl)
def fulcrumref01_Div.m11 (x0 : (List Int)) (x1 : (List Int)) (x7 : (List Int)) (x9 : (List Int)) (x10 : Int) : S := ⟨[(0, .one (.lf (.val true (.sl 70 (.int .u32)) x0))), (1, .one (.lf (.own 0))), (7, .one (.lf (.own 1))), (9, .one (.lf (.own 2))), (10, .one (.lf (.val true (.int .i64) x10)))], ⟨[some ⟨70, (.int .u32), true, true, x1⟩, some ⟨70, (.int .u32), true, true, x7⟩, some ⟨70, (.int .u32), true, true, x9⟩], []⟩⟩
noncomputable def fulcrumref01_Div.b11 (f11 : (List Int) → (List Int) → (List Int) → (List Int) → Int → Option ((List Int) × (List Int) × Int × Unit)) (x0 : (List Int)) (x1 : (List Int)) (x7 : (List Int)) (x9 : (List Int)) (x10 : Int) : Option ((List Int) × (List Int) × Int × Unit) :=
  let v1 := decide (x10 ≥ (0 : Int))
  bif v1 then ((fulcrumref01_Bit.F (x0, x10, ())).bind fun y2 =>
  (fulcrumref01_twice.F (x9, y2.1, ())).bind fun y3 =>
  (fulcrumref01_Cmp.F (y3.1, x1, ())).bind fun y4 =>
  let v5 := decide (y4.1 ≥ (0 : Int))
  bif v5 then ((fulcrumref01_Sub.F (y3.1, x1, ())).bind fun y6 =>
  bif decide ((32 : Int) = 0) then none
  else (let v7 := IntKind.i64.wrap (Int.tdiv x10 (32 : Int))
  bif decide (0 ≤ v7) && decide (v7 < (List.length x7 : Int)) then (let v8 := List.getD x7 (Int.toNat v7) (0 : Int)
  bif decide ((32 : Int) = 0) then none
  else (let v9 := Int.tmod x10 (32 : Int)
  let v10 := IntKind.u64.wrap v9
  bif decide (v10 < 0) then none
  else (let v11 := shlI .u32 (1 : Int) v10
  let v12 := bitsOp .or .u32 v8 v11
  bif decide (0 ≤ v7) && decide (v7 < (List.length x7 : Int)) then (let v13 := List.set x7 (Int.toNat v7) v12
  let v14 := IntKind.i64.wrap (x10 - (1 : Int))
  f11 x0 x1 v13 y6.1 v14)
  else none)))
  else none))
  else (let v15 := IntKind.i64.wrap (x10 - (1 : Int))
  f11 x0 x1 x7 y3.1 v15))
  else ((fulcrumref01_Norm.F (x7, ())).bind fun y16 =>
  some (y16.1, x9, (0 : Int), ()))
noncomputable def fulcrumref01_Div.e (f11 : (List Int) → (List Int) → (List Int) → (List Int) → Int → Option ((List Int) × (List Int) × Int × Unit)) (a0 : (List Int)) (a1 : (List Int)) : Option ((List Int) × (List Int) × Int × Unit) :=
  (fulcrumref01_Norm.F (a1, ())).bind fun y1 =>
  let v2 := (List.length y1.1 : Int)
  let v3 := (v2 == (0 : Int))
  bif v3 then (some (([] : List Int), ([] : List Int), (11 : Int), ()))
  else ((fulcrumref01_Norm.F (a0, ())).bind fun y4 =>
  let v5 := (List.length y4.1 : Int)
  bif decide (0 ≤ v5) && (decide (v5 ≤ v5) && (decide (Int.toNat v5 * 4 ≤ 281474976710656) && Nat.blt 0 4)) then (let v6 := List.replicate (Int.toNat v5) (0 : Int)
  let v7 := (List.length y1.1 : Int)
  let v8 := IntKind.i64.wrap (v7 - (1 : Int))
  let v9 := (List.length y4.1 : Int)
  let v10 := decide (v8 > v9)
  bif v10 then (let v11 := (List.length y4.1 : Int)
  let v12 := (List.length y4.1 : Int)
  let v13 := IntKind.i64.wrap (v12 - v11)
  bif decide (0 ≤ v13) && decide (v13 ≤ (List.length y4.1 : Int)) then (let v14 := List.drop (Int.toNat v13) y4.1
  (fulcrumref01_Norm.F (v14, ())).bind fun y15 =>
  let v16 := (List.length y4.1 : Int)
  let v17 := IntKind.i64.wrap (v16 - v11)
  let v18 := IntKind.i64.wrap ((32 : Int) * v17)
  let v19 := IntKind.i64.wrap (v18 - (1 : Int))
  f11 y4.1 y1.1 v6 y15.1 v19)
  else none)
  else (let v20 := (List.length y4.1 : Int)
  let v21 := IntKind.i64.wrap (v20 - v8)
  bif decide (0 ≤ v21) && decide (v21 ≤ (List.length y4.1 : Int)) then (let v22 := List.drop (Int.toNat v21) y4.1
  (fulcrumref01_Norm.F (v22, ())).bind fun y23 =>
  let v24 := (List.length y4.1 : Int)
  let v25 := IntKind.i64.wrap (v24 - v8)
  let v26 := IntKind.i64.wrap ((32 : Int) * v25)
  let v27 := IntKind.i64.wrap (v26 - (1 : Int))
  f11 y4.1 y1.1 v6 y23.1 v27)
  else none))
  else none)
noncomputable def fulcrumref01_Div.L11 (k : Nat) (x0 : (List Int)) (x1 : (List Int)) (x7 : (List Int)) (x9 : (List Int)) (x10 : Int) : Option ((List Int) × (List Int) × Int × Unit) := heads (fulcrumref01_Div.spec.env fulcrumref01_Div.cals T Try.f90) (Func.pts Try.f90) k 11 (fulcrumref01_Div.m11 x0 x1 x7 x9 x10)
theorem fulcrumref01_Div.L11_succ (k : Nat) (x0 : (List Int)) (x1 : (List Int)) (x7 : (List Int)) (x9 : (List Int)) (x10 : Int) : fulcrumref01_Div.L11 (k + 1) x0 x1 x7 x9 x10 = fulcrumref01_Div.b11 (fulcrumref01_Div.L11 k) x0 x1 x7 x9 x10 := by kernel_rfl
theorem fulcrumref01_Div.L11_zero (x0 : (List Int)) (x1 : (List Int)) (x7 : (List Int)) (x9 : (List Int)) (x10 : Int) : fulcrumref01_Div.L11 0 x0 x1 x7 x9 x10 = none := by kernel_rfl
theorem fulcrumref01_Div.eval (k : Nat) (a0 : (List Int)) (a1 : (List Int)) : evalF fulcrumref01_Div.spec fulcrumref01_Div.cals T Try.f90 k (a0, a1, ()) = fulcrumref01_Div.e (fulcrumref01_Div.L11 k) a0 a1 := by kernel_rfl
theorem fulcrumref01_Div.F_eq (a0 : (List Int)) (a1 : (List Int)) : fulcrumref01_Div.F (a0, a1, ()) = limF fulcrumref01_Div.spec fulcrumref01_Div.cals T Try.f90 (a0, a1, ()) := by kernel_rfl
theorem fulcrumref01_Div.of (k : Nat) (a0 : (List Int)) (a1 : (List Int)) {y : (List Int) × (List Int) × Int × Unit} (h : fulcrumref01_Div.e (fulcrumref01_Div.L11 k) a0 a1 = some y) : fulcrumref01_Div.F (a0, a1, ()) = some y := (fulcrumref01_Div.F_eq a0 a1).trans (limF_of (q := fulcrumref01_Div.spec) (C := fulcrumref01_Div.cals) (T := T) (f := Try.f90) (x := (a0, a1, ())) (y := y) k ((fulcrumref01_Div.eval k a0 a1).trans h))

/-! ### fulcrum/fulcrumref02.Quo -/
def fulcrumref02_Quo.spec : Spec := ⟨[(true, (.prod .bool (.sl 70 (.int .u32)))), (true, (.prod .bool (.sl 70 (.int .u32))))], [(true, (.prod .bool (.sl 70 (.int .u32)))), (true, (.prod .bool (.sl 70 (.int .u32)))), (false, (.int .i64))], .own, fun j => match j with  | _ => []⟩
noncomputable def fulcrumref02_Quo.cals : Cals := (Cals.cons 30 fulcrumref02_Sign.sig (Cals.cons 90 fulcrumref01_Div.sig (Cals.cons 74 fulcrumref02_made.sig Cals.nil)))
noncomputable def fulcrumref02_Quo.sig : Sig := fulcrumref02_Quo.spec.sig fulcrumref02_Quo.cals T Try.f44
noncomputable def fulcrumref02_Quo.F (x : (Bool × (List Int)) × (Bool × (List Int)) × Unit) : Option ((Bool × (List Int)) × (Bool × (List Int)) × Int × Unit) := limF fulcrumref02_Quo.spec fulcrumref02_Quo.cals T Try.f44 x
theorem fulcrumref02_Quo.ck : CalsOk Try.prog fulcrumref02_Quo.cals := (CalsOk.cons fulcrumref02_Sign.cal (CalsOk.cons fulcrumref01_Div.cal (CalsOk.cons fulcrumref02_made.cal CalsOk.nil)))
theorem fulcrumref02_Quo.cal : CalOk Try.prog 44 fulcrumref02_Quo.sig := calOk_lim' tabOk fulcrumref02_Quo.ck mix Try.func44 (by kernel_rfl) (by kernel_rfl) (by kernel_rfl) (by kernel_rfl)
noncomputable def fulcrumref02_Quo.e  (a0 : (Bool × (List Int))) (a1 : (Bool × (List Int))) : Option ((Bool × (List Int)) × (Bool × (List Int)) × Int × Unit) :=
  (fulcrumref02_Sign.F ((a1.1, a1.2), ())).bind fun y1 =>
  let v2 := (y1.1 == (0 : Int))
  bif v2 then (some ((false, ([] : List Int)), (false, ([] : List Int)), (11 : Int), ()))
  else ((fulcrumref01_Div.F (a0.2, a1.2, ())).bind fun y3 =>
  let v4 := (!(a0.1 == a1.1))
  (fulcrumref02_made.F (v4, y3.1, ())).bind fun y5 =>
  (fulcrumref02_made.F (a0.1, y3.2.1, ())).bind fun y6 =>
  some ((y5.1.1, y5.1.2), (y6.1.1, y6.1.2), (0 : Int), ()))
theorem fulcrumref02_Quo.eval (k : Nat) (a0 : (Bool × (List Int))) (a1 : (Bool × (List Int))) : evalF fulcrumref02_Quo.spec fulcrumref02_Quo.cals T Try.f44 k (a0, a1, ()) = fulcrumref02_Quo.e  a0 a1 := by kernel_rfl
theorem fulcrumref02_Quo.F_eq (a0 : (Bool × (List Int))) (a1 : (Bool × (List Int))) : fulcrumref02_Quo.F (a0, a1, ()) = limF fulcrumref02_Quo.spec fulcrumref02_Quo.cals T Try.f44 (a0, a1, ()) := by kernel_rfl
theorem fulcrumref02_Quo.of (k : Nat) (a0 : (Bool × (List Int))) (a1 : (Bool × (List Int))) {y : (Bool × (List Int)) × (Bool × (List Int)) × Int × Unit} (h : fulcrumref02_Quo.e  a0 a1 = some y) : fulcrumref02_Quo.F (a0, a1, ()) = some y := (fulcrumref02_Quo.F_eq a0 a1).trans (limF_of (q := fulcrumref02_Quo.spec) (C := fulcrumref02_Quo.cals) (T := T) (f := Try.f44) (x := (a0, a1, ())) (y := y) k ((fulcrumref02_Quo.eval k a0 a1).trans h))

/-! ### fulcrum/fulcrumref02.Floor -/
def fulcrumref02_Floor.spec : Spec := ⟨[(true, (.prod .bool (.sl 70 (.int .u32)))), (true, (.prod .bool (.sl 70 (.int .u32))))], [(true, (.prod .bool (.sl 70 (.int .u32)))), (true, (.prod .bool (.sl 70 (.int .u32)))), (false, (.int .i64))], .own, fun j => match j with  | _ => []⟩
noncomputable def fulcrumref02_Floor.cals : Cals := (Cals.cons 44 fulcrumref02_Quo.sig (Cals.cons 30 fulcrumref02_Sign.sig (Cals.cons 21 fulcrumref02_Of.sig (Cals.cons 34 fulcrumref02_Sub.sig (Cals.cons 32 fulcrumref02_Add.sig Cals.nil)))))
noncomputable def fulcrumref02_Floor.sig : Sig := fulcrumref02_Floor.spec.sig fulcrumref02_Floor.cals T Try.f46
noncomputable def fulcrumref02_Floor.F (x : (Bool × (List Int)) × (Bool × (List Int)) × Unit) : Option ((Bool × (List Int)) × (Bool × (List Int)) × Int × Unit) := limF fulcrumref02_Floor.spec fulcrumref02_Floor.cals T Try.f46 x
theorem fulcrumref02_Floor.ck : CalsOk Try.prog fulcrumref02_Floor.cals := (CalsOk.cons fulcrumref02_Quo.cal (CalsOk.cons fulcrumref02_Sign.cal (CalsOk.cons fulcrumref02_Of.cal (CalsOk.cons fulcrumref02_Sub.cal (CalsOk.cons fulcrumref02_Add.cal CalsOk.nil)))))
theorem fulcrumref02_Floor.cal : CalOk Try.prog 46 fulcrumref02_Floor.sig := calOk_lim' tabOk fulcrumref02_Floor.ck mix Try.func46 (by kernel_rfl) (by kernel_rfl) (by kernel_rfl) (by kernel_rfl)
noncomputable def fulcrumref02_Floor.e  (a0 : (Bool × (List Int))) (a1 : (Bool × (List Int))) : Option ((Bool × (List Int)) × (Bool × (List Int)) × Int × Unit) :=
  (fulcrumref02_Quo.F ((a0.1, a0.2), (a1.1, a1.2), ())).bind fun y1 =>
  let v2 := (y1.2.2.1 == (0 : Int))
  bif v2 then ((fulcrumref02_Sign.F ((y1.2.1.1, y1.2.1.2), ())).bind fun y3 =>
  let v4 := (y3.1 != (0 : Int))
  bif v4 then ((fulcrumref02_Sign.F ((y1.2.1.1, y1.2.1.2), ())).bind fun y5 =>
  (fulcrumref02_Sign.F ((a1.1, a1.2), ())).bind fun y6 =>
  let v7 := (y5.1 != y6.1)
  bif v7 then ((fulcrumref02_Of.F ((1 : Int), ())).bind fun y8 =>
  (fulcrumref02_Sub.F ((y1.1.1, y1.1.2), (y8.1.1, y8.1.2), ())).bind fun y9 =>
  (fulcrumref02_Add.F ((y1.2.1.1, y1.2.1.2), (a1.1, a1.2), ())).bind fun y10 =>
  some ((y9.1.1, y9.1.2), (y10.1.1, y10.1.2), (0 : Int), ()))
  else (some ((y1.1.1, y1.1.2), (y1.2.1.1, y1.2.1.2), y1.2.2.1, ())))
  else (some ((y1.1.1, y1.1.2), (y1.2.1.1, y1.2.1.2), y1.2.2.1, ())))
  else (some ((y1.1.1, y1.1.2), (y1.2.1.1, y1.2.1.2), y1.2.2.1, ()))
theorem fulcrumref02_Floor.eval (k : Nat) (a0 : (Bool × (List Int))) (a1 : (Bool × (List Int))) : evalF fulcrumref02_Floor.spec fulcrumref02_Floor.cals T Try.f46 k (a0, a1, ()) = fulcrumref02_Floor.e  a0 a1 := by kernel_rfl
theorem fulcrumref02_Floor.F_eq (a0 : (Bool × (List Int))) (a1 : (Bool × (List Int))) : fulcrumref02_Floor.F (a0, a1, ()) = limF fulcrumref02_Floor.spec fulcrumref02_Floor.cals T Try.f46 (a0, a1, ()) := by kernel_rfl
theorem fulcrumref02_Floor.of (k : Nat) (a0 : (Bool × (List Int))) (a1 : (Bool × (List Int))) {y : (Bool × (List Int)) × (Bool × (List Int)) × Int × Unit} (h : fulcrumref02_Floor.e  a0 a1 = some y) : fulcrumref02_Floor.F (a0, a1, ()) = some y := (fulcrumref02_Floor.F_eq a0 a1).trans (limF_of (q := fulcrumref02_Floor.spec) (C := fulcrumref02_Floor.cals) (T := T) (f := Try.f46) (x := (a0, a1, ())) (y := y) k ((fulcrumref02_Floor.eval k a0 a1).trans h))

/-! ### fulcrum/fulcrumref01.Shift -/
def fulcrumref01_Shift.spec : Spec := ⟨[(false, (.sl 70 (.int .u32))), (false, (.int .i64))], [(false, (.sl 70 (.int .u32))), (false, (.int .i64))], .own, fun j => match j with | 15 => [(0, .lf (.z 70 (.int .u32) false)), (6, .lf (.v true)), (7, .lf (.o 70 (.int .u32) true)), (8, .lf (.v true)), (9, .lf (.v true)), (10, .lf (.v true))] | _ => []⟩
noncomputable def fulcrumref01_Shift.cals : Cals := (Cals.cons 77 fulcrumref01_Norm.sig Cals.nil)
noncomputable def fulcrumref01_Shift.sig : Sig := fulcrumref01_Shift.spec.sig fulcrumref01_Shift.cals T Try.f88
noncomputable def fulcrumref01_Shift.F (x : (List Int) × Int × Unit) : Option ((List Int) × Int × Unit) := limF fulcrumref01_Shift.spec fulcrumref01_Shift.cals T Try.f88 x
theorem fulcrumref01_Shift.ck : CalsOk Try.prog fulcrumref01_Shift.cals := (CalsOk.cons fulcrumref01_Norm.cal CalsOk.nil)
theorem fulcrumref01_Shift.cal : CalOk Try.prog 88 fulcrumref01_Shift.sig := calOk_lim' tabOk fulcrumref01_Shift.ck mix Try.func88 (by kernel_rfl) (by kernel_rfl) (by kernel_rfl) (by kernel_rfl)
def fulcrumref01_Shift.m15 (x0 : (List Int)) (x6 : Int) (x7 : (List Int)) (x8 : Int) (x9 : Int) (x10 : Int) : S := ⟨[(0, .one (.lf (.val false (.sl 70 (.int .u32)) x0))), (6, .one (.lf (.val true (.int .i64) x6))), (7, .one (.lf (.own 0))), (8, .one (.lf (.val true (.int .i64) x8))), (9, .one (.lf (.val true (.int .i64) x9))), (10, .one (.lf (.val true (.int .i64) x10)))], ⟨[some ⟨70, (.int .u32), true, true, x7⟩], []⟩⟩
noncomputable def fulcrumref01_Shift.b15 (f15 : (List Int) → Int → (List Int) → Int → Int → Int → Option ((List Int) × Int × Unit)) (x0 : (List Int)) (x6 : Int) (x7 : (List Int)) (x8 : Int) (x9 : Int) (x10 : Int) : Option ((List Int) × Int × Unit) :=
  let v1 := (List.length x0 : Int)
  let v2 := decide (x10 < v1)
  bif v2 then (bif decide (0 ≤ x10) && decide (x10 < (List.length x0 : Int)) then (let v3 := List.getD x0 (Int.toNat x10) (0 : Int)
  let v4 := IntKind.u64.wrap v3
  let v5 := IntKind.u64.wrap x9
  bif decide (v5 < 0) then none
  else (let v6 := shlI .u64 v4 v5
  let v7 := IntKind.i64.wrap (x10 + x8)
  let v8 := decide (v7 ≥ (0 : Int))
  bif v8 then (let v9 := IntKind.i64.wrap (x10 + x8)
  let v10 := decide (v9 < x6)
  bif v10 then (let v11 := IntKind.i64.wrap (x10 + x8)
  bif decide (0 ≤ v11) && decide (v11 < (List.length x7 : Int)) then (let v12 := List.getD x7 (Int.toNat v11) (0 : Int)
  let v13 := IntKind.u32.wrap v6
  let v14 := bitsOp .or .u32 v12 v13
  bif decide (0 ≤ v11) && decide (v11 < (List.length x7 : Int)) then (let v15 := List.set x7 (Int.toNat v11) v14
  let v16 := IntKind.i64.wrap (x10 + x8)
  let v17 := IntKind.i64.wrap (v16 + (1 : Int))
  let v18 := decide (v17 ≥ (0 : Int))
  bif v18 then (let v19 := IntKind.i64.wrap (x10 + x8)
  let v20 := IntKind.i64.wrap (v19 + (1 : Int))
  let v21 := decide (v20 < x6)
  bif v21 then (let v22 := IntKind.i64.wrap (x10 + x8)
  let v23 := IntKind.i64.wrap (v22 + (1 : Int))
  bif decide (0 ≤ v23) && decide (v23 < (List.length v15 : Int)) then (let v24 := List.getD v15 (Int.toNat v23) (0 : Int)
  bif decide ((32 : Int) < 0) then none
  else (let v25 := shrI .u64 v6 (32 : Int)
  let v26 := IntKind.u32.wrap v25
  let v27 := bitsOp .or .u32 v24 v26
  bif decide (0 ≤ v23) && decide (v23 < (List.length v15 : Int)) then (let v28 := List.set v15 (Int.toNat v23) v27
  let v29 := IntKind.i64.wrap (x10 + (1 : Int))
  f15 x0 x6 v28 x8 x9 v29)
  else none))
  else none)
  else (let v30 := IntKind.i64.wrap (x10 + (1 : Int))
  f15 x0 x6 v15 x8 x9 v30))
  else (let v31 := IntKind.i64.wrap (x10 + (1 : Int))
  f15 x0 x6 v15 x8 x9 v31))
  else none)
  else none)
  else (let v32 := IntKind.i64.wrap (x10 + x8)
  let v33 := IntKind.i64.wrap (v32 + (1 : Int))
  let v34 := decide (v33 ≥ (0 : Int))
  bif v34 then (let v35 := IntKind.i64.wrap (x10 + x8)
  let v36 := IntKind.i64.wrap (v35 + (1 : Int))
  let v37 := decide (v36 < x6)
  bif v37 then (let v38 := IntKind.i64.wrap (x10 + x8)
  let v39 := IntKind.i64.wrap (v38 + (1 : Int))
  bif decide (0 ≤ v39) && decide (v39 < (List.length x7 : Int)) then (let v40 := List.getD x7 (Int.toNat v39) (0 : Int)
  bif decide ((32 : Int) < 0) then none
  else (let v41 := shrI .u64 v6 (32 : Int)
  let v42 := IntKind.u32.wrap v41
  let v43 := bitsOp .or .u32 v40 v42
  bif decide (0 ≤ v39) && decide (v39 < (List.length x7 : Int)) then (let v44 := List.set x7 (Int.toNat v39) v43
  let v45 := IntKind.i64.wrap (x10 + (1 : Int))
  f15 x0 x6 v44 x8 x9 v45)
  else none))
  else none)
  else (let v46 := IntKind.i64.wrap (x10 + (1 : Int))
  f15 x0 x6 x7 x8 x9 v46))
  else (let v47 := IntKind.i64.wrap (x10 + (1 : Int))
  f15 x0 x6 x7 x8 x9 v47)))
  else (let v48 := IntKind.i64.wrap (x10 + x8)
  let v49 := IntKind.i64.wrap (v48 + (1 : Int))
  let v50 := decide (v49 ≥ (0 : Int))
  bif v50 then (let v51 := IntKind.i64.wrap (x10 + x8)
  let v52 := IntKind.i64.wrap (v51 + (1 : Int))
  let v53 := decide (v52 < x6)
  bif v53 then (let v54 := IntKind.i64.wrap (x10 + x8)
  let v55 := IntKind.i64.wrap (v54 + (1 : Int))
  bif decide (0 ≤ v55) && decide (v55 < (List.length x7 : Int)) then (let v56 := List.getD x7 (Int.toNat v55) (0 : Int)
  bif decide ((32 : Int) < 0) then none
  else (let v57 := shrI .u64 v6 (32 : Int)
  let v58 := IntKind.u32.wrap v57
  let v59 := bitsOp .or .u32 v56 v58
  bif decide (0 ≤ v55) && decide (v55 < (List.length x7 : Int)) then (let v60 := List.set x7 (Int.toNat v55) v59
  let v61 := IntKind.i64.wrap (x10 + (1 : Int))
  f15 x0 x6 v60 x8 x9 v61)
  else none))
  else none)
  else (let v62 := IntKind.i64.wrap (x10 + (1 : Int))
  f15 x0 x6 x7 x8 x9 v62))
  else (let v63 := IntKind.i64.wrap (x10 + (1 : Int))
  f15 x0 x6 x7 x8 x9 v63))))
  else none)
  else ((fulcrumref01_Norm.F (x7, ())).bind fun y64 =>
  some (y64.1, (0 : Int), ()))
noncomputable def fulcrumref01_Shift.e (f15 : (List Int) → Int → (List Int) → Int → Int → Int → Option ((List Int) × Int × Unit)) (a0 : (List Int)) (a1 : Int) : Option ((List Int) × Int × Unit) :=
  let v1 := decide (a1 < (-1048576 : Int))
  bif v1 then (some (([] : List Int), (12 : Int), ()))
  else (let v2 := decide (a1 > (1048576 : Int))
  bif v2 then (some (([] : List Int), (12 : Int), ()))
  else ((fulcrumref01_Norm.F (a0, ())).bind fun y3 =>
  let v4 := (List.length y3.1 : Int)
  let v5 := (v4 == (0 : Int))
  bif v5 then (let v6 := ([] : List Int)
  some (v6, (0 : Int), ()))
  else (let v7 := (List.length a0 : Int)
  let v8 := decide (a1 > (0 : Int))
  bif v8 then (bif decide ((32 : Int) = 0) then none
  else (let v9 := IntKind.i64.wrap (Int.tdiv a1 (32 : Int))
  let v10 := IntKind.i64.wrap (v9 + (1 : Int))
  let v11 := IntKind.i64.wrap (v7 + v10)
  bif decide (0 ≤ v11) && (decide (v11 ≤ v11) && (decide (Int.toNat v11 * 4 ≤ 281474976710656) && Nat.blt 0 4)) then (let v12 := List.replicate (Int.toNat v11) (0 : Int)
  bif decide ((32 : Int) = 0) then none
  else (let v13 := IntKind.i64.wrap (Int.tdiv a1 (32 : Int))
  bif decide ((32 : Int) = 0) then none
  else (let v14 := Int.tmod a1 (32 : Int)
  let v15 := decide (v14 < (0 : Int))
  bif v15 then (let v16 := IntKind.i64.wrap (v13 - (1 : Int))
  let v17 := IntKind.i64.wrap (v14 + (32 : Int))
  f15 a0 v11 v12 v16 v17 (0 : Int))
  else (f15 a0 v11 v12 v13 v14 (0 : Int)))))
  else none))
  else (bif decide (0 ≤ v7) && (decide (v7 ≤ v7) && (decide (Int.toNat v7 * 4 ≤ 281474976710656) && Nat.blt 0 4)) then (let v18 := List.replicate (Int.toNat v7) (0 : Int)
  bif decide ((32 : Int) = 0) then none
  else (let v19 := IntKind.i64.wrap (Int.tdiv a1 (32 : Int))
  bif decide ((32 : Int) = 0) then none
  else (let v20 := Int.tmod a1 (32 : Int)
  let v21 := decide (v20 < (0 : Int))
  bif v21 then (let v22 := IntKind.i64.wrap (v19 - (1 : Int))
  let v23 := IntKind.i64.wrap (v20 + (32 : Int))
  f15 a0 v7 v18 v22 v23 (0 : Int))
  else (f15 a0 v7 v18 v19 v20 (0 : Int)))))
  else none))))
noncomputable def fulcrumref01_Shift.L15 (k : Nat) (x0 : (List Int)) (x6 : Int) (x7 : (List Int)) (x8 : Int) (x9 : Int) (x10 : Int) : Option ((List Int) × Int × Unit) := heads (fulcrumref01_Shift.spec.env fulcrumref01_Shift.cals T Try.f88) (Func.pts Try.f88) k 15 (fulcrumref01_Shift.m15 x0 x6 x7 x8 x9 x10)
theorem fulcrumref01_Shift.L15_succ (k : Nat) (x0 : (List Int)) (x6 : Int) (x7 : (List Int)) (x8 : Int) (x9 : Int) (x10 : Int) : fulcrumref01_Shift.L15 (k + 1) x0 x6 x7 x8 x9 x10 = fulcrumref01_Shift.b15 (fulcrumref01_Shift.L15 k) x0 x6 x7 x8 x9 x10 := by kernel_rfl
theorem fulcrumref01_Shift.L15_zero (x0 : (List Int)) (x6 : Int) (x7 : (List Int)) (x8 : Int) (x9 : Int) (x10 : Int) : fulcrumref01_Shift.L15 0 x0 x6 x7 x8 x9 x10 = none := by kernel_rfl
theorem fulcrumref01_Shift.eval (k : Nat) (a0 : (List Int)) (a1 : Int) : evalF fulcrumref01_Shift.spec fulcrumref01_Shift.cals T Try.f88 k (a0, a1, ()) = fulcrumref01_Shift.e (fulcrumref01_Shift.L15 k) a0 a1 := by kernel_rfl
theorem fulcrumref01_Shift.F_eq (a0 : (List Int)) (a1 : Int) : fulcrumref01_Shift.F (a0, a1, ()) = limF fulcrumref01_Shift.spec fulcrumref01_Shift.cals T Try.f88 (a0, a1, ()) := by kernel_rfl
theorem fulcrumref01_Shift.of (k : Nat) (a0 : (List Int)) (a1 : Int) {y : (List Int) × Int × Unit} (h : fulcrumref01_Shift.e (fulcrumref01_Shift.L15 k) a0 a1 = some y) : fulcrumref01_Shift.F (a0, a1, ()) = some y := (fulcrumref01_Shift.F_eq a0 a1).trans (limF_of (q := fulcrumref01_Shift.spec) (C := fulcrumref01_Shift.cals) (T := T) (f := Try.f88) (x := (a0, a1, ())) (y := y) k ((fulcrumref01_Shift.eval k a0 a1).trans h))

/-! ### fulcrum/fulcrumref02.Shift -/
def fulcrumref02_Shift.spec : Spec := ⟨[(true, (.prod .bool (.sl 70 (.int .u32)))), (false, (.int .i64))], [(true, (.prod .bool (.sl 70 (.int .u32)))), (false, (.int .i64))], .own, fun j => match j with  | _ => []⟩
noncomputable def fulcrumref02_Shift.cals : Cals := (Cals.cons 88 fulcrumref01_Shift.sig (Cals.cons 74 fulcrumref02_made.sig (Cals.cons 46 fulcrumref02_Floor.sig Cals.nil)))
noncomputable def fulcrumref02_Shift.sig : Sig := fulcrumref02_Shift.spec.sig fulcrumref02_Shift.cals T Try.f42
noncomputable def fulcrumref02_Shift.F (x : (Bool × (List Int)) × Int × Unit) : Option ((Bool × (List Int)) × Int × Unit) := limF fulcrumref02_Shift.spec fulcrumref02_Shift.cals T Try.f42 x
theorem fulcrumref02_Shift.ck : CalsOk Try.prog fulcrumref02_Shift.cals := (CalsOk.cons fulcrumref01_Shift.cal (CalsOk.cons fulcrumref02_made.cal (CalsOk.cons fulcrumref02_Floor.cal CalsOk.nil)))
theorem fulcrumref02_Shift.cal : CalOk Try.prog 42 fulcrumref02_Shift.sig := calOk_lim' tabOk fulcrumref02_Shift.ck mix Try.func42 (by kernel_rfl) (by kernel_rfl) (by kernel_rfl) (by kernel_rfl)
noncomputable def fulcrumref02_Shift.e  (a0 : (Bool × (List Int))) (a1 : Int) : Option ((Bool × (List Int)) × Int × Unit) :=
  let v1 := decide (a1 < (-1048576 : Int))
  bif v1 then (some ((false, ([] : List Int)), (12 : Int), ()))
  else (let v2 := decide (a1 > (1048576 : Int))
  bif v2 then (some ((false, ([] : List Int)), (12 : Int), ()))
  else (let v3 := decide (a1 ≥ (0 : Int))
  bif v3 then ((fulcrumref01_Shift.F (a0.2, a1, ())).bind fun y4 =>
  (fulcrumref02_made.F (a0.1, y4.1, ())).bind fun y5 =>
  some ((y5.1.1, y5.1.2), (0 : Int), ()))
  else (let v6 := ([(1 : Int)] : List Int)
  let v7 := IntKind.i64.wrap ((0 : Int) - a1)
  (fulcrumref01_Shift.F (v6, v7, ())).bind fun y8 =>
  (fulcrumref02_made.F (false, y8.1, ())).bind fun y9 =>
  (fulcrumref02_Floor.F ((a0.1, a0.2), (y9.1.1, y9.1.2), ())).bind fun y10 =>
  some ((y10.1.1, y10.1.2), (0 : Int), ()))))
theorem fulcrumref02_Shift.eval (k : Nat) (a0 : (Bool × (List Int))) (a1 : Int) : evalF fulcrumref02_Shift.spec fulcrumref02_Shift.cals T Try.f42 k (a0, a1, ()) = fulcrumref02_Shift.e  a0 a1 := by kernel_rfl
theorem fulcrumref02_Shift.F_eq (a0 : (Bool × (List Int))) (a1 : Int) : fulcrumref02_Shift.F (a0, a1, ()) = limF fulcrumref02_Shift.spec fulcrumref02_Shift.cals T Try.f42 (a0, a1, ()) := by kernel_rfl
theorem fulcrumref02_Shift.of (k : Nat) (a0 : (Bool × (List Int))) (a1 : Int) {y : (Bool × (List Int)) × Int × Unit} (h : fulcrumref02_Shift.e  a0 a1 = some y) : fulcrumref02_Shift.F (a0, a1, ()) = some y := (fulcrumref02_Shift.F_eq a0 a1).trans (limF_of (q := fulcrumref02_Shift.spec) (C := fulcrumref02_Shift.cals) (T := T) (f := Try.f42) (x := (a0, a1, ())) (y := y) k ((fulcrumref02_Shift.eval k a0 a1).trans h))

/-! ### fulcrum/fulcrumlaw02.WholeShifts -/
def fulcrumlaw02_WholeShifts.spec : Spec := ⟨[(true, (.prod .bool (.sl 70 (.int .u32)))), (false, (.int .i64))], [(false, .bool)], .own, fun j => match j with  | _ => []⟩
noncomputable def fulcrumlaw02_WholeShifts.cals : Cals := (Cals.cons 41 whole_Shift.sig (Cals.cons 42 fulcrumref02_Shift.sig (Cals.cons 19 fulcrumlaw02_same.sig Cals.nil)))
noncomputable def fulcrumlaw02_WholeShifts.sig : Sig := fulcrumlaw02_WholeShifts.spec.sig fulcrumlaw02_WholeShifts.cals T Try.f7
noncomputable def fulcrumlaw02_WholeShifts.F (x : (Bool × (List Int)) × Int × Unit) : Option (Bool × Unit) := limF fulcrumlaw02_WholeShifts.spec fulcrumlaw02_WholeShifts.cals T Try.f7 x
theorem fulcrumlaw02_WholeShifts.ck : CalsOk Try.prog fulcrumlaw02_WholeShifts.cals := (CalsOk.cons whole_Shift.cal (CalsOk.cons fulcrumref02_Shift.cal (CalsOk.cons fulcrumlaw02_same.cal CalsOk.nil)))
theorem fulcrumlaw02_WholeShifts.cal : CalOk Try.prog 7 fulcrumlaw02_WholeShifts.sig := calOk_lim' tabOk fulcrumlaw02_WholeShifts.ck mix Try.func7 (by kernel_rfl) (by kernel_rfl) (by kernel_rfl) (by kernel_rfl)
noncomputable def fulcrumlaw02_WholeShifts.e  (a0 : (Bool × (List Int))) (a1 : Int) : Option (Bool × Unit) :=
  (whole_Shift.F ((a0.1, a0.2), a1, ())).bind fun y1 =>
  (fulcrumref02_Shift.F ((a0.1, a0.2), a1, ())).bind fun y2 =>
  let v3 := (y1.2.1 == y2.2.1)
  bif v3 then ((fulcrumlaw02_same.F ((y1.1.1, y1.1.2), (y2.1.1, y2.1.2), ())).bind fun y4 =>
  some (y4.1, ()))
  else (some (false, ()))
theorem fulcrumlaw02_WholeShifts.eval (k : Nat) (a0 : (Bool × (List Int))) (a1 : Int) : evalF fulcrumlaw02_WholeShifts.spec fulcrumlaw02_WholeShifts.cals T Try.f7 k (a0, a1, ()) = fulcrumlaw02_WholeShifts.e  a0 a1 := by kernel_rfl
theorem fulcrumlaw02_WholeShifts.F_eq (a0 : (Bool × (List Int))) (a1 : Int) : fulcrumlaw02_WholeShifts.F (a0, a1, ()) = limF fulcrumlaw02_WholeShifts.spec fulcrumlaw02_WholeShifts.cals T Try.f7 (a0, a1, ()) := by kernel_rfl
theorem fulcrumlaw02_WholeShifts.of (k : Nat) (a0 : (Bool × (List Int))) (a1 : Int) {y : Bool × Unit} (h : fulcrumlaw02_WholeShifts.e  a0 a1 = some y) : fulcrumlaw02_WholeShifts.F (a0, a1, ()) = some y := (fulcrumlaw02_WholeShifts.F_eq a0 a1).trans (limF_of (q := fulcrumlaw02_WholeShifts.spec) (C := fulcrumlaw02_WholeShifts.cals) (T := T) (f := Try.f7) (x := (a0, a1, ())) (y := y) k ((fulcrumlaw02_WholeShifts.eval k a0 a1).trans h))

/-! ### math/bits.Div32 -/
def bits_Div32.spec : Spec := ⟨[(false, (.int .u32)), (false, (.int .u32)), (false, (.int .u32))], [(false, (.int .u32)), (false, (.int .u32))], .own, fun j => match j with  | _ => []⟩
noncomputable def bits_Div32.cals : Cals := Cals.nil
noncomputable def bits_Div32.sig : Sig := bits_Div32.spec.sig bits_Div32.cals T Try.f110
noncomputable def bits_Div32.F (x : Int × Int × Int × Unit) : Option (Int × Int × Unit) := limF bits_Div32.spec bits_Div32.cals T Try.f110 x
theorem bits_Div32.ck : CalsOk Try.prog bits_Div32.cals := CalsOk.nil
theorem bits_Div32.cal : CalOk Try.prog 110 bits_Div32.sig := calOk_lim' tabOk bits_Div32.ck mix Try.func110 (by kernel_rfl) (by kernel_rfl) (by kernel_rfl) (by kernel_rfl)
noncomputable def bits_Div32.e  (a0 : Int) (a1 : Int) (a2 : Int) : Option (Int × Int × Unit) :=
  let v1 := (a2 != (0 : Int))
  bif v1 then (let v2 := decide (a2 ≤ a0)
  bif v2 then (none)
  else (let v3 := IntKind.u64.wrap a0
  bif decide ((32 : Int) < 0) then none
  else (let v4 := shlI .u64 v3 (32 : Int)
  let v5 := IntKind.u64.wrap a1
  let v6 := bitsOp .or .u64 v4 v5
  let v7 := IntKind.u64.wrap a2
  bif decide (v7 = 0) then none
  else (let v8 := IntKind.u64.wrap (Int.tdiv v6 v7)
  let v9 := IntKind.u32.wrap v8
  let v10 := IntKind.u64.wrap a2
  bif decide (v10 = 0) then none
  else (let v11 := Int.tmod v6 v10
  let v12 := IntKind.u32.wrap v11
  some (v9, v12, ()))))))
  else (let v13 := IntKind.u64.wrap a0
  bif decide ((32 : Int) < 0) then none
  else (let v14 := shlI .u64 v13 (32 : Int)
  let v15 := IntKind.u64.wrap a1
  let v16 := bitsOp .or .u64 v14 v15
  let v17 := IntKind.u64.wrap a2
  bif decide (v17 = 0) then none
  else (let v18 := IntKind.u64.wrap (Int.tdiv v16 v17)
  let v19 := IntKind.u32.wrap v18
  let v20 := IntKind.u64.wrap a2
  bif decide (v20 = 0) then none
  else (let v21 := Int.tmod v16 v20
  let v22 := IntKind.u32.wrap v21
  some (v19, v22, ())))))
theorem bits_Div32.eval (k : Nat) (a0 : Int) (a1 : Int) (a2 : Int) : evalF bits_Div32.spec bits_Div32.cals T Try.f110 k (a0, a1, a2, ()) = bits_Div32.e  a0 a1 a2 := by kernel_rfl
theorem bits_Div32.F_eq (a0 : Int) (a1 : Int) (a2 : Int) : bits_Div32.F (a0, a1, a2, ()) = limF bits_Div32.spec bits_Div32.cals T Try.f110 (a0, a1, a2, ()) := by kernel_rfl
theorem bits_Div32.of (k : Nat) (a0 : Int) (a1 : Int) (a2 : Int) {y : Int × Int × Unit} (h : bits_Div32.e  a0 a1 a2 = some y) : bits_Div32.F (a0, a1, a2, ()) = some y := (bits_Div32.F_eq a0 a1 a2).trans (limF_of (q := bits_Div32.spec) (C := bits_Div32.cals) (T := T) (f := Try.f110) (x := (a0, a1, a2, ())) (y := y) k ((bits_Div32.eval k a0 a1 a2).trans h))

/-! ### fulcrum/nat.short -/
def nat_short.spec : Spec := ⟨[(false, (.sl 70 (.int .u32))), (false, (.int .u32))], [(false, (.sl 70 (.int .u32))), (false, (.int .u32))], .own, fun j => match j with | 4 => [(0, .lf (.z 70 (.int .u32) false)), (1, .lf (.v false)), (6, .lf (.o 70 (.int .u32) true)), (7, .lf (.v true)), (8, .lf (.v true))] | _ => []⟩
noncomputable def nat_short.cals : Cals := (Cals.cons 110 bits_Div32.sig Cals.nil)
noncomputable def nat_short.sig : Sig := nat_short.spec.sig nat_short.cals T Try.f104
noncomputable def nat_short.F (x : (List Int) × Int × Unit) : Option ((List Int) × Int × Unit) := limF nat_short.spec nat_short.cals T Try.f104 x
theorem nat_short.ck : CalsOk Try.prog nat_short.cals := (CalsOk.cons bits_Div32.cal CalsOk.nil)
theorem nat_short.cal : CalOk Try.prog 104 nat_short.sig := calOk_lim' tabOk nat_short.ck mix Try.func104 (by kernel_rfl) (by kernel_rfl) (by kernel_rfl) (by kernel_rfl)
def nat_short.m4 (x0 : (List Int)) (x1 : Int) (x6 : (List Int)) (x7 : Int) (x8 : Int) : S := ⟨[(0, .one (.lf (.val false (.sl 70 (.int .u32)) x0))), (1, .one (.lf (.val false (.int .u32) x1))), (6, .one (.lf (.own 0))), (7, .one (.lf (.val true (.int .u32) x7))), (8, .one (.lf (.val true (.int .i64) x8)))], ⟨[some ⟨70, (.int .u32), true, true, x6⟩], []⟩⟩
noncomputable def nat_short.b4 (f4 : (List Int) → Int → (List Int) → Int → Int → Option ((List Int) × Int × Unit)) (x0 : (List Int)) (x1 : Int) (x6 : (List Int)) (x7 : Int) (x8 : Int) : Option ((List Int) × Int × Unit) :=
  let v1 := decide (x8 ≥ (0 : Int))
  bif v1 then (bif decide (0 ≤ x8) && decide (x8 < (List.length x0 : Int)) then (let v2 := List.getD x0 (Int.toNat x8) (0 : Int)
  (bits_Div32.F (x7, v2, x1, ())).bind fun y3 =>
  bif decide (0 ≤ x8) && decide (x8 < (List.length x6 : Int)) then (let v4 := List.set x6 (Int.toNat x8) y3.1
  let v5 := IntKind.i64.wrap (x8 - (1 : Int))
  f4 x0 x1 v4 y3.2.1 v5)
  else none)
  else none)
  else (some (x6, x7, ()))
noncomputable def nat_short.e (f4 : (List Int) → Int → (List Int) → Int → Int → Option ((List Int) × Int × Unit)) (a0 : (List Int)) (a1 : Int) : Option ((List Int) × Int × Unit) :=
  let v1 := (List.length a0 : Int)
  bif decide (0 ≤ v1) && (decide (v1 ≤ v1) && (decide (Int.toNat v1 * 4 ≤ 281474976710656) && Nat.blt 0 4)) then (let v2 := List.replicate (Int.toNat v1) (0 : Int)
  let v3 := (List.length a0 : Int)
  let v4 := IntKind.i64.wrap (v3 - (1 : Int))
  f4 a0 a1 v2 (0 : Int) v4)
  else none
noncomputable def nat_short.L4 (k : Nat) (x0 : (List Int)) (x1 : Int) (x6 : (List Int)) (x7 : Int) (x8 : Int) : Option ((List Int) × Int × Unit) := heads (nat_short.spec.env nat_short.cals T Try.f104) (Func.pts Try.f104) k 4 (nat_short.m4 x0 x1 x6 x7 x8)
theorem nat_short.L4_succ (k : Nat) (x0 : (List Int)) (x1 : Int) (x6 : (List Int)) (x7 : Int) (x8 : Int) : nat_short.L4 (k + 1) x0 x1 x6 x7 x8 = nat_short.b4 (nat_short.L4 k) x0 x1 x6 x7 x8 := by kernel_rfl
theorem nat_short.L4_zero (x0 : (List Int)) (x1 : Int) (x6 : (List Int)) (x7 : Int) (x8 : Int) : nat_short.L4 0 x0 x1 x6 x7 x8 = none := by kernel_rfl
theorem nat_short.eval (k : Nat) (a0 : (List Int)) (a1 : Int) : evalF nat_short.spec nat_short.cals T Try.f104 k (a0, a1, ()) = nat_short.e (nat_short.L4 k) a0 a1 := by kernel_rfl
theorem nat_short.F_eq (a0 : (List Int)) (a1 : Int) : nat_short.F (a0, a1, ()) = limF nat_short.spec nat_short.cals T Try.f104 (a0, a1, ()) := by kernel_rfl
theorem nat_short.of (k : Nat) (a0 : (List Int)) (a1 : Int) {y : (List Int) × Int × Unit} (h : nat_short.e (nat_short.L4 k) a0 a1 = some y) : nat_short.F (a0, a1, ()) = some y := (nat_short.F_eq a0 a1).trans (limF_of (q := nat_short.spec) (C := nat_short.cals) (T := T) (f := Try.f104) (x := (a0, a1, ())) (y := y) k ((nat_short.eval k a0 a1).trans h))

/-! ### math/bits.Len32 -/
def bits_Len32.spec : Spec := ⟨[(false, (.int .u32))], [(false, (.int .i64))], .own, fun j => match j with  | _ => []⟩
noncomputable def bits_Len32.cals : Cals := Cals.nil
noncomputable def bits_Len32.sig : Sig := bits_Len32.spec.sig bits_Len32.cals T Try.f113
noncomputable def bits_Len32.F (x : Int × Unit) : Option (Int × Unit) := limF bits_Len32.spec bits_Len32.cals T Try.f113 x
theorem bits_Len32.ck : CalsOk Try.prog bits_Len32.cals := CalsOk.nil
theorem bits_Len32.cal : CalOk Try.prog 113 bits_Len32.sig := calOk_lim' tabOk bits_Len32.ck mix Try.func113 (by kernel_rfl) (by kernel_rfl) (by kernel_rfl) (by kernel_rfl)
noncomputable def bits_Len32.e  (a0 : Int) : Option (Int × Unit) :=
  let v1 := decide (a0 ≥ (65536 : Int))
  bif v1 then (bif decide ((16 : Int) < 0) then none
  else (let v2 := shrI .u32 a0 (16 : Int)
  let v3 := decide (v2 ≥ (256 : Int))
  bif v3 then (bif decide ((8 : Int) < 0) then none
  else (let v4 := shrI .u32 v2 (8 : Int)
  let v5 := IntKind.i64.wrap ((16 : Int) + (8 : Int))
  let v6 := IntKind.u8.wrap v4
  bif decide (0 ≤ v6) && decide (v6 < (ByteArray.size (⟨#[0, 1, 2, 2, 3, 3, 3, 3, 4, 4, 4, 4, 4, 4, 4, 4, 5, 5, 5, 5, 5, 5, 5, 5, 5, 5, 5, 5, 5, 5, 5, 5, 6, 6, 6, 6, 6, 6, 6, 6, 6, 6, 6, 6, 6, 6, 6, 6, 6, 6, 6, 6, 6, 6, 6, 6, 6, 6, 6, 6, 6, 6, 6, 6, 7, 7, 7, 7, 7, 7, 7, 7, 7, 7, 7, 7, 7, 7, 7, 7, 7, 7, 7, 7, 7, 7, 7, 7, 7, 7, 7, 7, 7, 7, 7, 7, 7, 7, 7, 7, 7, 7, 7, 7, 7, 7, 7, 7, 7, 7, 7, 7, 7, 7, 7, 7, 7, 7, 7, 7, 7, 7, 7, 7, 7, 7, 7, 7, 8, 8, 8, 8, 8, 8, 8, 8, 8, 8, 8, 8, 8, 8, 8, 8, 8, 8, 8, 8, 8, 8, 8, 8, 8, 8, 8, 8, 8, 8, 8, 8, 8, 8, 8, 8, 8, 8, 8, 8, 8, 8, 8, 8, 8, 8, 8, 8, 8, 8, 8, 8, 8, 8, 8, 8, 8, 8, 8, 8, 8, 8, 8, 8, 8, 8, 8, 8, 8, 8, 8, 8, 8, 8, 8, 8, 8, 8, 8, 8, 8, 8, 8, 8, 8, 8, 8, 8, 8, 8, 8, 8, 8, 8, 8, 8, 8, 8, 8, 8, 8, 8, 8, 8, 8, 8, 8, 8, 8, 8, 8, 8, 8, 8, 8, 8, 8, 8, 8, 8, 8, 8, 8, 8, 8, 8, 8, 8]⟩ : ByteArray) : Int)) then (let v7 := btI (⟨#[0, 1, 2, 2, 3, 3, 3, 3, 4, 4, 4, 4, 4, 4, 4, 4, 5, 5, 5, 5, 5, 5, 5, 5, 5, 5, 5, 5, 5, 5, 5, 5, 6, 6, 6, 6, 6, 6, 6, 6, 6, 6, 6, 6, 6, 6, 6, 6, 6, 6, 6, 6, 6, 6, 6, 6, 6, 6, 6, 6, 6, 6, 6, 6, 7, 7, 7, 7, 7, 7, 7, 7, 7, 7, 7, 7, 7, 7, 7, 7, 7, 7, 7, 7, 7, 7, 7, 7, 7, 7, 7, 7, 7, 7, 7, 7, 7, 7, 7, 7, 7, 7, 7, 7, 7, 7, 7, 7, 7, 7, 7, 7, 7, 7, 7, 7, 7, 7, 7, 7, 7, 7, 7, 7, 7, 7, 7, 7, 8, 8, 8, 8, 8, 8, 8, 8, 8, 8, 8, 8, 8, 8, 8, 8, 8, 8, 8, 8, 8, 8, 8, 8, 8, 8, 8, 8, 8, 8, 8, 8, 8, 8, 8, 8, 8, 8, 8, 8, 8, 8, 8, 8, 8, 8, 8, 8, 8, 8, 8, 8, 8, 8, 8, 8, 8, 8, 8, 8, 8, 8, 8, 8, 8, 8, 8, 8, 8, 8, 8, 8, 8, 8, 8, 8, 8, 8, 8, 8, 8, 8, 8, 8, 8, 8, 8, 8, 8, 8, 8, 8, 8, 8, 8, 8, 8, 8, 8, 8, 8, 8, 8, 8, 8, 8, 8, 8, 8, 8, 8, 8, 8, 8, 8, 8, 8, 8, 8, 8, 8, 8, 8, 8, 8, 8, 8, 8]⟩ : ByteArray) v6
  let v8 := IntKind.i64.wrap v7
  let v9 := IntKind.i64.wrap (v5 + v8)
  some (v9, ()))
  else none))
  else (let v10 := IntKind.u8.wrap v2
  bif decide (0 ≤ v10) && decide (v10 < (ByteArray.size (⟨#[0, 1, 2, 2, 3, 3, 3, 3, 4, 4, 4, 4, 4, 4, 4, 4, 5, 5, 5, 5, 5, 5, 5, 5, 5, 5, 5, 5, 5, 5, 5, 5, 6, 6, 6, 6, 6, 6, 6, 6, 6, 6, 6, 6, 6, 6, 6, 6, 6, 6, 6, 6, 6, 6, 6, 6, 6, 6, 6, 6, 6, 6, 6, 6, 7, 7, 7, 7, 7, 7, 7, 7, 7, 7, 7, 7, 7, 7, 7, 7, 7, 7, 7, 7, 7, 7, 7, 7, 7, 7, 7, 7, 7, 7, 7, 7, 7, 7, 7, 7, 7, 7, 7, 7, 7, 7, 7, 7, 7, 7, 7, 7, 7, 7, 7, 7, 7, 7, 7, 7, 7, 7, 7, 7, 7, 7, 7, 7, 8, 8, 8, 8, 8, 8, 8, 8, 8, 8, 8, 8, 8, 8, 8, 8, 8, 8, 8, 8, 8, 8, 8, 8, 8, 8, 8, 8, 8, 8, 8, 8, 8, 8, 8, 8, 8, 8, 8, 8, 8, 8, 8, 8, 8, 8, 8, 8, 8, 8, 8, 8, 8, 8, 8, 8, 8, 8, 8, 8, 8, 8, 8, 8, 8, 8, 8, 8, 8, 8, 8, 8, 8, 8, 8, 8, 8, 8, 8, 8, 8, 8, 8, 8, 8, 8, 8, 8, 8, 8, 8, 8, 8, 8, 8, 8, 8, 8, 8, 8, 8, 8, 8, 8, 8, 8, 8, 8, 8, 8, 8, 8, 8, 8, 8, 8, 8, 8, 8, 8, 8, 8, 8, 8, 8, 8, 8, 8]⟩ : ByteArray) : Int)) then (let v11 := btI (⟨#[0, 1, 2, 2, 3, 3, 3, 3, 4, 4, 4, 4, 4, 4, 4, 4, 5, 5, 5, 5, 5, 5, 5, 5, 5, 5, 5, 5, 5, 5, 5, 5, 6, 6, 6, 6, 6, 6, 6, 6, 6, 6, 6, 6, 6, 6, 6, 6, 6, 6, 6, 6, 6, 6, 6, 6, 6, 6, 6, 6, 6, 6, 6, 6, 7, 7, 7, 7, 7, 7, 7, 7, 7, 7, 7, 7, 7, 7, 7, 7, 7, 7, 7, 7, 7, 7, 7, 7, 7, 7, 7, 7, 7, 7, 7, 7, 7, 7, 7, 7, 7, 7, 7, 7, 7, 7, 7, 7, 7, 7, 7, 7, 7, 7, 7, 7, 7, 7, 7, 7, 7, 7, 7, 7, 7, 7, 7, 7, 8, 8, 8, 8, 8, 8, 8, 8, 8, 8, 8, 8, 8, 8, 8, 8, 8, 8, 8, 8, 8, 8, 8, 8, 8, 8, 8, 8, 8, 8, 8, 8, 8, 8, 8, 8, 8, 8, 8, 8, 8, 8, 8, 8, 8, 8, 8, 8, 8, 8, 8, 8, 8, 8, 8, 8, 8, 8, 8, 8, 8, 8, 8, 8, 8, 8, 8, 8, 8, 8, 8, 8, 8, 8, 8, 8, 8, 8, 8, 8, 8, 8, 8, 8, 8, 8, 8, 8, 8, 8, 8, 8, 8, 8, 8, 8, 8, 8, 8, 8, 8, 8, 8, 8, 8, 8, 8, 8, 8, 8, 8, 8, 8, 8, 8, 8, 8, 8, 8, 8, 8, 8, 8, 8, 8, 8, 8, 8]⟩ : ByteArray) v10
  let v12 := IntKind.i64.wrap v11
  let v13 := IntKind.i64.wrap ((16 : Int) + v12)
  some (v13, ()))
  else none)))
  else (let v14 := decide (a0 ≥ (256 : Int))
  bif v14 then (bif decide ((8 : Int) < 0) then none
  else (let v15 := shrI .u32 a0 (8 : Int)
  let v16 := IntKind.i64.wrap ((0 : Int) + (8 : Int))
  let v17 := IntKind.u8.wrap v15
  bif decide (0 ≤ v17) && decide (v17 < (ByteArray.size (⟨#[0, 1, 2, 2, 3, 3, 3, 3, 4, 4, 4, 4, 4, 4, 4, 4, 5, 5, 5, 5, 5, 5, 5, 5, 5, 5, 5, 5, 5, 5, 5, 5, 6, 6, 6, 6, 6, 6, 6, 6, 6, 6, 6, 6, 6, 6, 6, 6, 6, 6, 6, 6, 6, 6, 6, 6, 6, 6, 6, 6, 6, 6, 6, 6, 7, 7, 7, 7, 7, 7, 7, 7, 7, 7, 7, 7, 7, 7, 7, 7, 7, 7, 7, 7, 7, 7, 7, 7, 7, 7, 7, 7, 7, 7, 7, 7, 7, 7, 7, 7, 7, 7, 7, 7, 7, 7, 7, 7, 7, 7, 7, 7, 7, 7, 7, 7, 7, 7, 7, 7, 7, 7, 7, 7, 7, 7, 7, 7, 8, 8, 8, 8, 8, 8, 8, 8, 8, 8, 8, 8, 8, 8, 8, 8, 8, 8, 8, 8, 8, 8, 8, 8, 8, 8, 8, 8, 8, 8, 8, 8, 8, 8, 8, 8, 8, 8, 8, 8, 8, 8, 8, 8, 8, 8, 8, 8, 8, 8, 8, 8, 8, 8, 8, 8, 8, 8, 8, 8, 8, 8, 8, 8, 8, 8, 8, 8, 8, 8, 8, 8, 8, 8, 8, 8, 8, 8, 8, 8, 8, 8, 8, 8, 8, 8, 8, 8, 8, 8, 8, 8, 8, 8, 8, 8, 8, 8, 8, 8, 8, 8, 8, 8, 8, 8, 8, 8, 8, 8, 8, 8, 8, 8, 8, 8, 8, 8, 8, 8, 8, 8, 8, 8, 8, 8, 8, 8]⟩ : ByteArray) : Int)) then (let v18 := btI (⟨#[0, 1, 2, 2, 3, 3, 3, 3, 4, 4, 4, 4, 4, 4, 4, 4, 5, 5, 5, 5, 5, 5, 5, 5, 5, 5, 5, 5, 5, 5, 5, 5, 6, 6, 6, 6, 6, 6, 6, 6, 6, 6, 6, 6, 6, 6, 6, 6, 6, 6, 6, 6, 6, 6, 6, 6, 6, 6, 6, 6, 6, 6, 6, 6, 7, 7, 7, 7, 7, 7, 7, 7, 7, 7, 7, 7, 7, 7, 7, 7, 7, 7, 7, 7, 7, 7, 7, 7, 7, 7, 7, 7, 7, 7, 7, 7, 7, 7, 7, 7, 7, 7, 7, 7, 7, 7, 7, 7, 7, 7, 7, 7, 7, 7, 7, 7, 7, 7, 7, 7, 7, 7, 7, 7, 7, 7, 7, 7, 8, 8, 8, 8, 8, 8, 8, 8, 8, 8, 8, 8, 8, 8, 8, 8, 8, 8, 8, 8, 8, 8, 8, 8, 8, 8, 8, 8, 8, 8, 8, 8, 8, 8, 8, 8, 8, 8, 8, 8, 8, 8, 8, 8, 8, 8, 8, 8, 8, 8, 8, 8, 8, 8, 8, 8, 8, 8, 8, 8, 8, 8, 8, 8, 8, 8, 8, 8, 8, 8, 8, 8, 8, 8, 8, 8, 8, 8, 8, 8, 8, 8, 8, 8, 8, 8, 8, 8, 8, 8, 8, 8, 8, 8, 8, 8, 8, 8, 8, 8, 8, 8, 8, 8, 8, 8, 8, 8, 8, 8, 8, 8, 8, 8, 8, 8, 8, 8, 8, 8, 8, 8, 8, 8, 8, 8, 8, 8]⟩ : ByteArray) v17
  let v19 := IntKind.i64.wrap v18
  let v20 := IntKind.i64.wrap (v16 + v19)
  some (v20, ()))
  else none))
  else (let v21 := IntKind.u8.wrap a0
  bif decide (0 ≤ v21) && decide (v21 < (ByteArray.size (⟨#[0, 1, 2, 2, 3, 3, 3, 3, 4, 4, 4, 4, 4, 4, 4, 4, 5, 5, 5, 5, 5, 5, 5, 5, 5, 5, 5, 5, 5, 5, 5, 5, 6, 6, 6, 6, 6, 6, 6, 6, 6, 6, 6, 6, 6, 6, 6, 6, 6, 6, 6, 6, 6, 6, 6, 6, 6, 6, 6, 6, 6, 6, 6, 6, 7, 7, 7, 7, 7, 7, 7, 7, 7, 7, 7, 7, 7, 7, 7, 7, 7, 7, 7, 7, 7, 7, 7, 7, 7, 7, 7, 7, 7, 7, 7, 7, 7, 7, 7, 7, 7, 7, 7, 7, 7, 7, 7, 7, 7, 7, 7, 7, 7, 7, 7, 7, 7, 7, 7, 7, 7, 7, 7, 7, 7, 7, 7, 7, 8, 8, 8, 8, 8, 8, 8, 8, 8, 8, 8, 8, 8, 8, 8, 8, 8, 8, 8, 8, 8, 8, 8, 8, 8, 8, 8, 8, 8, 8, 8, 8, 8, 8, 8, 8, 8, 8, 8, 8, 8, 8, 8, 8, 8, 8, 8, 8, 8, 8, 8, 8, 8, 8, 8, 8, 8, 8, 8, 8, 8, 8, 8, 8, 8, 8, 8, 8, 8, 8, 8, 8, 8, 8, 8, 8, 8, 8, 8, 8, 8, 8, 8, 8, 8, 8, 8, 8, 8, 8, 8, 8, 8, 8, 8, 8, 8, 8, 8, 8, 8, 8, 8, 8, 8, 8, 8, 8, 8, 8, 8, 8, 8, 8, 8, 8, 8, 8, 8, 8, 8, 8, 8, 8, 8, 8, 8, 8]⟩ : ByteArray) : Int)) then (let v22 := btI (⟨#[0, 1, 2, 2, 3, 3, 3, 3, 4, 4, 4, 4, 4, 4, 4, 4, 5, 5, 5, 5, 5, 5, 5, 5, 5, 5, 5, 5, 5, 5, 5, 5, 6, 6, 6, 6, 6, 6, 6, 6, 6, 6, 6, 6, 6, 6, 6, 6, 6, 6, 6, 6, 6, 6, 6, 6, 6, 6, 6, 6, 6, 6, 6, 6, 7, 7, 7, 7, 7, 7, 7, 7, 7, 7, 7, 7, 7, 7, 7, 7, 7, 7, 7, 7, 7, 7, 7, 7, 7, 7, 7, 7, 7, 7, 7, 7, 7, 7, 7, 7, 7, 7, 7, 7, 7, 7, 7, 7, 7, 7, 7, 7, 7, 7, 7, 7, 7, 7, 7, 7, 7, 7, 7, 7, 7, 7, 7, 7, 8, 8, 8, 8, 8, 8, 8, 8, 8, 8, 8, 8, 8, 8, 8, 8, 8, 8, 8, 8, 8, 8, 8, 8, 8, 8, 8, 8, 8, 8, 8, 8, 8, 8, 8, 8, 8, 8, 8, 8, 8, 8, 8, 8, 8, 8, 8, 8, 8, 8, 8, 8, 8, 8, 8, 8, 8, 8, 8, 8, 8, 8, 8, 8, 8, 8, 8, 8, 8, 8, 8, 8, 8, 8, 8, 8, 8, 8, 8, 8, 8, 8, 8, 8, 8, 8, 8, 8, 8, 8, 8, 8, 8, 8, 8, 8, 8, 8, 8, 8, 8, 8, 8, 8, 8, 8, 8, 8, 8, 8, 8, 8, 8, 8, 8, 8, 8, 8, 8, 8, 8, 8, 8, 8, 8, 8, 8, 8]⟩ : ByteArray) v21
  let v23 := IntKind.i64.wrap v22
  let v24 := IntKind.i64.wrap ((0 : Int) + v23)
  some (v24, ()))
  else none))
theorem bits_Len32.eval (k : Nat) (a0 : Int) : evalF bits_Len32.spec bits_Len32.cals T Try.f113 k (a0, ()) = bits_Len32.e  a0 := by kernel_rfl
theorem bits_Len32.F_eq (a0 : Int) : bits_Len32.F (a0, ()) = limF bits_Len32.spec bits_Len32.cals T Try.f113 (a0, ()) := by kernel_rfl
theorem bits_Len32.of (k : Nat) (a0 : Int) {y : Int × Unit} (h : bits_Len32.e  a0 = some y) : bits_Len32.F (a0, ()) = some y := (bits_Len32.F_eq a0).trans (limF_of (q := bits_Len32.spec) (C := bits_Len32.cals) (T := T) (f := Try.f113) (x := (a0, ())) (y := y) k ((bits_Len32.eval k a0).trans h))

/-! ### math/bits.LeadingZeros32 -/
def bits_LeadingZeros32.spec : Spec := ⟨[(false, (.int .u32))], [(false, (.int .i64))], .own, fun j => match j with  | _ => []⟩
noncomputable def bits_LeadingZeros32.cals : Cals := (Cals.cons 113 bits_Len32.sig Cals.nil)
noncomputable def bits_LeadingZeros32.sig : Sig := bits_LeadingZeros32.spec.sig bits_LeadingZeros32.cals T Try.f111
noncomputable def bits_LeadingZeros32.F (x : Int × Unit) : Option (Int × Unit) := limF bits_LeadingZeros32.spec bits_LeadingZeros32.cals T Try.f111 x
theorem bits_LeadingZeros32.ck : CalsOk Try.prog bits_LeadingZeros32.cals := (CalsOk.cons bits_Len32.cal CalsOk.nil)
theorem bits_LeadingZeros32.cal : CalOk Try.prog 111 bits_LeadingZeros32.sig := calOk_lim' tabOk bits_LeadingZeros32.ck mix Try.func111 (by kernel_rfl) (by kernel_rfl) (by kernel_rfl) (by kernel_rfl)
noncomputable def bits_LeadingZeros32.e  (a0 : Int) : Option (Int × Unit) :=
  (bits_Len32.F (a0, ())).bind fun y1 =>
  let v2 := IntKind.i64.wrap ((32 : Int) - y1.1)
  some (v2, ())
theorem bits_LeadingZeros32.eval (k : Nat) (a0 : Int) : evalF bits_LeadingZeros32.spec bits_LeadingZeros32.cals T Try.f111 k (a0, ()) = bits_LeadingZeros32.e  a0 := by kernel_rfl
theorem bits_LeadingZeros32.F_eq (a0 : Int) : bits_LeadingZeros32.F (a0, ()) = limF bits_LeadingZeros32.spec bits_LeadingZeros32.cals T Try.f111 (a0, ()) := by kernel_rfl
theorem bits_LeadingZeros32.of (k : Nat) (a0 : Int) {y : Int × Unit} (h : bits_LeadingZeros32.e  a0 = some y) : bits_LeadingZeros32.F (a0, ()) = some y := (bits_LeadingZeros32.F_eq a0).trans (limF_of (q := bits_LeadingZeros32.spec) (C := bits_LeadingZeros32.cals) (T := T) (f := Try.f111) (x := (a0, ())) (y := y) k ((bits_LeadingZeros32.eval k a0).trans h))

/-! ### fulcrum/nat.digit -/
def nat_digit.spec : IoSpec := ⟨70, (.int .u32), [(false, (.sl 70 (.int .u32)))], [(false, (.int .u32))], fun j => match j with | 4 => [(0, .sub true), (1, .lf (.z 70 (.int .u32) false)), (5, .lf (.v true)), (7, .lf (.v true)), (8, .lf (.v true))] | 10 => [(0, .sub true), (1, .lf (.z 70 (.int .u32) false)), (5, .lf (.v true)), (7, .lf (.v true)), (9, .lf (.v true)), (10, .lf (.v true)), (82, .lf (.v true)), (83, .lf (.v true))] | 21 => [(0, .sub true), (1, .lf (.z 70 (.int .u32) false)), (5, .lf (.v true)), (7, .lf (.v true)), (13, .lf (.v true)), (130, .lf (.v true)), (131, .lf (.v true))] | _ => []⟩
noncomputable def nat_digit.cals : Cals := (Cals.cons 101 bits_Sub32.sig (Cals.cons 100 bits_Add32.sig Cals.nil))
noncomputable def nat_digit.sig : IoSig := nat_digit.spec.sig nat_digit.cals T Try.f112
noncomputable def nat_digit.F (zs : List Int) (o n : Nat) (x : (List Int) × Unit) : Option ((Int × Unit) × List Int) := limIO nat_digit.spec nat_digit.cals T Try.f112 zs o n x
theorem nat_digit.ck : CalsOk Try.prog nat_digit.cals := (CalsOk.cons bits_Sub32.cal (CalsOk.cons bits_Add32.cal CalsOk.nil))
theorem nat_digit.cal : IoOk Try.prog 112 nat_digit.sig := io_of' tabOk nat_digit.ck mix Try.func112 (by kernel_rfl) (by kernel_rfl) (by kernel_rfl) (by kernel_rfl)
def nat_digit.m4 (x0 : (List Int)) (x0_o : Nat) (x0_n : Nat) (x0_g : (Nat × Nat)) (x1 : (List Int)) (x5 : Int) (x7 : Int) (x8 : Int) : S := ⟨[(0, .sub 0 x0_o x0_n (some x0_g)), (1, .one (.lf (.val false (.sl 70 (.int .u32)) x1))), (5, .one (.lf (.val true (.int .i64) x5))), (7, .one (.lf (.val true (.int .u64) x7))), (8, .one (.lf (.val true (.int .u64) x8)))], ⟨[some ⟨70, (.int .u32), true, true, x0⟩], []⟩⟩
def nat_digit.m10 (x0 : (List Int)) (x0_o : Nat) (x0_n : Nat) (x0_g : (Nat × Nat)) (x1 : (List Int)) (x5 : Int) (x7 : Int) (x9 : Int) (x10 : Int) (x82 : Int) (x83 : Int) : S := ⟨[(0, .sub 0 x0_o x0_n (some x0_g)), (1, .one (.lf (.val false (.sl 70 (.int .u32)) x1))), (5, .one (.lf (.val true (.int .i64) x5))), (7, .one (.lf (.val true (.int .u64) x7))), (9, .one (.lf (.val true (.int .u32) x9))), (10, .one (.lf (.val true (.int .u64) x10))), (82, .one (.lf (.val true (.int .i64) x82))), (83, .one (.lf (.val true (.int .i64) x83)))], ⟨[some ⟨70, (.int .u32), true, true, x0⟩], []⟩⟩
def nat_digit.m21 (x0 : (List Int)) (x0_o : Nat) (x0_n : Nat) (x0_g : (Nat × Nat)) (x1 : (List Int)) (x5 : Int) (x7 : Int) (x13 : Int) (x130 : Int) (x131 : Int) : S := ⟨[(0, .sub 0 x0_o x0_n (some x0_g)), (1, .one (.lf (.val false (.sl 70 (.int .u32)) x1))), (5, .one (.lf (.val true (.int .i64) x5))), (7, .one (.lf (.val true (.int .u64) x7))), (13, .one (.lf (.val true (.int .u32) x13))), (130, .one (.lf (.val true (.int .i64) x130))), (131, .one (.lf (.val true (.int .i64) x131)))], ⟨[some ⟨70, (.int .u32), true, true, x0⟩], []⟩⟩
noncomputable def nat_digit.b4 (f4 : (List Int) → Nat → Nat → (Nat × Nat) → (List Int) → Int → Int → Int → Option ((Int × Unit) × List Int × (Nat × Nat))) (f10 : (List Int) → Nat → Nat → (Nat × Nat) → (List Int) → Int → Int → Int → Int → Int → Int → Option ((Int × Unit) × List Int × (Nat × Nat))) (f21 : (List Int) → Nat → Nat → (Nat × Nat) → (List Int) → Int → Int → Int → Int → Int → Option ((Int × Unit) × List Int × (Nat × Nat))) (x0 : (List Int)) (x0_o : Nat) (x0_n : Nat) (x0_g : (Nat × Nat)) (x1 : (List Int)) (x5 : Int) (x7 : Int) (x8 : Int) : Option ((Int × Unit) × List Int × (Nat × Nat)) :=
  bif decide ((32 : Int) < 0) then none
  else (let v1 := shrI .u64 x7 (32 : Int)
  let v2 := (v1 != (0 : Int))
  bif v2 then (let v3 := IntKind.u64.wrap (x7 - (1 : Int))
  let v4 := IntKind.i64.wrap (x5 - (1 : Int))
  bif decide (0 ≤ v4) && decide (v4 < (List.length x1 : Int)) then (let v5 := List.getD x1 (Int.toNat v4) (0 : Int)
  let v6 := IntKind.u64.wrap v5
  let v7 := IntKind.u64.wrap (x8 + v6)
  bif decide ((32 : Int) < 0) then none
  else (let v8 := shrI .u64 v7 (32 : Int)
  let v9 := (v8 != (0 : Int))
  bif v9 then (f10 x0 x0_o x0_n x0_g x1 x5 v3 (0 : Int) (0 : Int) x5 (0 : Int))
  else (f4 x0 x0_o x0_n x0_g x1 x5 v3 v7)))
  else none)
  else (let v10 := IntKind.i64.wrap (x5 - (2 : Int))
  bif decide (0 ≤ v10) && decide (v10 < (List.length x1 : Int)) then (let v11 := List.getD x1 (Int.toNat v10) (0 : Int)
  let v12 := IntKind.u64.wrap v11
  let v13 := IntKind.u64.wrap (x7 * v12)
  bif decide ((32 : Int) < 0) then none
  else (let v14 := shlI .u64 x8 (32 : Int)
  let v15 := IntKind.i64.wrap (x5 - (2 : Int))
  bif decide (0 ≤ v15) && decide (v15 < ((x0_n : Nat) : Int)) then (let v16 := List.getD x0 (x0_o + Int.toNat v15) (0 : Int)
  let v17 := IntKind.u64.wrap v16
  let v18 := bitsOp .or .u64 v14 v17
  let v19 := decide (v13 > v18)
  bif v19 then (let v20 := IntKind.u64.wrap (x7 - (1 : Int))
  let v21 := IntKind.i64.wrap (x5 - (1 : Int))
  bif decide (0 ≤ v21) && decide (v21 < (List.length x1 : Int)) then (let v22 := List.getD x1 (Int.toNat v21) (0 : Int)
  let v23 := IntKind.u64.wrap v22
  let v24 := IntKind.u64.wrap (x8 + v23)
  bif decide ((32 : Int) < 0) then none
  else (let v25 := shrI .u64 v24 (32 : Int)
  let v26 := (v25 != (0 : Int))
  bif v26 then (f10 x0 x0_o x0_n x0_g x1 x5 v20 (0 : Int) (0 : Int) x5 (0 : Int))
  else (f4 x0 x0_o x0_n x0_g x1 x5 v20 v24)))
  else none)
  else (f10 x0 x0_o x0_n x0_g x1 x5 x7 (0 : Int) (0 : Int) x5 (0 : Int)))
  else none))
  else none))
noncomputable def nat_digit.b10 (f4 : (List Int) → Nat → Nat → (Nat × Nat) → (List Int) → Int → Int → Int → Option ((Int × Unit) × List Int × (Nat × Nat))) (f10 : (List Int) → Nat → Nat → (Nat × Nat) → (List Int) → Int → Int → Int → Int → Int → Int → Option ((Int × Unit) × List Int × (Nat × Nat))) (f21 : (List Int) → Nat → Nat → (Nat × Nat) → (List Int) → Int → Int → Int → Int → Int → Option ((Int × Unit) × List Int × (Nat × Nat))) (x0 : (List Int)) (x0_o : Nat) (x0_n : Nat) (x0_g : (Nat × Nat)) (x1 : (List Int)) (x5 : Int) (x7 : Int) (x9 : Int) (x10 : Int) (x82 : Int) (x83 : Int) : Option ((Int × Unit) × List Int × (Nat × Nat)) :=
  let v1 := decide (x83 < x82)
  bif v1 then (bif decide (0 ≤ x83) && decide (x83 < (List.length x1 : Int)) then (let v2 := List.getD x1 (Int.toNat x83) (0 : Int)
  let v3 := IntKind.u64.wrap v2
  let v4 := IntKind.u64.wrap (x7 * v3)
  let v5 := IntKind.u64.wrap (v4 + x10)
  bif decide ((32 : Int) < 0) then none
  else (let v6 := shrI .u64 v5 (32 : Int)
  bif decide (0 ≤ x83) && decide (x83 < ((x0_n : Nat) : Int)) then (let v7 := List.getD x0 (x0_o + Int.toNat x83) (0 : Int)
  let v8 := IntKind.u32.wrap v5
  (bits_Sub32.F (v7, v8, x9, ())).bind fun y9 =>
  bif decide (0 ≤ x83) && decide (x83 < ((x0_n : Nat) : Int)) then (let v10 := List.set x0 (x0_o + Int.toNat x83) y9.1
  let v11 := IntKind.i64.wrap (x83 + (1 : Int))
  f10 v10 x0_o x0_n x0_g x1 x5 x7 y9.2.1 v6 x82 v11)
  else none)
  else none))
  else none)
  else (bif decide (0 ≤ x5) && decide (x5 < ((x0_n : Nat) : Int)) then (let v12 := List.getD x0 (x0_o + Int.toNat x5) (0 : Int)
  let v13 := IntKind.u32.wrap x10
  (bits_Sub32.F (v12, v13, x9, ())).bind fun y14 =>
  bif decide (0 ≤ x5) && decide (x5 < ((x0_n : Nat) : Int)) then (let v15 := List.set x0 (x0_o + Int.toNat x5) y14.1
  let v16 := (y14.2.1 == (1 : Int))
  bif v16 then (let v17 := IntKind.u64.wrap (x7 - (1 : Int))
  f21 v15 x0_o x0_n x0_g x1 x5 v17 (0 : Int) x5 (0 : Int))
  else (let v18 := IntKind.u32.wrap x7
  bif Nat.blt 0 x0_n && true then (some ((v18, ()), v15, x0_g))
  else none))
  else none)
  else none)
noncomputable def nat_digit.b21 (f4 : (List Int) → Nat → Nat → (Nat × Nat) → (List Int) → Int → Int → Int → Option ((Int × Unit) × List Int × (Nat × Nat))) (f10 : (List Int) → Nat → Nat → (Nat × Nat) → (List Int) → Int → Int → Int → Int → Int → Int → Option ((Int × Unit) × List Int × (Nat × Nat))) (f21 : (List Int) → Nat → Nat → (Nat × Nat) → (List Int) → Int → Int → Int → Int → Int → Option ((Int × Unit) × List Int × (Nat × Nat))) (x0 : (List Int)) (x0_o : Nat) (x0_n : Nat) (x0_g : (Nat × Nat)) (x1 : (List Int)) (x5 : Int) (x7 : Int) (x13 : Int) (x130 : Int) (x131 : Int) : Option ((Int × Unit) × List Int × (Nat × Nat)) :=
  let v1 := decide (x131 < x130)
  bif v1 then (bif decide (0 ≤ x131) && decide (x131 < ((x0_n : Nat) : Int)) then (let v2 := List.getD x0 (x0_o + Int.toNat x131) (0 : Int)
  bif decide (0 ≤ x131) && decide (x131 < (List.length x1 : Int)) then (let v3 := List.getD x1 (Int.toNat x131) (0 : Int)
  (bits_Add32.F (v2, v3, x13, ())).bind fun y4 =>
  bif decide (0 ≤ x131) && decide (x131 < ((x0_n : Nat) : Int)) then (let v5 := List.set x0 (x0_o + Int.toNat x131) y4.1
  let v6 := IntKind.i64.wrap (x131 + (1 : Int))
  f21 v5 x0_o x0_n x0_g x1 x5 x7 y4.2.1 x130 v6)
  else none)
  else none)
  else none)
  else (bif decide (0 ≤ x5) && decide (x5 < ((x0_n : Nat) : Int)) then (let v7 := List.getD x0 (x0_o + Int.toNat x5) (0 : Int)
  let v8 := IntKind.u32.wrap (v7 + x13)
  bif decide (0 ≤ x5) && decide (x5 < ((x0_n : Nat) : Int)) then (let v9 := List.set x0 (x0_o + Int.toNat x5) v8
  let v10 := IntKind.u32.wrap x7
  bif Nat.blt 0 x0_n && true then (some ((v10, ()), v9, x0_g))
  else none)
  else none)
  else none)
noncomputable def nat_digit.e (f4 : (List Int) → Nat → Nat → (Nat × Nat) → (List Int) → Int → Int → Int → Option ((Int × Unit) × List Int × (Nat × Nat))) (f10 : (List Int) → Nat → Nat → (Nat × Nat) → (List Int) → Int → Int → Int → Int → Int → Int → Option ((Int × Unit) × List Int × (Nat × Nat))) (f21 : (List Int) → Nat → Nat → (Nat × Nat) → (List Int) → Int → Int → Int → Int → Int → Option ((Int × Unit) × List Int × (Nat × Nat))) (zs : List Int) (o n : Nat) (g : Nat × Nat) (a1 : (List Int)) : Option ((Int × Unit) × List Int × (Nat × Nat)) :=
  let v1 := (List.length a1 : Int)
  bif decide (0 ≤ v1) && decide (v1 < ((n : Nat) : Int)) then (let v2 := List.getD zs (o + Int.toNat v1) (0 : Int)
  let v3 := IntKind.u64.wrap v2
  bif decide ((32 : Int) < 0) then none
  else (let v4 := shlI .u64 v3 (32 : Int)
  let v5 := IntKind.i64.wrap (v1 - (1 : Int))
  bif decide (0 ≤ v5) && decide (v5 < ((n : Nat) : Int)) then (let v6 := List.getD zs (o + Int.toNat v5) (0 : Int)
  let v7 := IntKind.u64.wrap v6
  let v8 := bitsOp .or .u64 v4 v7
  let v9 := IntKind.i64.wrap (v1 - (1 : Int))
  bif decide (0 ≤ v9) && decide (v9 < (List.length a1 : Int)) then (let v10 := List.getD a1 (Int.toNat v9) (0 : Int)
  let v11 := IntKind.u64.wrap v10
  bif decide (v11 = 0) then none
  else (let v12 := IntKind.u64.wrap (Int.tdiv v8 v11)
  let v13 := IntKind.i64.wrap (v1 - (1 : Int))
  bif decide (0 ≤ v13) && decide (v13 < (List.length a1 : Int)) then (let v14 := List.getD a1 (Int.toNat v13) (0 : Int)
  let v15 := IntKind.u64.wrap v14
  bif decide (v15 = 0) then none
  else (let v16 := Int.tmod v8 v15
  f4 zs o n g a1 v1 v12 v16))
  else none))
  else none)
  else none))
  else none
noncomputable def nat_digit.L4 (k : Nat) (x0 : (List Int)) (x0_o : Nat) (x0_n : Nat) (x0_g : (Nat × Nat)) (x1 : (List Int)) (x5 : Int) (x7 : Int) (x8 : Int) : Option ((Int × Unit) × List Int × (Nat × Nat)) := heads (nat_digit.spec.env nat_digit.cals T Try.f112) (Func.pts Try.f112) k 4 (nat_digit.m4 x0 x0_o x0_n x0_g x1 x5 x7 x8)
noncomputable def nat_digit.L10 (k : Nat) (x0 : (List Int)) (x0_o : Nat) (x0_n : Nat) (x0_g : (Nat × Nat)) (x1 : (List Int)) (x5 : Int) (x7 : Int) (x9 : Int) (x10 : Int) (x82 : Int) (x83 : Int) : Option ((Int × Unit) × List Int × (Nat × Nat)) := heads (nat_digit.spec.env nat_digit.cals T Try.f112) (Func.pts Try.f112) k 10 (nat_digit.m10 x0 x0_o x0_n x0_g x1 x5 x7 x9 x10 x82 x83)
noncomputable def nat_digit.L21 (k : Nat) (x0 : (List Int)) (x0_o : Nat) (x0_n : Nat) (x0_g : (Nat × Nat)) (x1 : (List Int)) (x5 : Int) (x7 : Int) (x13 : Int) (x130 : Int) (x131 : Int) : Option ((Int × Unit) × List Int × (Nat × Nat)) := heads (nat_digit.spec.env nat_digit.cals T Try.f112) (Func.pts Try.f112) k 21 (nat_digit.m21 x0 x0_o x0_n x0_g x1 x5 x7 x13 x130 x131)
theorem nat_digit.L4_succ (k : Nat) (x0 : (List Int)) (x0_o : Nat) (x0_n : Nat) (x0_g : (Nat × Nat)) (x1 : (List Int)) (x5 : Int) (x7 : Int) (x8 : Int) : nat_digit.L4 (k + 1) x0 x0_o x0_n x0_g x1 x5 x7 x8 = nat_digit.b4 (nat_digit.L4 k) (nat_digit.L10 k) (nat_digit.L21 k) x0 x0_o x0_n x0_g x1 x5 x7 x8 := by kernel_rfl
theorem nat_digit.L4_zero (x0 : (List Int)) (x0_o : Nat) (x0_n : Nat) (x0_g : (Nat × Nat)) (x1 : (List Int)) (x5 : Int) (x7 : Int) (x8 : Int) : nat_digit.L4 0 x0 x0_o x0_n x0_g x1 x5 x7 x8 = none := by kernel_rfl
theorem nat_digit.L10_succ (k : Nat) (x0 : (List Int)) (x0_o : Nat) (x0_n : Nat) (x0_g : (Nat × Nat)) (x1 : (List Int)) (x5 : Int) (x7 : Int) (x9 : Int) (x10 : Int) (x82 : Int) (x83 : Int) : nat_digit.L10 (k + 1) x0 x0_o x0_n x0_g x1 x5 x7 x9 x10 x82 x83 = nat_digit.b10 (nat_digit.L4 k) (nat_digit.L10 k) (nat_digit.L21 k) x0 x0_o x0_n x0_g x1 x5 x7 x9 x10 x82 x83 := by kernel_rfl
theorem nat_digit.L10_zero (x0 : (List Int)) (x0_o : Nat) (x0_n : Nat) (x0_g : (Nat × Nat)) (x1 : (List Int)) (x5 : Int) (x7 : Int) (x9 : Int) (x10 : Int) (x82 : Int) (x83 : Int) : nat_digit.L10 0 x0 x0_o x0_n x0_g x1 x5 x7 x9 x10 x82 x83 = none := by kernel_rfl
theorem nat_digit.L21_succ (k : Nat) (x0 : (List Int)) (x0_o : Nat) (x0_n : Nat) (x0_g : (Nat × Nat)) (x1 : (List Int)) (x5 : Int) (x7 : Int) (x13 : Int) (x130 : Int) (x131 : Int) : nat_digit.L21 (k + 1) x0 x0_o x0_n x0_g x1 x5 x7 x13 x130 x131 = nat_digit.b21 (nat_digit.L4 k) (nat_digit.L10 k) (nat_digit.L21 k) x0 x0_o x0_n x0_g x1 x5 x7 x13 x130 x131 := by kernel_rfl
theorem nat_digit.L21_zero (x0 : (List Int)) (x0_o : Nat) (x0_n : Nat) (x0_g : (Nat × Nat)) (x1 : (List Int)) (x5 : Int) (x7 : Int) (x13 : Int) (x130 : Int) (x131 : Int) : nat_digit.L21 0 x0 x0_o x0_n x0_g x1 x5 x7 x13 x130 x131 = none := by kernel_rfl
theorem nat_digit.eval (k : Nat) (zs : List Int) (o n : Nat) (g : Nat × Nat) (a1 : (List Int)) : evalIO nat_digit.spec nat_digit.cals T Try.f112 k zs o n g (a1, ()) = nat_digit.e (nat_digit.L4 k) (nat_digit.L10 k) (nat_digit.L21 k) zs o n g a1 := by kernel_rfl
theorem nat_digit.of (zs : List Int) (o n : Nat) (a1 : (List Int)) (y : (Int × Unit)) (ws : List Int) (h : ∀ g, ∃ k, nat_digit.e (nat_digit.L4 k) (nat_digit.L10 k) (nat_digit.L21 k) zs o n g a1 = some (y, ws, g)) : nat_digit.F zs o n (a1, ()) = some (y, ws) := limIO_of (q := nat_digit.spec) (C := nat_digit.cals) (T := T) (f := Try.f112) (x := (a1, ())) y ws fun g => (h g).imp fun k hk => (nat_digit.eval k zs o n g a1).trans hk

/-! ### fulcrum/nat.long -/
def nat_long.spec : Spec := ⟨[(false, (.sl 70 (.int .u32))), (false, (.sl 70 (.int .u32)))], [(false, (.sl 70 (.int .u32))), (false, (.sl 70 (.int .u32)))], .own, fun j => match j with | 7 => [(6, .lf (.v true)), (7, .lf (.z 70 (.int .u32) true)), (8, .lf (.o 70 (.int .u32) true)), (9, .lf (.v true)), (10, .lf (.o 70 (.int .u32) true)), (11, .lf (.v true))] | 12 => [(6, .lf (.v true)), (8, .lf (.o 70 (.int .u32) true)), (10, .lf (.o 70 (.int .u32) true)), (12, .lf (.o 70 (.int .u32) true)), (60, .lf (.v true)), (61, .lf (.v true))] | _ => []⟩
noncomputable def nat_long.cals : Cals := (Cals.withSubs [54] (Cals.consIo 112 nat_digit.sig (Cals.cons 111 bits_LeadingZeros32.sig (Cals.cons 103 nat_moved.sig (Cals.cons 99 nat_own.sig Cals.nil)))))
noncomputable def nat_long.sig : Sig := nat_long.spec.sig nat_long.cals T Try.f105
noncomputable def nat_long.F (x : (List Int) × (List Int) × Unit) : Option ((List Int) × (List Int) × Unit) := limF nat_long.spec nat_long.cals T Try.f105 x
theorem nat_long.ck : CalsOk Try.prog nat_long.cals := (CalsOk.withSubs [54] (CalsOk.consIo nat_digit.cal (CalsOk.cons bits_LeadingZeros32.cal (CalsOk.cons nat_moved.cal (CalsOk.cons nat_own.cal CalsOk.nil)))))
theorem nat_long.cal : CalOk Try.prog 105 nat_long.sig := calOk_lim' tabOk nat_long.ck mix Try.func105 (by kernel_rfl) (by kernel_rfl) (by kernel_rfl) (by kernel_rfl)
def nat_long.m7 (x6 : Int) (x7 : (List Int)) (x8 : (List Int)) (x9 : Int) (x10 : (List Int)) (x11 : Int) : S := ⟨[(6, .one (.lf (.val true (.int .i64) x6))), (7, .one (.lf (.val true (.sl 70 (.int .u32)) x7))), (8, .one (.lf (.own 0))), (9, .one (.lf (.val true (.int .i64) x9))), (10, .one (.lf (.own 1))), (11, .one (.lf (.val true (.int .i64) x11)))], ⟨[some ⟨70, (.int .u32), true, true, x8⟩, some ⟨70, (.int .u32), true, true, x10⟩], []⟩⟩
def nat_long.m12 (x6 : Int) (x8 : (List Int)) (x10 : (List Int)) (x12 : (List Int)) (x60 : Int) (x61 : Int) : S := ⟨[(6, .one (.lf (.val true (.int .i64) x6))), (8, .one (.lf (.own 0))), (10, .one (.lf (.own 1))), (12, .one (.lf (.own 2))), (60, .one (.lf (.val true (.int .i64) x60))), (61, .one (.lf (.val true (.int .i64) x61)))], ⟨[some ⟨70, (.int .u32), true, true, x8⟩, some ⟨70, (.int .u32), true, true, x10⟩, some ⟨70, (.int .u32), true, true, x12⟩], []⟩⟩
noncomputable def nat_long.b7 (f7 : Int → (List Int) → (List Int) → Int → (List Int) → Int → Option ((List Int) × (List Int) × Unit)) (f12 : Int → (List Int) → (List Int) → (List Int) → Int → Int → Option ((List Int) × (List Int) × Unit)) (x6 : Int) (x7 : (List Int)) (x8 : (List Int)) (x9 : Int) (x10 : (List Int)) (x11 : Int) : Option ((List Int) × (List Int) × Unit) :=
  let v1 := decide (x11 ≥ (0 : Int))
  bif v1 then (let v2 := IntKind.i64.wrap (x11 + x9)
  let v3 := IntKind.i64.wrap (v2 + (1 : Int))
  bif decide (0 ≤ x11) && (decide (x11 ≤ v3) && decide (v3 ≤ (List.length x8 : Int))) then (bif Nat.blt 0 (Int.toNat (v3 - x11)) && true then ((nat_digit.F x8 (Int.toNat x11) (Int.toNat (v3 - x11)) (x7, ())).bind fun y4 =>
  bif Nat.beq (List.length y4.2) (List.length x8) then (bif decide (0 ≤ x11) && decide (x11 < (List.length x10 : Int)) then (let v5 := List.set x10 (Int.toNat x11) y4.1.1
  let v6 := IntKind.i64.wrap (x11 - (1 : Int))
  f7 x6 x7 y4.2 x9 v5 v6)
  else none)
  else none)
  else none)
  else none)
  else (bif decide (0 ≤ x9) && (decide (x9 ≤ x9) && (decide (Int.toNat x9 * 4 ≤ 281474976710656) && Nat.blt 0 4)) then (let v7 := List.replicate (Int.toNat x9) (0 : Int)
  f12 x6 x8 x10 v7 x9 (0 : Int))
  else none)
noncomputable def nat_long.b12 (f7 : Int → (List Int) → (List Int) → Int → (List Int) → Int → Option ((List Int) × (List Int) × Unit)) (f12 : Int → (List Int) → (List Int) → (List Int) → Int → Int → Option ((List Int) × (List Int) × Unit)) (x6 : Int) (x8 : (List Int)) (x10 : (List Int)) (x12 : (List Int)) (x60 : Int) (x61 : Int) : Option ((List Int) × (List Int) × Unit) :=
  let v1 := decide (x61 < x60)
  bif v1 then (bif decide (0 ≤ x61) && decide (x61 < (List.length x8 : Int)) then (let v2 := List.getD x8 (Int.toNat x61) (0 : Int)
  bif decide (x6 < 0) then none
  else (let v3 := shrI .u32 v2 x6
  let v4 := IntKind.i64.wrap (x61 + (1 : Int))
  bif decide (0 ≤ v4) && decide (v4 < (List.length x8 : Int)) then (let v5 := List.getD x8 (Int.toNat v4) (0 : Int)
  let v6 := IntKind.u64.wrap v5
  let v7 := IntKind.i64.wrap ((32 : Int) - x6)
  bif decide (v7 < 0) then none
  else (let v8 := shlI .u64 v6 v7
  let v9 := IntKind.u32.wrap v8
  let v10 := bitsOp .or .u32 v3 v9
  bif decide (0 ≤ x61) && decide (x61 < (List.length x12 : Int)) then (let v11 := List.set x12 (Int.toNat x61) v10
  let v12 := IntKind.i64.wrap (x61 + (1 : Int))
  f12 x6 x8 x10 v11 x60 v12)
  else none))
  else none))
  else none)
  else ((nat_own.F (x10, ())).bind fun y13 =>
  (nat_own.F (x12, ())).bind fun y14 =>
  some (y13.1, y14.1, ()))
noncomputable def nat_long.e (f7 : Int → (List Int) → (List Int) → Int → (List Int) → Int → Option ((List Int) × (List Int) × Unit)) (f12 : Int → (List Int) → (List Int) → (List Int) → Int → Int → Option ((List Int) × (List Int) × Unit)) (a0 : (List Int)) (a1 : (List Int)) : Option ((List Int) × (List Int) × Unit) :=
  let v1 := (List.length a1 : Int)
  let v2 := IntKind.i64.wrap (v1 - (1 : Int))
  bif decide (0 ≤ v2) && decide (v2 < (List.length a1 : Int)) then (let v3 := List.getD a1 (Int.toNat v2) (0 : Int)
  (bits_LeadingZeros32.F (v3, ())).bind fun y4 =>
  (nat_moved.F (a1, y4.1, ())).bind fun y5 =>
  let v6 := (List.length a1 : Int)
  bif decide (0 ≤ v6) && decide (v6 ≤ (List.length y5.1 : Int)) then (let v7 := List.take (Int.toNat v6) y5.1
  (nat_moved.F (a0, y4.1, ())).bind fun y8 =>
  let v9 := (List.length v7 : Int)
  let v10 := (List.length y8.1 : Int)
  let v11 := IntKind.i64.wrap (v10 - v9)
  bif decide (0 ≤ v11) && (decide (v11 ≤ v11) && (decide (Int.toNat v11 * 4 ≤ 281474976710656) && Nat.blt 0 4)) then (let v12 := List.replicate (Int.toNat v11) (0 : Int)
  let v13 := (List.length y8.1 : Int)
  let v14 := IntKind.i64.wrap (v13 - v9)
  let v15 := IntKind.i64.wrap (v14 - (1 : Int))
  f7 y4.1 v7 y8.1 v9 v12 v15)
  else none)
  else none)
  else none
noncomputable def nat_long.L7 (k : Nat) (x6 : Int) (x7 : (List Int)) (x8 : (List Int)) (x9 : Int) (x10 : (List Int)) (x11 : Int) : Option ((List Int) × (List Int) × Unit) := heads (nat_long.spec.env nat_long.cals T Try.f105) (Func.pts Try.f105) k 7 (nat_long.m7 x6 x7 x8 x9 x10 x11)
noncomputable def nat_long.L12 (k : Nat) (x6 : Int) (x8 : (List Int)) (x10 : (List Int)) (x12 : (List Int)) (x60 : Int) (x61 : Int) : Option ((List Int) × (List Int) × Unit) := heads (nat_long.spec.env nat_long.cals T Try.f105) (Func.pts Try.f105) k 12 (nat_long.m12 x6 x8 x10 x12 x60 x61)
theorem nat_long.L7_succ (k : Nat) (x6 : Int) (x7 : (List Int)) (x8 : (List Int)) (x9 : Int) (x10 : (List Int)) (x11 : Int) : nat_long.L7 (k + 1) x6 x7 x8 x9 x10 x11 = nat_long.b7 (nat_long.L7 k) (nat_long.L12 k) x6 x7 x8 x9 x10 x11 := by kernel_rfl
theorem nat_long.L7_zero (x6 : Int) (x7 : (List Int)) (x8 : (List Int)) (x9 : Int) (x10 : (List Int)) (x11 : Int) : nat_long.L7 0 x6 x7 x8 x9 x10 x11 = none := by kernel_rfl
theorem nat_long.L12_succ (k : Nat) (x6 : Int) (x8 : (List Int)) (x10 : (List Int)) (x12 : (List Int)) (x60 : Int) (x61 : Int) : nat_long.L12 (k + 1) x6 x8 x10 x12 x60 x61 = nat_long.b12 (nat_long.L7 k) (nat_long.L12 k) x6 x8 x10 x12 x60 x61 := by kernel_rfl
theorem nat_long.L12_zero (x6 : Int) (x8 : (List Int)) (x10 : (List Int)) (x12 : (List Int)) (x60 : Int) (x61 : Int) : nat_long.L12 0 x6 x8 x10 x12 x60 x61 = none := by kernel_rfl
theorem nat_long.eval (k : Nat) (a0 : (List Int)) (a1 : (List Int)) : evalF nat_long.spec nat_long.cals T Try.f105 k (a0, a1, ()) = nat_long.e (nat_long.L7 k) (nat_long.L12 k) a0 a1 := by kernel_rfl
theorem nat_long.F_eq (a0 : (List Int)) (a1 : (List Int)) : nat_long.F (a0, a1, ()) = limF nat_long.spec nat_long.cals T Try.f105 (a0, a1, ()) := by kernel_rfl
theorem nat_long.of (k : Nat) (a0 : (List Int)) (a1 : (List Int)) {y : (List Int) × (List Int) × Unit} (h : nat_long.e (nat_long.L7 k) (nat_long.L12 k) a0 a1 = some y) : nat_long.F (a0, a1, ()) = some y := (nat_long.F_eq a0 a1).trans (limF_of (q := nat_long.spec) (C := nat_long.cals) (T := T) (f := Try.f105) (x := (a0, a1, ())) (y := y) k ((nat_long.eval k a0 a1).trans h))

/-! ### fulcrum/nat.Div -/
def nat_Div.spec : Spec := ⟨[(false, (.sl 70 (.int .u32))), (false, (.sl 70 (.int .u32)))], [(false, (.sl 70 (.int .u32))), (false, (.sl 70 (.int .u32))), (false, (.int .i64))], .own, fun j => match j with  | _ => []⟩
noncomputable def nat_Div.cals : Cals := (Cals.cons 98 nat_trim.sig (Cals.cons 80 nat_Cmp.sig (Cals.cons 99 nat_own.sig (Cals.cons 104 nat_short.sig (Cals.cons 105 nat_long.sig Cals.nil)))))
noncomputable def nat_Div.sig : Sig := nat_Div.spec.sig nat_Div.cals T Try.f89
noncomputable def nat_Div.F (x : (List Int) × (List Int) × Unit) : Option ((List Int) × (List Int) × Int × Unit) := limF nat_Div.spec nat_Div.cals T Try.f89 x
theorem nat_Div.ck : CalsOk Try.prog nat_Div.cals := (CalsOk.cons nat_trim.cal (CalsOk.cons nat_Cmp.cal (CalsOk.cons nat_own.cal (CalsOk.cons nat_short.cal (CalsOk.cons nat_long.cal CalsOk.nil)))))
theorem nat_Div.cal : CalOk Try.prog 89 nat_Div.sig := calOk_lim' tabOk nat_Div.ck mix Try.func89 (by kernel_rfl) (by kernel_rfl) (by kernel_rfl) (by kernel_rfl)
noncomputable def nat_Div.e  (a0 : (List Int)) (a1 : (List Int)) : Option ((List Int) × (List Int) × Int × Unit) :=
  (nat_trim.F (a0, ())).bind fun y1 =>
  (nat_trim.F (a1, ())).bind fun y2 =>
  let v3 := (List.length y2.1 : Int)
  let v4 := (v3 == (0 : Int))
  bif v4 then (some (([] : List Int), ([] : List Int), (11 : Int), ()))
  else ((nat_Cmp.F (y1.1, y2.1, ())).bind fun y5 =>
  let v6 := decide (y5.1 < (0 : Int))
  bif v6 then ((nat_own.F (y1.1, ())).bind fun y7 =>
  some (([] : List Int), y7.1, (0 : Int), ()))
  else (let v8 := (List.length y2.1 : Int)
  let v9 := (v8 == (1 : Int))
  bif v9 then (bif decide (0 ≤ (0 : Int)) && decide ((0 : Int) < (List.length y2.1 : Int)) then (let v10 := List.getD y2.1 (Int.toNat (0 : Int)) (0 : Int)
  (nat_short.F (y1.1, v10, ())).bind fun y11 =>
  (nat_own.F (y11.1, ())).bind fun y12 =>
  let v13 := ([y11.2.1] : List Int)
  (nat_own.F (v13, ())).bind fun y14 =>
  some (y12.1, y14.1, (0 : Int), ()))
  else none)
  else ((nat_long.F (y1.1, y2.1, ())).bind fun y15 =>
  some (y15.1, y15.2.1, (0 : Int), ()))))
theorem nat_Div.eval (k : Nat) (a0 : (List Int)) (a1 : (List Int)) : evalF nat_Div.spec nat_Div.cals T Try.f89 k (a0, a1, ()) = nat_Div.e  a0 a1 := by kernel_rfl
theorem nat_Div.F_eq (a0 : (List Int)) (a1 : (List Int)) : nat_Div.F (a0, a1, ()) = limF nat_Div.spec nat_Div.cals T Try.f89 (a0, a1, ()) := by kernel_rfl
theorem nat_Div.of (k : Nat) (a0 : (List Int)) (a1 : (List Int)) {y : (List Int) × (List Int) × Int × Unit} (h : nat_Div.e  a0 a1 = some y) : nat_Div.F (a0, a1, ()) = some y := (nat_Div.F_eq a0 a1).trans (limF_of (q := nat_Div.spec) (C := nat_Div.cals) (T := T) (f := Try.f89) (x := (a0, a1, ())) (y := y) k ((nat_Div.eval k a0 a1).trans h))

/-! ### fulcrum/whole.Quo -/
def whole_Quo.spec : Spec := ⟨[(true, (.prod .bool (.sl 70 (.int .u32)))), (true, (.prod .bool (.sl 70 (.int .u32))))], [(true, (.prod .bool (.sl 70 (.int .u32)))), (true, (.prod .bool (.sl 70 (.int .u32)))), (false, (.int .i64))], .own, fun j => match j with  | _ => []⟩
noncomputable def whole_Quo.cals : Cals := (Cals.cons 89 nat_Div.sig (Cals.cons 29 whole_Sign.sig (Cals.cons 72 whole_signed.sig Cals.nil)))
noncomputable def whole_Quo.sig : Sig := whole_Quo.spec.sig whole_Quo.cals T Try.f43
noncomputable def whole_Quo.F (x : (Bool × (List Int)) × (Bool × (List Int)) × Unit) : Option ((Bool × (List Int)) × (Bool × (List Int)) × Int × Unit) := limF whole_Quo.spec whole_Quo.cals T Try.f43 x
theorem whole_Quo.ck : CalsOk Try.prog whole_Quo.cals := (CalsOk.cons nat_Div.cal (CalsOk.cons whole_Sign.cal (CalsOk.cons whole_signed.cal CalsOk.nil)))
theorem whole_Quo.cal : CalOk Try.prog 43 whole_Quo.sig := calOk_lim' tabOk whole_Quo.ck mix Try.func43 (by kernel_rfl) (by kernel_rfl) (by kernel_rfl) (by kernel_rfl)
noncomputable def whole_Quo.e  (a0 : (Bool × (List Int))) (a1 : (Bool × (List Int))) : Option ((Bool × (List Int)) × (Bool × (List Int)) × Int × Unit) :=
  (nat_Div.F (a0.2, a1.2, ())).bind fun y1 =>
  let v2 := (y1.2.2.1 != (0 : Int))
  bif v2 then (some ((false, ([] : List Int)), (false, ([] : List Int)), y1.2.2.1, ()))
  else ((whole_Sign.F ((a0.1, a0.2), ())).bind fun y3 =>
  (whole_Sign.F ((a1.1, a1.2), ())).bind fun y4 =>
  let v5 := ([y3.1, y4.1] : List Int)
  (whole_signed.F (y1.1, v5, ())).bind fun y6 =>
  (whole_Sign.F ((a0.1, a0.2), ())).bind fun y7 =>
  let v8 := ([y7.1] : List Int)
  (whole_signed.F (y1.2.1, v8, ())).bind fun y9 =>
  some ((y6.1.1, y6.1.2), (y9.1.1, y9.1.2), (0 : Int), ()))
theorem whole_Quo.eval (k : Nat) (a0 : (Bool × (List Int))) (a1 : (Bool × (List Int))) : evalF whole_Quo.spec whole_Quo.cals T Try.f43 k (a0, a1, ()) = whole_Quo.e  a0 a1 := by kernel_rfl
theorem whole_Quo.F_eq (a0 : (Bool × (List Int))) (a1 : (Bool × (List Int))) : whole_Quo.F (a0, a1, ()) = limF whole_Quo.spec whole_Quo.cals T Try.f43 (a0, a1, ()) := by kernel_rfl
theorem whole_Quo.of (k : Nat) (a0 : (Bool × (List Int))) (a1 : (Bool × (List Int))) {y : (Bool × (List Int)) × (Bool × (List Int)) × Int × Unit} (h : whole_Quo.e  a0 a1 = some y) : whole_Quo.F (a0, a1, ()) = some y := (whole_Quo.F_eq a0 a1).trans (limF_of (q := whole_Quo.spec) (C := whole_Quo.cals) (T := T) (f := Try.f43) (x := (a0, a1, ())) (y := y) k ((whole_Quo.eval k a0 a1).trans h))

/-! ### fulcrum/whole.moved -/
def whole_moved.spec : Spec := ⟨[(true, (.prod .bool (.sl 70 (.int .u32)))), (true, (.prod .bool (.sl 70 (.int .u32)))), (true, (.prod .bool (.sl 70 (.int .u32)))), (false, .bool)], [(true, (.prod .bool (.sl 70 (.int .u32)))), (true, (.prod .bool (.sl 70 (.int .u32)))), (false, (.int .i64))], .shared, fun j => match j with  | _ => []⟩
noncomputable def whole_moved.cals : Cals := (Cals.cons 29 whole_Sign.sig (Cals.cons 20 whole_Of.sig (Cals.cons 31 whole_Add.sig (Cals.cons 33 whole_Sub.sig Cals.nil))))
noncomputable def whole_moved.sig : Sig := whole_moved.spec.sig whole_moved.cals T Try.f91
noncomputable def whole_moved.F (x : (Bool × (List Int)) × (Bool × (List Int)) × (Bool × (List Int)) × Bool × Unit) : Option ((Bool × (List Int)) × (Bool × (List Int)) × Int × Unit) := limF whole_moved.spec whole_moved.cals T Try.f91 x
theorem whole_moved.ck : CalsOk Try.prog whole_moved.cals := (CalsOk.cons whole_Sign.cal (CalsOk.cons whole_Of.cal (CalsOk.cons whole_Add.cal (CalsOk.cons whole_Sub.cal CalsOk.nil))))
theorem whole_moved.cal : CalOk Try.prog 91 whole_moved.sig := calOk_lim' tabOk whole_moved.ck mix Try.func91 (by kernel_rfl) (by kernel_rfl) (by kernel_rfl) (by kernel_rfl)
noncomputable def whole_moved.e  (a0 : (Bool × (List Int))) (a1 : (Bool × (List Int))) (a2 : (Bool × (List Int))) (a3 : Bool) : Option ((Bool × (List Int)) × (Bool × (List Int)) × Int × Unit) :=
  let v1 := not a3
  bif v1 then (some ((a0.1, a0.2), (a1.1, a1.2), (0 : Int), ()))
  else ((whole_Sign.F ((a1.1, a1.2), ())).bind fun y2 =>
  (whole_Sign.F ((a2.1, a2.2), ())).bind fun y3 =>
  let v4 := (y2.1 == y3.1)
  bif v4 then ((whole_Of.F ((1 : Int), ())).bind fun y5 =>
  (whole_Add.F ((a0.1, a0.2), (y5.1.1, y5.1.2), ())).bind fun y6 =>
  (whole_Sub.F ((a1.1, a1.2), (a2.1, a2.2), ())).bind fun y7 =>
  some ((y6.1.1, y6.1.2), (y7.1.1, y7.1.2), (0 : Int), ()))
  else ((whole_Of.F ((1 : Int), ())).bind fun y8 =>
  (whole_Sub.F ((a0.1, a0.2), (y8.1.1, y8.1.2), ())).bind fun y9 =>
  (whole_Add.F ((a1.1, a1.2), (a2.1, a2.2), ())).bind fun y10 =>
  some ((y9.1.1, y9.1.2), (y10.1.1, y10.1.2), (0 : Int), ())))
theorem whole_moved.eval (k : Nat) (a0 : (Bool × (List Int))) (a1 : (Bool × (List Int))) (a2 : (Bool × (List Int))) (a3 : Bool) : evalF whole_moved.spec whole_moved.cals T Try.f91 k (a0, a1, a2, a3, ()) = whole_moved.e  a0 a1 a2 a3 := by kernel_rfl
theorem whole_moved.F_eq (a0 : (Bool × (List Int))) (a1 : (Bool × (List Int))) (a2 : (Bool × (List Int))) (a3 : Bool) : whole_moved.F (a0, a1, a2, a3, ()) = limF whole_moved.spec whole_moved.cals T Try.f91 (a0, a1, a2, a3, ()) := by kernel_rfl
theorem whole_moved.of (k : Nat) (a0 : (Bool × (List Int))) (a1 : (Bool × (List Int))) (a2 : (Bool × (List Int))) (a3 : Bool) {y : (Bool × (List Int)) × (Bool × (List Int)) × Int × Unit} (h : whole_moved.e  a0 a1 a2 a3 = some y) : whole_moved.F (a0, a1, a2, a3, ()) = some y := (whole_moved.F_eq a0 a1 a2 a3).trans (limF_of (q := whole_moved.spec) (C := whole_moved.cals) (T := T) (f := Try.f91) (x := (a0, a1, a2, a3, ())) (y := y) k ((whole_moved.eval k a0 a1 a2 a3).trans h))

/-! ### fulcrum/whole.Floor -/
def whole_Floor.spec : Spec := ⟨[(true, (.prod .bool (.sl 70 (.int .u32)))), (true, (.prod .bool (.sl 70 (.int .u32))))], [(true, (.prod .bool (.sl 70 (.int .u32)))), (true, (.prod .bool (.sl 70 (.int .u32)))), (false, (.int .i64))], .shared, fun j => match j with  | _ => []⟩
noncomputable def whole_Floor.cals : Cals := (Cals.cons 43 whole_Quo.sig (Cals.cons 29 whole_Sign.sig (Cals.cons 91 whole_moved.sig Cals.nil)))
noncomputable def whole_Floor.sig : Sig := whole_Floor.spec.sig whole_Floor.cals T Try.f45
noncomputable def whole_Floor.F (x : (Bool × (List Int)) × (Bool × (List Int)) × Unit) : Option ((Bool × (List Int)) × (Bool × (List Int)) × Int × Unit) := limF whole_Floor.spec whole_Floor.cals T Try.f45 x
theorem whole_Floor.ck : CalsOk Try.prog whole_Floor.cals := (CalsOk.cons whole_Quo.cal (CalsOk.cons whole_Sign.cal (CalsOk.cons whole_moved.cal CalsOk.nil)))
theorem whole_Floor.cal : CalOk Try.prog 45 whole_Floor.sig := calOk_lim' tabOk whole_Floor.ck mix Try.func45 (by kernel_rfl) (by kernel_rfl) (by kernel_rfl) (by kernel_rfl)
noncomputable def whole_Floor.e  (a0 : (Bool × (List Int))) (a1 : (Bool × (List Int))) : Option ((Bool × (List Int)) × (Bool × (List Int)) × Int × Unit) :=
  (whole_Quo.F ((a0.1, a0.2), (a1.1, a1.2), ())).bind fun y1 =>
  let v2 := (y1.2.2.1 != (0 : Int))
  bif v2 then (some ((y1.1.1, y1.1.2), (y1.2.1.1, y1.2.1.2), y1.2.2.1, ()))
  else ((whole_Sign.F ((y1.2.1.1, y1.2.1.2), ())).bind fun y3 =>
  (whole_Sign.F ((a1.1, a1.2), ())).bind fun y4 =>
  let v5 := IntKind.i64.wrap (y3.1 * y4.1)
  let v6 := decide (v5 < (0 : Int))
  (whole_moved.F ((y1.1.1, y1.1.2), (y1.2.1.1, y1.2.1.2), (a1.1, a1.2), v6, ())).bind fun y7 =>
  some ((y7.1.1, y7.1.2), (y7.2.1.1, y7.2.1.2), y7.2.2.1, ()))
theorem whole_Floor.eval (k : Nat) (a0 : (Bool × (List Int))) (a1 : (Bool × (List Int))) : evalF whole_Floor.spec whole_Floor.cals T Try.f45 k (a0, a1, ()) = whole_Floor.e  a0 a1 := by kernel_rfl
theorem whole_Floor.F_eq (a0 : (Bool × (List Int))) (a1 : (Bool × (List Int))) : whole_Floor.F (a0, a1, ()) = limF whole_Floor.spec whole_Floor.cals T Try.f45 (a0, a1, ()) := by kernel_rfl
theorem whole_Floor.of (k : Nat) (a0 : (Bool × (List Int))) (a1 : (Bool × (List Int))) {y : (Bool × (List Int)) × (Bool × (List Int)) × Int × Unit} (h : whole_Floor.e  a0 a1 = some y) : whole_Floor.F (a0, a1, ()) = some y := (whole_Floor.F_eq a0 a1).trans (limF_of (q := whole_Floor.spec) (C := whole_Floor.cals) (T := T) (f := Try.f45) (x := (a0, a1, ())) (y := y) k ((whole_Floor.eval k a0 a1).trans h))

/-! ### fulcrum/whole.Euclid -/
def whole_Euclid.spec : Spec := ⟨[(true, (.prod .bool (.sl 70 (.int .u32)))), (true, (.prod .bool (.sl 70 (.int .u32))))], [(true, (.prod .bool (.sl 70 (.int .u32)))), (true, (.prod .bool (.sl 70 (.int .u32)))), (false, (.int .i64))], .shared, fun j => match j with  | _ => []⟩
noncomputable def whole_Euclid.cals : Cals := (Cals.cons 43 whole_Quo.sig (Cals.cons 29 whole_Sign.sig (Cals.cons 20 whole_Of.sig (Cals.cons 31 whole_Add.sig (Cals.cons 33 whole_Sub.sig (Cals.cons 91 whole_moved.sig Cals.nil))))))
noncomputable def whole_Euclid.sig : Sig := whole_Euclid.spec.sig whole_Euclid.cals T Try.f47
noncomputable def whole_Euclid.F (x : (Bool × (List Int)) × (Bool × (List Int)) × Unit) : Option ((Bool × (List Int)) × (Bool × (List Int)) × Int × Unit) := limF whole_Euclid.spec whole_Euclid.cals T Try.f47 x
theorem whole_Euclid.ck : CalsOk Try.prog whole_Euclid.cals := (CalsOk.cons whole_Quo.cal (CalsOk.cons whole_Sign.cal (CalsOk.cons whole_Of.cal (CalsOk.cons whole_Add.cal (CalsOk.cons whole_Sub.cal (CalsOk.cons whole_moved.cal CalsOk.nil))))))
theorem whole_Euclid.cal : CalOk Try.prog 47 whole_Euclid.sig := calOk_lim' tabOk whole_Euclid.ck mix Try.func47 (by kernel_rfl) (by kernel_rfl) (by kernel_rfl) (by kernel_rfl)
noncomputable def whole_Euclid.e  (a0 : (Bool × (List Int))) (a1 : (Bool × (List Int))) : Option ((Bool × (List Int)) × (Bool × (List Int)) × Int × Unit) :=
  (whole_Quo.F ((a0.1, a0.2), (a1.1, a1.2), ())).bind fun y1 =>
  let v2 := (y1.2.2.1 != (0 : Int))
  bif v2 then (some ((y1.1.1, y1.1.2), (y1.2.1.1, y1.2.1.2), y1.2.2.1, ()))
  else ((whole_Sign.F ((y1.2.1.1, y1.2.1.2), ())).bind fun y3 =>
  let v4 := decide (y3.1 < (0 : Int))
  bif v4 then ((whole_Sign.F ((a1.1, a1.2), ())).bind fun y5 =>
  let v6 := decide (y5.1 < (0 : Int))
  bif v6 then ((whole_Of.F ((1 : Int), ())).bind fun y7 =>
  (whole_Add.F ((y1.1.1, y1.1.2), (y7.1.1, y7.1.2), ())).bind fun y8 =>
  (whole_Sub.F ((y1.2.1.1, y1.2.1.2), (a1.1, a1.2), ())).bind fun y9 =>
  some ((y8.1.1, y8.1.2), (y9.1.1, y9.1.2), (0 : Int), ()))
  else ((whole_Sign.F ((y1.2.1.1, y1.2.1.2), ())).bind fun y10 =>
  let v11 := decide (y10.1 < (0 : Int))
  (whole_moved.F ((y1.1.1, y1.1.2), (y1.2.1.1, y1.2.1.2), (a1.1, a1.2), v11, ())).bind fun y12 =>
  some ((y12.1.1, y12.1.2), (y12.2.1.1, y12.2.1.2), y12.2.2.1, ())))
  else ((whole_Sign.F ((y1.2.1.1, y1.2.1.2), ())).bind fun y13 =>
  let v14 := decide (y13.1 < (0 : Int))
  (whole_moved.F ((y1.1.1, y1.1.2), (y1.2.1.1, y1.2.1.2), (a1.1, a1.2), v14, ())).bind fun y15 =>
  some ((y15.1.1, y15.1.2), (y15.2.1.1, y15.2.1.2), y15.2.2.1, ())))
theorem whole_Euclid.eval (k : Nat) (a0 : (Bool × (List Int))) (a1 : (Bool × (List Int))) : evalF whole_Euclid.spec whole_Euclid.cals T Try.f47 k (a0, a1, ()) = whole_Euclid.e  a0 a1 := by kernel_rfl
theorem whole_Euclid.F_eq (a0 : (Bool × (List Int))) (a1 : (Bool × (List Int))) : whole_Euclid.F (a0, a1, ()) = limF whole_Euclid.spec whole_Euclid.cals T Try.f47 (a0, a1, ()) := by kernel_rfl
theorem whole_Euclid.of (k : Nat) (a0 : (Bool × (List Int))) (a1 : (Bool × (List Int))) {y : (Bool × (List Int)) × (Bool × (List Int)) × Int × Unit} (h : whole_Euclid.e  a0 a1 = some y) : whole_Euclid.F (a0, a1, ()) = some y := (whole_Euclid.F_eq a0 a1).trans (limF_of (q := whole_Euclid.spec) (C := whole_Euclid.cals) (T := T) (f := Try.f47) (x := (a0, a1, ())) (y := y) k ((whole_Euclid.eval k a0 a1).trans h))

/-! ### fulcrum/fulcrumref02.Euclid -/
def fulcrumref02_Euclid.spec : Spec := ⟨[(true, (.prod .bool (.sl 70 (.int .u32)))), (true, (.prod .bool (.sl 70 (.int .u32))))], [(true, (.prod .bool (.sl 70 (.int .u32)))), (true, (.prod .bool (.sl 70 (.int .u32)))), (false, (.int .i64))], .own, fun j => match j with  | _ => []⟩
noncomputable def fulcrumref02_Euclid.cals : Cals := (Cals.cons 44 fulcrumref02_Quo.sig (Cals.cons 30 fulcrumref02_Sign.sig (Cals.cons 21 fulcrumref02_Of.sig (Cals.cons 34 fulcrumref02_Sub.sig (Cals.cons 32 fulcrumref02_Add.sig Cals.nil)))))
noncomputable def fulcrumref02_Euclid.sig : Sig := fulcrumref02_Euclid.spec.sig fulcrumref02_Euclid.cals T Try.f48
noncomputable def fulcrumref02_Euclid.F (x : (Bool × (List Int)) × (Bool × (List Int)) × Unit) : Option ((Bool × (List Int)) × (Bool × (List Int)) × Int × Unit) := limF fulcrumref02_Euclid.spec fulcrumref02_Euclid.cals T Try.f48 x
theorem fulcrumref02_Euclid.ck : CalsOk Try.prog fulcrumref02_Euclid.cals := (CalsOk.cons fulcrumref02_Quo.cal (CalsOk.cons fulcrumref02_Sign.cal (CalsOk.cons fulcrumref02_Of.cal (CalsOk.cons fulcrumref02_Sub.cal (CalsOk.cons fulcrumref02_Add.cal CalsOk.nil)))))
theorem fulcrumref02_Euclid.cal : CalOk Try.prog 48 fulcrumref02_Euclid.sig := calOk_lim' tabOk fulcrumref02_Euclid.ck mix Try.func48 (by kernel_rfl) (by kernel_rfl) (by kernel_rfl) (by kernel_rfl)
noncomputable def fulcrumref02_Euclid.e  (a0 : (Bool × (List Int))) (a1 : (Bool × (List Int))) : Option ((Bool × (List Int)) × (Bool × (List Int)) × Int × Unit) :=
  (fulcrumref02_Quo.F ((a0.1, a0.2), (a1.1, a1.2), ())).bind fun y1 =>
  let v2 := (y1.2.2.1 != (0 : Int))
  bif v2 then (some ((y1.1.1, y1.1.2), (y1.2.1.1, y1.2.1.2), y1.2.2.1, ()))
  else ((fulcrumref02_Sign.F ((y1.2.1.1, y1.2.1.2), ())).bind fun y3 =>
  let v4 := decide (y3.1 ≥ (0 : Int))
  bif v4 then (some ((y1.1.1, y1.1.2), (y1.2.1.1, y1.2.1.2), y1.2.2.1, ()))
  else ((fulcrumref02_Sign.F ((a1.1, a1.2), ())).bind fun y5 =>
  let v6 := decide (y5.1 > (0 : Int))
  bif v6 then ((fulcrumref02_Of.F ((1 : Int), ())).bind fun y7 =>
  (fulcrumref02_Sub.F ((y1.1.1, y1.1.2), (y7.1.1, y7.1.2), ())).bind fun y8 =>
  (fulcrumref02_Add.F ((y1.2.1.1, y1.2.1.2), (a1.1, a1.2), ())).bind fun y9 =>
  some ((y8.1.1, y8.1.2), (y9.1.1, y9.1.2), (0 : Int), ()))
  else ((fulcrumref02_Of.F ((1 : Int), ())).bind fun y10 =>
  (fulcrumref02_Add.F ((y1.1.1, y1.1.2), (y10.1.1, y10.1.2), ())).bind fun y11 =>
  (fulcrumref02_Sub.F ((y1.2.1.1, y1.2.1.2), (a1.1, a1.2), ())).bind fun y12 =>
  some ((y11.1.1, y11.1.2), (y12.1.1, y12.1.2), (0 : Int), ()))))
theorem fulcrumref02_Euclid.eval (k : Nat) (a0 : (Bool × (List Int))) (a1 : (Bool × (List Int))) : evalF fulcrumref02_Euclid.spec fulcrumref02_Euclid.cals T Try.f48 k (a0, a1, ()) = fulcrumref02_Euclid.e  a0 a1 := by kernel_rfl
theorem fulcrumref02_Euclid.F_eq (a0 : (Bool × (List Int))) (a1 : (Bool × (List Int))) : fulcrumref02_Euclid.F (a0, a1, ()) = limF fulcrumref02_Euclid.spec fulcrumref02_Euclid.cals T Try.f48 (a0, a1, ()) := by kernel_rfl
theorem fulcrumref02_Euclid.of (k : Nat) (a0 : (Bool × (List Int))) (a1 : (Bool × (List Int))) {y : (Bool × (List Int)) × (Bool × (List Int)) × Int × Unit} (h : fulcrumref02_Euclid.e  a0 a1 = some y) : fulcrumref02_Euclid.F (a0, a1, ()) = some y := (fulcrumref02_Euclid.F_eq a0 a1).trans (limF_of (q := fulcrumref02_Euclid.spec) (C := fulcrumref02_Euclid.cals) (T := T) (f := Try.f48) (x := (a0, a1, ())) (y := y) k ((fulcrumref02_Euclid.eval k a0 a1).trans h))

/-! ### fulcrum/fulcrumlaw02.WholeDivides -/
def fulcrumlaw02_WholeDivides.spec : Spec := ⟨[(true, (.prod .bool (.sl 70 (.int .u32)))), (true, (.prod .bool (.sl 70 (.int .u32))))], [(false, .bool)], .own, fun j => match j with  | _ => []⟩
noncomputable def fulcrumlaw02_WholeDivides.cals : Cals := (Cals.cons 43 whole_Quo.sig (Cals.cons 44 fulcrumref02_Quo.sig (Cals.cons 19 fulcrumlaw02_same.sig (Cals.cons 45 whole_Floor.sig (Cals.cons 46 fulcrumref02_Floor.sig (Cals.cons 47 whole_Euclid.sig (Cals.cons 48 fulcrumref02_Euclid.sig Cals.nil)))))))
noncomputable def fulcrumlaw02_WholeDivides.sig : Sig := fulcrumlaw02_WholeDivides.spec.sig fulcrumlaw02_WholeDivides.cals T Try.f8
noncomputable def fulcrumlaw02_WholeDivides.F (x : (Bool × (List Int)) × (Bool × (List Int)) × Unit) : Option (Bool × Unit) := limF fulcrumlaw02_WholeDivides.spec fulcrumlaw02_WholeDivides.cals T Try.f8 x
theorem fulcrumlaw02_WholeDivides.ck : CalsOk Try.prog fulcrumlaw02_WholeDivides.cals := (CalsOk.cons whole_Quo.cal (CalsOk.cons fulcrumref02_Quo.cal (CalsOk.cons fulcrumlaw02_same.cal (CalsOk.cons whole_Floor.cal (CalsOk.cons fulcrumref02_Floor.cal (CalsOk.cons whole_Euclid.cal (CalsOk.cons fulcrumref02_Euclid.cal CalsOk.nil)))))))
theorem fulcrumlaw02_WholeDivides.cal : CalOk Try.prog 8 fulcrumlaw02_WholeDivides.sig := calOk_lim' tabOk fulcrumlaw02_WholeDivides.ck mix Try.func8 (by kernel_rfl) (by kernel_rfl) (by kernel_rfl) (by kernel_rfl)
noncomputable def fulcrumlaw02_WholeDivides.e  (a0 : (Bool × (List Int))) (a1 : (Bool × (List Int))) : Option (Bool × Unit) :=
  (whole_Quo.F ((a0.1, a0.2), (a1.1, a1.2), ())).bind fun y1 =>
  (fulcrumref02_Quo.F ((a0.1, a0.2), (a1.1, a1.2), ())).bind fun y2 =>
  let v3 := (y1.2.2.1 != y2.2.2.1)
  bif v3 then (some (false, ()))
  else ((fulcrumlaw02_same.F ((y1.1.1, y1.1.2), (y2.1.1, y2.1.2), ())).bind fun y4 =>
  let v5 := not y4.1
  bif v5 then (some (false, ()))
  else ((fulcrumlaw02_same.F ((y1.2.1.1, y1.2.1.2), (y2.2.1.1, y2.2.1.2), ())).bind fun y6 =>
  let v7 := not y6.1
  bif v7 then (some (false, ()))
  else ((whole_Floor.F ((a0.1, a0.2), (a1.1, a1.2), ())).bind fun y8 =>
  (fulcrumref02_Floor.F ((a0.1, a0.2), (a1.1, a1.2), ())).bind fun y9 =>
  let v10 := (y8.2.2.1 != y9.2.2.1)
  bif v10 then (some (false, ()))
  else ((fulcrumlaw02_same.F ((y8.1.1, y8.1.2), (y9.1.1, y9.1.2), ())).bind fun y11 =>
  let v12 := not y11.1
  bif v12 then (some (false, ()))
  else ((fulcrumlaw02_same.F ((y8.2.1.1, y8.2.1.2), (y9.2.1.1, y9.2.1.2), ())).bind fun y13 =>
  let v14 := not y13.1
  bif v14 then (some (false, ()))
  else ((whole_Euclid.F ((a0.1, a0.2), (a1.1, a1.2), ())).bind fun y15 =>
  (fulcrumref02_Euclid.F ((a0.1, a0.2), (a1.1, a1.2), ())).bind fun y16 =>
  let v17 := (y15.2.2.1 == y16.2.2.1)
  bif v17 then ((fulcrumlaw02_same.F ((y15.1.1, y15.1.2), (y16.1.1, y16.1.2), ())).bind fun y18 =>
  bif y18.1 then ((fulcrumlaw02_same.F ((y15.2.1.1, y15.2.1.2), (y16.2.1.1, y16.2.1.2), ())).bind fun y19 =>
  some (y19.1, ()))
  else (some (false, ())))
  else (some (false, ()))))))))
theorem fulcrumlaw02_WholeDivides.eval (k : Nat) (a0 : (Bool × (List Int))) (a1 : (Bool × (List Int))) : evalF fulcrumlaw02_WholeDivides.spec fulcrumlaw02_WholeDivides.cals T Try.f8 k (a0, a1, ()) = fulcrumlaw02_WholeDivides.e  a0 a1 := by kernel_rfl
theorem fulcrumlaw02_WholeDivides.F_eq (a0 : (Bool × (List Int))) (a1 : (Bool × (List Int))) : fulcrumlaw02_WholeDivides.F (a0, a1, ()) = limF fulcrumlaw02_WholeDivides.spec fulcrumlaw02_WholeDivides.cals T Try.f8 (a0, a1, ()) := by kernel_rfl
theorem fulcrumlaw02_WholeDivides.of (k : Nat) (a0 : (Bool × (List Int))) (a1 : (Bool × (List Int))) {y : Bool × Unit} (h : fulcrumlaw02_WholeDivides.e  a0 a1 = some y) : fulcrumlaw02_WholeDivides.F (a0, a1, ()) = some y := (fulcrumlaw02_WholeDivides.F_eq a0 a1).trans (limF_of (q := fulcrumlaw02_WholeDivides.spec) (C := fulcrumlaw02_WholeDivides.cals) (T := T) (f := Try.f8) (x := (a0, a1, ())) (y := y) k ((fulcrumlaw02_WholeDivides.eval k a0 a1).trans h))

/-! ### fulcrum/fulcrumlaw02.within -/
def fulcrumlaw02_within.spec : Spec := ⟨[(true, (.prod .bool (.sl 70 (.int .u32)))), (true, (.prod .bool (.sl 70 (.int .u32)))), (false, (.int .i64))], [(false, .bool)], .own, fun j => match j with  | _ => []⟩
noncomputable def fulcrumlaw02_within.cals : Cals := (Cals.cons 29 whole_Sign.sig (Cals.cons 27 whole_Abs.sig (Cals.cons 37 whole_Cmp.sig Cals.nil)))
noncomputable def fulcrumlaw02_within.sig : Sig := fulcrumlaw02_within.spec.sig fulcrumlaw02_within.cals T Try.f49
noncomputable def fulcrumlaw02_within.F (x : (Bool × (List Int)) × (Bool × (List Int)) × Int × Unit) : Option (Bool × Unit) := limF fulcrumlaw02_within.spec fulcrumlaw02_within.cals T Try.f49 x
theorem fulcrumlaw02_within.ck : CalsOk Try.prog fulcrumlaw02_within.cals := (CalsOk.cons whole_Sign.cal (CalsOk.cons whole_Abs.cal (CalsOk.cons whole_Cmp.cal CalsOk.nil)))
theorem fulcrumlaw02_within.cal : CalOk Try.prog 49 fulcrumlaw02_within.sig := calOk_lim' tabOk fulcrumlaw02_within.ck mix Try.func49 (by kernel_rfl) (by kernel_rfl) (by kernel_rfl) (by kernel_rfl)
noncomputable def fulcrumlaw02_within.e  (a0 : (Bool × (List Int))) (a1 : (Bool × (List Int))) (a2 : Int) : Option (Bool × Unit) :=
  (whole_Sign.F ((a0.1, a0.2), ())).bind fun y1 =>
  let v2 := (y1.1 != (0 : Int))
  bif v2 then ((whole_Sign.F ((a0.1, a0.2), ())).bind fun y3 =>
  let v4 := (y3.1 != a2)
  bif v4 then (some (false, ()))
  else ((whole_Abs.F ((a0.1, a0.2), ())).bind fun y5 =>
  (whole_Abs.F ((a1.1, a1.2), ())).bind fun y6 =>
  (whole_Cmp.F ((false, y5.1), (false, y6.1), ())).bind fun y7 =>
  let v8 := (y7.1 == (-1 : Int))
  some (v8, ())))
  else ((whole_Abs.F ((a0.1, a0.2), ())).bind fun y9 =>
  (whole_Abs.F ((a1.1, a1.2), ())).bind fun y10 =>
  (whole_Cmp.F ((false, y9.1), (false, y10.1), ())).bind fun y11 =>
  let v12 := (y11.1 == (-1 : Int))
  some (v12, ()))
theorem fulcrumlaw02_within.eval (k : Nat) (a0 : (Bool × (List Int))) (a1 : (Bool × (List Int))) (a2 : Int) : evalF fulcrumlaw02_within.spec fulcrumlaw02_within.cals T Try.f49 k (a0, a1, a2, ()) = fulcrumlaw02_within.e  a0 a1 a2 := by kernel_rfl
theorem fulcrumlaw02_within.F_eq (a0 : (Bool × (List Int))) (a1 : (Bool × (List Int))) (a2 : Int) : fulcrumlaw02_within.F (a0, a1, a2, ()) = limF fulcrumlaw02_within.spec fulcrumlaw02_within.cals T Try.f49 (a0, a1, a2, ()) := by kernel_rfl
theorem fulcrumlaw02_within.of (k : Nat) (a0 : (Bool × (List Int))) (a1 : (Bool × (List Int))) (a2 : Int) {y : Bool × Unit} (h : fulcrumlaw02_within.e  a0 a1 a2 = some y) : fulcrumlaw02_within.F (a0, a1, a2, ()) = some y := (fulcrumlaw02_within.F_eq a0 a1 a2).trans (limF_of (q := fulcrumlaw02_within.spec) (C := fulcrumlaw02_within.cals) (T := T) (f := Try.f49) (x := (a0, a1, a2, ())) (y := y) k ((fulcrumlaw02_within.eval k a0 a1 a2).trans h))

/-! ### fulcrum/fulcrumlaw02.WholeDivision -/
def fulcrumlaw02_WholeDivision.spec : Spec := ⟨[(true, (.prod .bool (.sl 70 (.int .u32)))), (true, (.prod .bool (.sl 70 (.int .u32))))], [(false, .bool)], .own, fun j => match j with  | _ => []⟩
noncomputable def fulcrumlaw02_WholeDivision.cals : Cals := (Cals.cons 39 fulcrumlaw02_awake.sig (Cals.cons 43 whole_Quo.sig (Cals.cons 45 whole_Floor.sig (Cals.cons 47 whole_Euclid.sig (Cals.cons 29 whole_Sign.sig (Cals.cons 35 whole_Mul.sig (Cals.cons 31 whole_Add.sig (Cals.cons 22 whole_Norm.sig (Cals.cons 19 fulcrumlaw02_same.sig (Cals.cons 49 fulcrumlaw02_within.sig Cals.nil))))))))))
noncomputable def fulcrumlaw02_WholeDivision.sig : Sig := fulcrumlaw02_WholeDivision.spec.sig fulcrumlaw02_WholeDivision.cals T Try.f9
noncomputable def fulcrumlaw02_WholeDivision.F (x : (Bool × (List Int)) × (Bool × (List Int)) × Unit) : Option (Bool × Unit) := limF fulcrumlaw02_WholeDivision.spec fulcrumlaw02_WholeDivision.cals T Try.f9 x
theorem fulcrumlaw02_WholeDivision.ck : CalsOk Try.prog fulcrumlaw02_WholeDivision.cals := (CalsOk.cons fulcrumlaw02_awake.cal (CalsOk.cons whole_Quo.cal (CalsOk.cons whole_Floor.cal (CalsOk.cons whole_Euclid.cal (CalsOk.cons whole_Sign.cal (CalsOk.cons whole_Mul.cal (CalsOk.cons whole_Add.cal (CalsOk.cons whole_Norm.cal (CalsOk.cons fulcrumlaw02_same.cal (CalsOk.cons fulcrumlaw02_within.cal CalsOk.nil))))))))))
theorem fulcrumlaw02_WholeDivision.cal : CalOk Try.prog 9 fulcrumlaw02_WholeDivision.sig := calOk_lim' tabOk fulcrumlaw02_WholeDivision.ck mix Try.func9 (by kernel_rfl) (by kernel_rfl) (by kernel_rfl) (by kernel_rfl)
noncomputable def fulcrumlaw02_WholeDivision.e  (a0 : (Bool × (List Int))) (a1 : (Bool × (List Int))) : Option (Bool × Unit) :=
  (fulcrumlaw02_awake.F ()).bind fun y1 =>
  let v2 := not y1.1
  bif v2 then (some (false, ()))
  else ((whole_Quo.F ((a0.1, a0.2), (a1.1, a1.2), ())).bind fun y3 =>
  (whole_Floor.F ((a0.1, a0.2), (a1.1, a1.2), ())).bind fun y4 =>
  (whole_Euclid.F ((a0.1, a0.2), (a1.1, a1.2), ())).bind fun y5 =>
  (whole_Sign.F ((a1.1, a1.2), ())).bind fun y6 =>
  let v7 := (y6.1 == (0 : Int))
  bif v7 then (let v8 := (y3.2.2.1 == (11 : Int))
  bif v8 then (let v9 := (y4.2.2.1 == (11 : Int))
  bif v9 then (let v10 := (y5.2.2.1 == (11 : Int))
  some (v10, ()))
  else (some (false, ())))
  else (some (false, ())))
  else (let v11 := (y3.2.2.1 != (0 : Int))
  bif v11 then (some (false, ()))
  else (let v12 := (y4.2.2.1 != (0 : Int))
  bif v12 then (some (false, ()))
  else (let v13 := (y5.2.2.1 != (0 : Int))
  bif v13 then (some (false, ()))
  else ((whole_Mul.F ((y3.1.1, y3.1.2), (a1.1, a1.2), ())).bind fun y14 =>
  (whole_Add.F ((y14.1.1, y14.1.2), (y3.2.1.1, y3.2.1.2), ())).bind fun y15 =>
  (whole_Norm.F ((a0.1, a0.2), ())).bind fun y16 =>
  (fulcrumlaw02_same.F ((y15.1.1, y15.1.2), (y16.1.1, y16.1.2), ())).bind fun y17 =>
  let v18 := not y17.1
  bif v18 then (some (false, ()))
  else ((whole_Sign.F ((a0.1, a0.2), ())).bind fun y19 =>
  (fulcrumlaw02_within.F ((y3.2.1.1, y3.2.1.2), (a1.1, a1.2), y19.1, ())).bind fun y20 =>
  let v21 := not y20.1
  bif v21 then (some (false, ()))
  else ((whole_Mul.F ((y4.1.1, y4.1.2), (a1.1, a1.2), ())).bind fun y22 =>
  (whole_Add.F ((y22.1.1, y22.1.2), (y4.2.1.1, y4.2.1.2), ())).bind fun y23 =>
  (whole_Norm.F ((a0.1, a0.2), ())).bind fun y24 =>
  (fulcrumlaw02_same.F ((y23.1.1, y23.1.2), (y24.1.1, y24.1.2), ())).bind fun y25 =>
  let v26 := not y25.1
  bif v26 then (some (false, ()))
  else ((whole_Sign.F ((a1.1, a1.2), ())).bind fun y27 =>
  (fulcrumlaw02_within.F ((y4.2.1.1, y4.2.1.2), (a1.1, a1.2), y27.1, ())).bind fun y28 =>
  let v29 := not y28.1
  bif v29 then (some (false, ()))
  else ((whole_Mul.F ((y5.1.1, y5.1.2), (a1.1, a1.2), ())).bind fun y30 =>
  (whole_Add.F ((y30.1.1, y30.1.2), (y5.2.1.1, y5.2.1.2), ())).bind fun y31 =>
  (whole_Norm.F ((a0.1, a0.2), ())).bind fun y32 =>
  (fulcrumlaw02_same.F ((y31.1.1, y31.1.2), (y32.1.1, y32.1.2), ())).bind fun y33 =>
  bif y33.1 then ((fulcrumlaw02_within.F ((y5.2.1.1, y5.2.1.2), (a1.1, a1.2), (1 : Int), ())).bind fun y34 =>
  some (y34.1, ()))
  else (some (false, ())))))))))))
theorem fulcrumlaw02_WholeDivision.eval (k : Nat) (a0 : (Bool × (List Int))) (a1 : (Bool × (List Int))) : evalF fulcrumlaw02_WholeDivision.spec fulcrumlaw02_WholeDivision.cals T Try.f9 k (a0, a1, ()) = fulcrumlaw02_WholeDivision.e  a0 a1 := by kernel_rfl
theorem fulcrumlaw02_WholeDivision.F_eq (a0 : (Bool × (List Int))) (a1 : (Bool × (List Int))) : fulcrumlaw02_WholeDivision.F (a0, a1, ()) = limF fulcrumlaw02_WholeDivision.spec fulcrumlaw02_WholeDivision.cals T Try.f9 (a0, a1, ()) := by kernel_rfl
theorem fulcrumlaw02_WholeDivision.of (k : Nat) (a0 : (Bool × (List Int))) (a1 : (Bool × (List Int))) {y : Bool × Unit} (h : fulcrumlaw02_WholeDivision.e  a0 a1 = some y) : fulcrumlaw02_WholeDivision.F (a0, a1, ()) = some y := (fulcrumlaw02_WholeDivision.F_eq a0 a1).trans (limF_of (q := fulcrumlaw02_WholeDivision.spec) (C := fulcrumlaw02_WholeDivision.cals) (T := T) (f := Try.f9) (x := (a0, a1, ())) (y := y) k ((fulcrumlaw02_WholeDivision.eval k a0 a1).trans h))

/-! ### fulcrum/whole.plain -/
def whole_plain.spec : Spec := ⟨[(false, (.sl 70 (.int .u32)))], [(true, (.prod .bool (.sl 70 (.int .u32))))], .own, fun j => match j with  | _ => []⟩
noncomputable def whole_plain.cals : Cals := (Cals.cons 72 whole_signed.sig Cals.nil)
noncomputable def whole_plain.sig : Sig := whole_plain.spec.sig whole_plain.cals T Try.f94
noncomputable def whole_plain.F (x : (List Int) × Unit) : Option ((Bool × (List Int)) × Unit) := limF whole_plain.spec whole_plain.cals T Try.f94 x
theorem whole_plain.ck : CalsOk Try.prog whole_plain.cals := (CalsOk.cons whole_signed.cal CalsOk.nil)
theorem whole_plain.cal : CalOk Try.prog 94 whole_plain.sig := calOk_lim' tabOk whole_plain.ck mix Try.func94 (by kernel_rfl) (by kernel_rfl) (by kernel_rfl) (by kernel_rfl)
noncomputable def whole_plain.e  (a0 : (List Int)) : Option ((Bool × (List Int)) × Unit) :=
  (whole_signed.F (a0, ([] : List Int), ())).bind fun y1 =>
  some ((y1.1.1, y1.1.2), ())
theorem whole_plain.eval (k : Nat) (a0 : (List Int)) : evalF whole_plain.spec whole_plain.cals T Try.f94 k (a0, ()) = whole_plain.e  a0 := by kernel_rfl
theorem whole_plain.F_eq (a0 : (List Int)) : whole_plain.F (a0, ()) = limF whole_plain.spec whole_plain.cals T Try.f94 (a0, ()) := by kernel_rfl
theorem whole_plain.of (k : Nat) (a0 : (List Int)) {y : (Bool × (List Int)) × Unit} (h : whole_plain.e  a0 = some y) : whole_plain.F (a0, ()) = some y := (whole_plain.F_eq a0).trans (limF_of (q := whole_plain.spec) (C := whole_plain.cals) (T := T) (f := Try.f94) (x := (a0, ())) (y := y) k ((whole_plain.eval k a0).trans h))

/-! ### fulcrum/whole.Inverse -/
def whole_Inverse.spec : Spec := ⟨[(true, (.prod .bool (.sl 70 (.int .u32)))), (true, (.prod .bool (.sl 70 (.int .u32))))], [(true, (.prod .bool (.sl 70 (.int .u32)))), (false, (.int .i64))], .shared, fun j => match j with | 6 => [(3, .box 25 [.v true, .z 70 (.int .u32) true]), (4, .box 25 [.v true, .v true]), (6, .box 25 [.v true, .z 70 (.int .u32) true]), (7, .box 25 [.v true, .o 70 (.int .u32) true]), (9, .box 25 [.v true, .z 70 (.int .u32) true]), (11, .box 25 [.v true, .o 70 (.int .u32) true])] | _ => []⟩
noncomputable def whole_Inverse.cals : Cals := (Cals.cons 29 whole_Sign.sig (Cals.cons 94 whole_plain.sig (Cals.cons 20 whole_Of.sig (Cals.cons 47 whole_Euclid.sig (Cals.cons 43 whole_Quo.sig (Cals.cons 35 whole_Mul.sig (Cals.cons 33 whole_Sub.sig (Cals.cons 37 whole_Cmp.sig Cals.nil))))))))
noncomputable def whole_Inverse.sig : Sig := whole_Inverse.spec.sig whole_Inverse.cals T Try.f55
noncomputable def whole_Inverse.F (x : (Bool × (List Int)) × (Bool × (List Int)) × Unit) : Option ((Bool × (List Int)) × Int × Unit) := limF whole_Inverse.spec whole_Inverse.cals T Try.f55 x
theorem whole_Inverse.ck : CalsOk Try.prog whole_Inverse.cals := (CalsOk.cons whole_Sign.cal (CalsOk.cons whole_plain.cal (CalsOk.cons whole_Of.cal (CalsOk.cons whole_Euclid.cal (CalsOk.cons whole_Quo.cal (CalsOk.cons whole_Mul.cal (CalsOk.cons whole_Sub.cal (CalsOk.cons whole_Cmp.cal CalsOk.nil))))))))
theorem whole_Inverse.cal : CalOk Try.prog 55 whole_Inverse.sig := calOk_lim' tabOk whole_Inverse.ck mix Try.func55 (by kernel_rfl) (by kernel_rfl) (by kernel_rfl) (by kernel_rfl)
def whole_Inverse.m6 (x3_0 : Bool) (x3_1 : (List Int)) (x4_0 : Bool) (x6_0 : Bool) (x6_1 : (List Int)) (x7_0 : Bool) (x7_1 : (List Int)) (x9_0 : Bool) (x9_1 : (List Int)) (x11_0 : Bool) (x11_1 : (List Int)) : S := ⟨[(3, .box 0 0), (4, .box 1 0), (6, .box 2 0), (7, .box 3 0), (9, .box 4 0), (11, .box 5 0)], ⟨[some ⟨70, (.int .u32), true, true, x7_1⟩, some ⟨70, (.int .u32), true, true, x11_1⟩], [some ⟨25, [.val true .bool x3_0, .val true (.sl 70 (.int .u32)) x3_1]⟩, some ⟨25, [.val true .bool x4_0, .nil]⟩, some ⟨25, [.val true .bool x6_0, .val true (.sl 70 (.int .u32)) x6_1]⟩, some ⟨25, [.val true .bool x7_0, .own 0]⟩, some ⟨25, [.val true .bool x9_0, .val true (.sl 70 (.int .u32)) x9_1]⟩, some ⟨25, [.val true .bool x11_0, .own 1]⟩]⟩⟩
noncomputable def whole_Inverse.b6 (f6 : Bool → (List Int) → Bool → Bool → (List Int) → Bool → (List Int) → Bool → (List Int) → Bool → (List Int) → Option ((Bool × (List Int)) × Int × Unit)) (x3_0 : Bool) (x3_1 : (List Int)) (x4_0 : Bool) (x6_0 : Bool) (x6_1 : (List Int)) (x7_0 : Bool) (x7_1 : (List Int)) (x9_0 : Bool) (x9_1 : (List Int)) (x11_0 : Bool) (x11_1 : (List Int)) : Option ((Bool × (List Int)) × Int × Unit) :=
  (whole_Sign.F ((x9_0, x9_1), ())).bind fun y1 =>
  let v2 := (y1.1 != (0 : Int))
  bif v2 then ((whole_Quo.F ((x6_0, x6_1), (x9_0, x9_1), ())).bind fun y3 =>
  (whole_Mul.F ((y3.1.1, y3.1.2), (x11_0, x11_1), ())).bind fun y4 =>
  (whole_Sub.F ((x7_0, x7_1), (y4.1.1, y4.1.2), ())).bind fun y5 =>
  f6 x3_0 x3_1 x4_0 x9_0 x9_1 x11_0 x11_1 y3.2.1.1 y3.2.1.2 y5.1.1 y5.1.2)
  else ((whole_Of.F ((1 : Int), ())).bind fun y6 =>
  (whole_Cmp.F ((x6_0, x6_1), (y6.1.1, y6.1.2), ())).bind fun y7 =>
  let v8 := (y7.1 != (0 : Int))
  bif v8 then (some ((false, ([] : List Int)), (20 : Int), ()))
  else ((whole_Euclid.F ((x7_0, x7_1), (x3_0, x3_1), ())).bind fun y9 =>
  some ((y9.2.1.1, y9.2.1.2), (0 : Int), ())))
noncomputable def whole_Inverse.e (f6 : Bool → (List Int) → Bool → Bool → (List Int) → Bool → (List Int) → Bool → (List Int) → Bool → (List Int) → Option ((Bool × (List Int)) × Int × Unit)) (a0 : (Bool × (List Int))) (a1 : (Bool × (List Int))) : Option ((Bool × (List Int)) × Int × Unit) :=
  (whole_Sign.F ((a1.1, a1.2), ())).bind fun y1 =>
  let v2 := (y1.1 == (0 : Int))
  bif v2 then (some ((false, ([] : List Int)), (20 : Int), ()))
  else ((whole_plain.F (a1.2, ())).bind fun y3 =>
  (whole_Of.F ((0 : Int), ())).bind fun y4 =>
  (whole_Euclid.F ((a0.1, a0.2), (a1.1, a1.2), ())).bind fun y5 =>
  (whole_Of.F ((1 : Int), ())).bind fun y6 =>
  f6 a1.1 a1.2 false y3.1.1 y3.1.2 y4.1.1 y4.1.2 y5.2.1.1 y5.2.1.2 y6.1.1 y6.1.2)
noncomputable def whole_Inverse.L6 (k : Nat) (x3_0 : Bool) (x3_1 : (List Int)) (x4_0 : Bool) (x6_0 : Bool) (x6_1 : (List Int)) (x7_0 : Bool) (x7_1 : (List Int)) (x9_0 : Bool) (x9_1 : (List Int)) (x11_0 : Bool) (x11_1 : (List Int)) : Option ((Bool × (List Int)) × Int × Unit) := heads (whole_Inverse.spec.env whole_Inverse.cals T Try.f55) (Func.pts Try.f55) k 6 (whole_Inverse.m6 x3_0 x3_1 x4_0 x6_0 x6_1 x7_0 x7_1 x9_0 x9_1 x11_0 x11_1)
theorem whole_Inverse.L6_succ (k : Nat) (x3_0 : Bool) (x3_1 : (List Int)) (x4_0 : Bool) (x6_0 : Bool) (x6_1 : (List Int)) (x7_0 : Bool) (x7_1 : (List Int)) (x9_0 : Bool) (x9_1 : (List Int)) (x11_0 : Bool) (x11_1 : (List Int)) : whole_Inverse.L6 (k + 1) x3_0 x3_1 x4_0 x6_0 x6_1 x7_0 x7_1 x9_0 x9_1 x11_0 x11_1 = whole_Inverse.b6 (whole_Inverse.L6 k) x3_0 x3_1 x4_0 x6_0 x6_1 x7_0 x7_1 x9_0 x9_1 x11_0 x11_1 := by kernel_rfl
theorem whole_Inverse.L6_zero (x3_0 : Bool) (x3_1 : (List Int)) (x4_0 : Bool) (x6_0 : Bool) (x6_1 : (List Int)) (x7_0 : Bool) (x7_1 : (List Int)) (x9_0 : Bool) (x9_1 : (List Int)) (x11_0 : Bool) (x11_1 : (List Int)) : whole_Inverse.L6 0 x3_0 x3_1 x4_0 x6_0 x6_1 x7_0 x7_1 x9_0 x9_1 x11_0 x11_1 = none := by kernel_rfl
theorem whole_Inverse.eval (k : Nat) (a0 : (Bool × (List Int))) (a1 : (Bool × (List Int))) : evalF whole_Inverse.spec whole_Inverse.cals T Try.f55 k (a0, a1, ()) = whole_Inverse.e (whole_Inverse.L6 k) a0 a1 := by kernel_rfl
theorem whole_Inverse.F_eq (a0 : (Bool × (List Int))) (a1 : (Bool × (List Int))) : whole_Inverse.F (a0, a1, ()) = limF whole_Inverse.spec whole_Inverse.cals T Try.f55 (a0, a1, ()) := by kernel_rfl
theorem whole_Inverse.of (k : Nat) (a0 : (Bool × (List Int))) (a1 : (Bool × (List Int))) {y : (Bool × (List Int)) × Int × Unit} (h : whole_Inverse.e (whole_Inverse.L6 k) a0 a1 = some y) : whole_Inverse.F (a0, a1, ()) = some y := (whole_Inverse.F_eq a0 a1).trans (limF_of (q := whole_Inverse.spec) (C := whole_Inverse.cals) (T := T) (f := Try.f55) (x := (a0, a1, ())) (y := y) k ((whole_Inverse.eval k a0 a1).trans h))

/-! ### fulcrum/nat.Gcd -/
def nat_Gcd.spec : Spec := ⟨[(false, (.sl 70 (.int .u32))), (false, (.sl 70 (.int .u32)))], [(false, (.sl 70 (.int .u32)))], .own, fun j => match j with | 2 => [(0, .lf (.o 70 (.int .u32) true)), (1, .lf (.o 70 (.int .u32) true))] | _ => []⟩
noncomputable def nat_Gcd.cals : Cals := (Cals.cons 99 nat_own.sig (Cals.cons 89 nat_Div.sig Cals.nil))
noncomputable def nat_Gcd.sig : Sig := nat_Gcd.spec.sig nat_Gcd.cals T Try.f95
noncomputable def nat_Gcd.F (x : (List Int) × (List Int) × Unit) : Option ((List Int) × Unit) := limF nat_Gcd.spec nat_Gcd.cals T Try.f95 x
theorem nat_Gcd.ck : CalsOk Try.prog nat_Gcd.cals := (CalsOk.cons nat_own.cal (CalsOk.cons nat_Div.cal CalsOk.nil))
theorem nat_Gcd.cal : CalOk Try.prog 95 nat_Gcd.sig := calOk_lim' tabOk nat_Gcd.ck mix Try.func95 (by kernel_rfl) (by kernel_rfl) (by kernel_rfl) (by kernel_rfl)
def nat_Gcd.m2 (x0 : (List Int)) (x1 : (List Int)) : S := ⟨[(0, .one (.lf (.own 0))), (1, .one (.lf (.own 1)))], ⟨[some ⟨70, (.int .u32), true, true, x0⟩, some ⟨70, (.int .u32), true, true, x1⟩], []⟩⟩
noncomputable def nat_Gcd.b2 (f2 : (List Int) → (List Int) → Option ((List Int) × Unit)) (x0 : (List Int)) (x1 : (List Int)) : Option ((List Int) × Unit) :=
  let v1 := (List.length x1 : Int)
  let v2 := decide (v1 > (0 : Int))
  bif v2 then ((nat_Div.F (x0, x1, ())).bind fun y3 =>
  f2 x1 y3.2.1)
  else (some (x0, ()))
noncomputable def nat_Gcd.e (f2 : (List Int) → (List Int) → Option ((List Int) × Unit)) (a0 : (List Int)) (a1 : (List Int)) : Option ((List Int) × Unit) :=
  (nat_own.F (a0, ())).bind fun y1 =>
  (nat_own.F (a1, ())).bind fun y2 =>
  f2 y1.1 y2.1
noncomputable def nat_Gcd.L2 (k : Nat) (x0 : (List Int)) (x1 : (List Int)) : Option ((List Int) × Unit) := heads (nat_Gcd.spec.env nat_Gcd.cals T Try.f95) (Func.pts Try.f95) k 2 (nat_Gcd.m2 x0 x1)
theorem nat_Gcd.L2_succ (k : Nat) (x0 : (List Int)) (x1 : (List Int)) : nat_Gcd.L2 (k + 1) x0 x1 = nat_Gcd.b2 (nat_Gcd.L2 k) x0 x1 := by kernel_rfl
theorem nat_Gcd.L2_zero (x0 : (List Int)) (x1 : (List Int)) : nat_Gcd.L2 0 x0 x1 = none := by kernel_rfl
theorem nat_Gcd.eval (k : Nat) (a0 : (List Int)) (a1 : (List Int)) : evalF nat_Gcd.spec nat_Gcd.cals T Try.f95 k (a0, a1, ()) = nat_Gcd.e (nat_Gcd.L2 k) a0 a1 := by kernel_rfl
theorem nat_Gcd.F_eq (a0 : (List Int)) (a1 : (List Int)) : nat_Gcd.F (a0, a1, ()) = limF nat_Gcd.spec nat_Gcd.cals T Try.f95 (a0, a1, ()) := by kernel_rfl
theorem nat_Gcd.of (k : Nat) (a0 : (List Int)) (a1 : (List Int)) {y : (List Int) × Unit} (h : nat_Gcd.e (nat_Gcd.L2 k) a0 a1 = some y) : nat_Gcd.F (a0, a1, ()) = some y := (nat_Gcd.F_eq a0 a1).trans (limF_of (q := nat_Gcd.spec) (C := nat_Gcd.cals) (T := T) (f := Try.f95) (x := (a0, a1, ())) (y := y) k ((nat_Gcd.eval k a0 a1).trans h))

/-! ### fulcrum/whole.Gcd -/
def whole_Gcd.spec : Spec := ⟨[(true, (.prod .bool (.sl 70 (.int .u32)))), (true, (.prod .bool (.sl 70 (.int .u32))))], [(false, (.sl 70 (.int .u32)))], .own, fun j => match j with  | _ => []⟩
noncomputable def whole_Gcd.cals : Cals := (Cals.cons 95 nat_Gcd.sig Cals.nil)
noncomputable def whole_Gcd.sig : Sig := whole_Gcd.spec.sig whole_Gcd.cals T Try.f56
noncomputable def whole_Gcd.F (x : (Bool × (List Int)) × (Bool × (List Int)) × Unit) : Option ((List Int) × Unit) := limF whole_Gcd.spec whole_Gcd.cals T Try.f56 x
theorem whole_Gcd.ck : CalsOk Try.prog whole_Gcd.cals := (CalsOk.cons nat_Gcd.cal CalsOk.nil)
theorem whole_Gcd.cal : CalOk Try.prog 56 whole_Gcd.sig := calOk_lim' tabOk whole_Gcd.ck mix Try.func56 (by kernel_rfl) (by kernel_rfl) (by kernel_rfl) (by kernel_rfl)
noncomputable def whole_Gcd.e  (a0 : (Bool × (List Int))) (a1 : (Bool × (List Int))) : Option ((List Int) × Unit) :=
  (nat_Gcd.F (a0.2, a1.2, ())).bind fun y1 =>
  some (y1.1, ())
theorem whole_Gcd.eval (k : Nat) (a0 : (Bool × (List Int))) (a1 : (Bool × (List Int))) : evalF whole_Gcd.spec whole_Gcd.cals T Try.f56 k (a0, a1, ()) = whole_Gcd.e  a0 a1 := by kernel_rfl
theorem whole_Gcd.F_eq (a0 : (Bool × (List Int))) (a1 : (Bool × (List Int))) : whole_Gcd.F (a0, a1, ()) = limF whole_Gcd.spec whole_Gcd.cals T Try.f56 (a0, a1, ()) := by kernel_rfl
theorem whole_Gcd.of (k : Nat) (a0 : (Bool × (List Int))) (a1 : (Bool × (List Int))) {y : (List Int) × Unit} (h : whole_Gcd.e  a0 a1 = some y) : whole_Gcd.F (a0, a1, ()) = some y := (whole_Gcd.F_eq a0 a1).trans (limF_of (q := whole_Gcd.spec) (C := whole_Gcd.cals) (T := T) (f := Try.f56) (x := (a0, a1, ())) (y := y) k ((whole_Gcd.eval k a0 a1).trans h))

/-! ### fulcrum/fulcrumlaw02.WholeInverse -/
def fulcrumlaw02_WholeInverse.spec : Spec := ⟨[(true, (.prod .bool (.sl 70 (.int .u32)))), (true, (.prod .bool (.sl 70 (.int .u32))))], [(false, .bool)], .own, fun j => match j with  | _ => []⟩
noncomputable def fulcrumlaw02_WholeInverse.cals : Cals := (Cals.cons 55 whole_Inverse.sig (Cals.cons 56 whole_Gcd.sig (Cals.cons 39 fulcrumlaw02_awake.sig (Cals.cons 29 whole_Sign.sig (Cals.cons 40 fulcrumlaw02_one.sig (Cals.cons 37 whole_Cmp.sig (Cals.cons 35 whole_Mul.sig (Cals.cons 33 whole_Sub.sig (Cals.cons 47 whole_Euclid.sig (Cals.cons 27 whole_Abs.sig Cals.nil))))))))))
noncomputable def fulcrumlaw02_WholeInverse.sig : Sig := fulcrumlaw02_WholeInverse.spec.sig fulcrumlaw02_WholeInverse.cals T Try.f12
noncomputable def fulcrumlaw02_WholeInverse.F (x : (Bool × (List Int)) × (Bool × (List Int)) × Unit) : Option (Bool × Unit) := limF fulcrumlaw02_WholeInverse.spec fulcrumlaw02_WholeInverse.cals T Try.f12 x
theorem fulcrumlaw02_WholeInverse.ck : CalsOk Try.prog fulcrumlaw02_WholeInverse.cals := (CalsOk.cons whole_Inverse.cal (CalsOk.cons whole_Gcd.cal (CalsOk.cons fulcrumlaw02_awake.cal (CalsOk.cons whole_Sign.cal (CalsOk.cons fulcrumlaw02_one.cal (CalsOk.cons whole_Cmp.cal (CalsOk.cons whole_Mul.cal (CalsOk.cons whole_Sub.cal (CalsOk.cons whole_Euclid.cal (CalsOk.cons whole_Abs.cal CalsOk.nil))))))))))
theorem fulcrumlaw02_WholeInverse.cal : CalOk Try.prog 12 fulcrumlaw02_WholeInverse.sig := calOk_lim' tabOk fulcrumlaw02_WholeInverse.ck mix Try.func12 (by kernel_rfl) (by kernel_rfl) (by kernel_rfl) (by kernel_rfl)
noncomputable def fulcrumlaw02_WholeInverse.e  (a0 : (Bool × (List Int))) (a1 : (Bool × (List Int))) : Option (Bool × Unit) :=
  (whole_Inverse.F ((a0.1, a0.2), (a1.1, a1.2), ())).bind fun y1 =>
  (whole_Gcd.F ((a0.1, a0.2), (a1.1, a1.2), ())).bind fun y2 =>
  let v3 := (y1.2.1 != (0 : Int))
  bif v3 then (let v4 := (y1.2.1 == (20 : Int))
  bif v4 then ((fulcrumlaw02_awake.F ()).bind fun y5 =>
  bif y5.1 then ((whole_Sign.F ((a1.1, a1.2), ())).bind fun y6 =>
  let v7 := (y6.1 == (0 : Int))
  bif v7 then (some (true, ()))
  else ((fulcrumlaw02_one.F ()).bind fun y8 =>
  (whole_Cmp.F ((false, y2.1), (y8.1.1, y8.1.2), ())).bind fun y9 =>
  let v10 := (y9.1 == (1 : Int))
  some (v10, ())))
  else (some (false, ())))
  else (some (false, ())))
  else ((whole_Mul.F ((a0.1, a0.2), (y1.1.1, y1.1.2), ())).bind fun y11 =>
  (fulcrumlaw02_one.F ()).bind fun y12 =>
  (whole_Sub.F ((y11.1.1, y11.1.2), (y12.1.1, y12.1.2), ())).bind fun y13 =>
  (whole_Euclid.F ((y13.1.1, y13.1.2), (a1.1, a1.2), ())).bind fun y14 =>
  let v15 := (y14.2.2.1 == (0 : Int))
  bif v15 then ((whole_Sign.F ((y14.2.1.1, y14.2.1.2), ())).bind fun y16 =>
  let v17 := (y16.1 == (0 : Int))
  bif v17 then ((whole_Sign.F ((y1.1.1, y1.1.2), ())).bind fun y18 =>
  let v19 := decide (y18.1 ≥ (0 : Int))
  bif v19 then ((whole_Abs.F ((a1.1, a1.2), ())).bind fun y20 =>
  (whole_Cmp.F ((y1.1.1, y1.1.2), (false, y20.1), ())).bind fun y21 =>
  let v22 := (y21.1 == (-1 : Int))
  some (v22, ()))
  else (some (false, ())))
  else (some (false, ())))
  else (some (false, ())))
theorem fulcrumlaw02_WholeInverse.eval (k : Nat) (a0 : (Bool × (List Int))) (a1 : (Bool × (List Int))) : evalF fulcrumlaw02_WholeInverse.spec fulcrumlaw02_WholeInverse.cals T Try.f12 k (a0, a1, ()) = fulcrumlaw02_WholeInverse.e  a0 a1 := by kernel_rfl
theorem fulcrumlaw02_WholeInverse.F_eq (a0 : (Bool × (List Int))) (a1 : (Bool × (List Int))) : fulcrumlaw02_WholeInverse.F (a0, a1, ()) = limF fulcrumlaw02_WholeInverse.spec fulcrumlaw02_WholeInverse.cals T Try.f12 (a0, a1, ()) := by kernel_rfl
theorem fulcrumlaw02_WholeInverse.of (k : Nat) (a0 : (Bool × (List Int))) (a1 : (Bool × (List Int))) {y : Bool × Unit} (h : fulcrumlaw02_WholeInverse.e  a0 a1 = some y) : fulcrumlaw02_WholeInverse.F (a0, a1, ()) = some y := (fulcrumlaw02_WholeInverse.F_eq a0 a1).trans (limF_of (q := fulcrumlaw02_WholeInverse.spec) (C := fulcrumlaw02_WholeInverse.cals) (T := T) (f := Try.f12) (x := (a0, a1, ())) (y := y) k ((fulcrumlaw02_WholeInverse.eval k a0 a1).trans h))

/-! ### fulcrum/fulcrumlaw02.WholeHalves -/
def fulcrumlaw02_WholeHalves.spec : Spec := ⟨[(true, (.prod .bool (.sl 70 (.int .u32)))), (false, (.int .i64))], [(false, .bool)], .own, fun j => match j with  | _ => []⟩
noncomputable def fulcrumlaw02_WholeHalves.cals : Cals := (Cals.cons 41 whole_Shift.sig (Cals.cons 39 fulcrumlaw02_awake.sig (Cals.cons 40 fulcrumlaw02_one.sig (Cals.cons 45 whole_Floor.sig (Cals.cons 22 whole_Norm.sig (Cals.cons 19 fulcrumlaw02_same.sig (Cals.cons 35 whole_Mul.sig Cals.nil)))))))
noncomputable def fulcrumlaw02_WholeHalves.sig : Sig := fulcrumlaw02_WholeHalves.spec.sig fulcrumlaw02_WholeHalves.cals T Try.f13
noncomputable def fulcrumlaw02_WholeHalves.F (x : (Bool × (List Int)) × Int × Unit) : Option (Bool × Unit) := limF fulcrumlaw02_WholeHalves.spec fulcrumlaw02_WholeHalves.cals T Try.f13 x
theorem fulcrumlaw02_WholeHalves.ck : CalsOk Try.prog fulcrumlaw02_WholeHalves.cals := (CalsOk.cons whole_Shift.cal (CalsOk.cons fulcrumlaw02_awake.cal (CalsOk.cons fulcrumlaw02_one.cal (CalsOk.cons whole_Floor.cal (CalsOk.cons whole_Norm.cal (CalsOk.cons fulcrumlaw02_same.cal (CalsOk.cons whole_Mul.cal CalsOk.nil)))))))
theorem fulcrumlaw02_WholeHalves.cal : CalOk Try.prog 13 fulcrumlaw02_WholeHalves.sig := calOk_lim' tabOk fulcrumlaw02_WholeHalves.ck mix Try.func13 (by kernel_rfl) (by kernel_rfl) (by kernel_rfl) (by kernel_rfl)
noncomputable def fulcrumlaw02_WholeHalves.e  (a0 : (Bool × (List Int))) (a1 : Int) : Option (Bool × Unit) :=
  (whole_Shift.F ((a0.1, a0.2), a1, ())).bind fun y1 =>
  let v2 := decide (a1 < (-1048576 : Int))
  bif v2 then (let v3 := (y1.2.1 == (12 : Int))
  bif v3 then ((fulcrumlaw02_awake.F ()).bind fun y4 =>
  some (y4.1, ()))
  else (some (false, ())))
  else (let v5 := decide (a1 > (1048576 : Int))
  bif v5 then (let v6 := (y1.2.1 == (12 : Int))
  bif v6 then ((fulcrumlaw02_awake.F ()).bind fun y7 =>
  some (y7.1, ()))
  else (some (false, ())))
  else (let v8 := decide (a1 < (0 : Int))
  bif v8 then (let v9 := IntKind.i64.wrap ((0 : Int) - a1)
  (whole_Shift.F ((a0.1, a0.2), v9, ())).bind fun y10 =>
  let v11 := IntKind.i64.wrap ((0 : Int) - v9)
  (whole_Shift.F ((y10.1.1, y10.1.2), v11, ())).bind fun y12 =>
  (fulcrumlaw02_one.F ()).bind fun y13 =>
  (whole_Shift.F ((y13.1.1, y13.1.2), v9, ())).bind fun y14 =>
  let v15 := IntKind.i64.wrap ((0 : Int) - v9)
  (whole_Shift.F ((a0.1, a0.2), v15, ())).bind fun y16 =>
  (whole_Floor.F ((a0.1, a0.2), (y14.1.1, y14.1.2), ())).bind fun y17 =>
  let v18 := (y10.2.1 != (0 : Int))
  bif v18 then (some (false, ()))
  else (let v19 := (y12.2.1 != (0 : Int))
  bif v19 then (some (false, ()))
  else (let v20 := (y14.2.1 != (0 : Int))
  bif v20 then (some (false, ()))
  else (let v21 := (y16.2.1 != (0 : Int))
  bif v21 then (some (false, ()))
  else (let v22 := (y17.2.2.1 != (0 : Int))
  bif v22 then (some (false, ()))
  else ((whole_Norm.F ((a0.1, a0.2), ())).bind fun y23 =>
  (fulcrumlaw02_same.F ((y12.1.1, y12.1.2), (y23.1.1, y23.1.2), ())).bind fun y24 =>
  bif y24.1 then ((fulcrumlaw02_same.F ((y16.1.1, y16.1.2), (y17.1.1, y17.1.2), ())).bind fun y25 =>
  bif y25.1 then ((whole_Mul.F ((a0.1, a0.2), (y14.1.1, y14.1.2), ())).bind fun y26 =>
  (fulcrumlaw02_same.F ((y10.1.1, y10.1.2), (y26.1.1, y26.1.2), ())).bind fun y27 =>
  bif y27.1 then ((fulcrumlaw02_awake.F ()).bind fun y28 =>
  some (y28.1, ()))
  else (some (false, ())))
  else (some (false, ())))
  else (some (false, ()))))))))
  else (let v29 := IntKind.i64.wrap ((0 : Int) - a1)
  (whole_Shift.F ((y1.1.1, y1.1.2), v29, ())).bind fun y30 =>
  (fulcrumlaw02_one.F ()).bind fun y31 =>
  (whole_Shift.F ((y31.1.1, y31.1.2), a1, ())).bind fun y32 =>
  let v33 := IntKind.i64.wrap ((0 : Int) - a1)
  (whole_Shift.F ((a0.1, a0.2), v33, ())).bind fun y34 =>
  (whole_Floor.F ((a0.1, a0.2), (y32.1.1, y32.1.2), ())).bind fun y35 =>
  let v36 := (y1.2.1 != (0 : Int))
  bif v36 then (some (false, ()))
  else (let v37 := (y30.2.1 != (0 : Int))
  bif v37 then (some (false, ()))
  else (let v38 := (y32.2.1 != (0 : Int))
  bif v38 then (some (false, ()))
  else (let v39 := (y34.2.1 != (0 : Int))
  bif v39 then (some (false, ()))
  else (let v40 := (y35.2.2.1 != (0 : Int))
  bif v40 then (some (false, ()))
  else ((whole_Norm.F ((a0.1, a0.2), ())).bind fun y41 =>
  (fulcrumlaw02_same.F ((y30.1.1, y30.1.2), (y41.1.1, y41.1.2), ())).bind fun y42 =>
  bif y42.1 then ((fulcrumlaw02_same.F ((y34.1.1, y34.1.2), (y35.1.1, y35.1.2), ())).bind fun y43 =>
  bif y43.1 then ((whole_Mul.F ((a0.1, a0.2), (y32.1.1, y32.1.2), ())).bind fun y44 =>
  (fulcrumlaw02_same.F ((y1.1.1, y1.1.2), (y44.1.1, y44.1.2), ())).bind fun y45 =>
  bif y45.1 then ((fulcrumlaw02_awake.F ()).bind fun y46 =>
  some (y46.1, ()))
  else (some (false, ())))
  else (some (false, ())))
  else (some (false, ()))))))))))
theorem fulcrumlaw02_WholeHalves.eval (k : Nat) (a0 : (Bool × (List Int))) (a1 : Int) : evalF fulcrumlaw02_WholeHalves.spec fulcrumlaw02_WholeHalves.cals T Try.f13 k (a0, a1, ()) = fulcrumlaw02_WholeHalves.e  a0 a1 := by kernel_rfl
theorem fulcrumlaw02_WholeHalves.F_eq (a0 : (Bool × (List Int))) (a1 : Int) : fulcrumlaw02_WholeHalves.F (a0, a1, ()) = limF fulcrumlaw02_WholeHalves.spec fulcrumlaw02_WholeHalves.cals T Try.f13 (a0, a1, ()) := by kernel_rfl
theorem fulcrumlaw02_WholeHalves.of (k : Nat) (a0 : (Bool × (List Int))) (a1 : Int) {y : Bool × Unit} (h : fulcrumlaw02_WholeHalves.e  a0 a1 = some y) : fulcrumlaw02_WholeHalves.F (a0, a1, ()) = some y := (fulcrumlaw02_WholeHalves.F_eq a0 a1).trans (limF_of (q := fulcrumlaw02_WholeHalves.spec) (C := fulcrumlaw02_WholeHalves.cals) (T := T) (f := Try.f13) (x := (a0, a1, ())) (y := y) k ((fulcrumlaw02_WholeHalves.eval k a0 a1).trans h))

/-! ### fulcrum/whole.Bezout -/
def whole_Bezout.spec : Spec := ⟨[(true, (.prod .bool (.sl 70 (.int .u32)))), (true, (.prod .bool (.sl 70 (.int .u32))))], [(false, (.sl 70 (.int .u32))), (true, (.prod .bool (.sl 70 (.int .u32)))), (true, (.prod .bool (.sl 70 (.int .u32))))], .fresh, fun j => match j with  | _ => []⟩
noncomputable def whole_Bezout.cals : Cals := (Cals.cons 56 whole_Gcd.sig (Cals.cons 29 whole_Sign.sig (Cals.cons 20 whole_Of.sig (Cals.cons 94 whole_plain.sig (Cals.cons 43 whole_Quo.sig (Cals.cons 55 whole_Inverse.sig (Cals.cons 35 whole_Mul.sig (Cals.cons 33 whole_Sub.sig Cals.nil))))))))
noncomputable def whole_Bezout.sig : Sig := whole_Bezout.spec.sig whole_Bezout.cals T Try.f57
noncomputable def whole_Bezout.F (x : (Bool × (List Int)) × (Bool × (List Int)) × Unit) : Option ((List Int) × (Bool × (List Int)) × (Bool × (List Int)) × Unit) := limF whole_Bezout.spec whole_Bezout.cals T Try.f57 x
theorem whole_Bezout.ck : CalsOk Try.prog whole_Bezout.cals := (CalsOk.cons whole_Gcd.cal (CalsOk.cons whole_Sign.cal (CalsOk.cons whole_Of.cal (CalsOk.cons whole_plain.cal (CalsOk.cons whole_Quo.cal (CalsOk.cons whole_Inverse.cal (CalsOk.cons whole_Mul.cal (CalsOk.cons whole_Sub.cal CalsOk.nil))))))))
theorem whole_Bezout.cal : CalOk Try.prog 57 whole_Bezout.sig := calOk_lim' tabOk whole_Bezout.ck mix Try.func57 (by kernel_rfl) (by kernel_rfl) (by kernel_rfl) (by kernel_rfl)
noncomputable def whole_Bezout.e  (a0 : (Bool × (List Int))) (a1 : (Bool × (List Int))) : Option ((List Int) × (Bool × (List Int)) × (Bool × (List Int)) × Unit) :=
  (whole_Gcd.F ((a0.1, a0.2), (a1.1, a1.2), ())).bind fun y1 =>
  (whole_Sign.F ((a1.1, a1.2), ())).bind fun y2 =>
  let v3 := (y2.1 == (0 : Int))
  bif v3 then ((whole_Sign.F ((a0.1, a0.2), ())).bind fun y4 =>
  (whole_Of.F (y4.1, ())).bind fun y5 =>
  (whole_Of.F ((0 : Int), ())).bind fun y6 =>
  some (y1.1, (y5.1.1, y5.1.2), (y6.1.1, y6.1.2), ()))
  else ((whole_plain.F (y1.1, ())).bind fun y7 =>
  (whole_Quo.F ((a0.1, a0.2), (y7.1.1, y7.1.2), ())).bind fun y8 =>
  (whole_plain.F (y1.1, ())).bind fun y9 =>
  (whole_Quo.F ((a1.1, a1.2), (y9.1.1, y9.1.2), ())).bind fun y10 =>
  (whole_Inverse.F ((y8.1.1, y8.1.2), (y10.1.1, y10.1.2), ())).bind fun y11 =>
  (whole_plain.F (y1.1, ())).bind fun y12 =>
  (whole_Mul.F ((a0.1, a0.2), (y11.1.1, y11.1.2), ())).bind fun y13 =>
  (whole_Sub.F ((y12.1.1, y12.1.2), (y13.1.1, y13.1.2), ())).bind fun y14 =>
  (whole_Quo.F ((y14.1.1, y14.1.2), (a1.1, a1.2), ())).bind fun y15 =>
  some (y1.1, (y11.1.1, y11.1.2), (y15.1.1, y15.1.2), ()))
theorem whole_Bezout.eval (k : Nat) (a0 : (Bool × (List Int))) (a1 : (Bool × (List Int))) : evalF whole_Bezout.spec whole_Bezout.cals T Try.f57 k (a0, a1, ()) = whole_Bezout.e  a0 a1 := by kernel_rfl
theorem whole_Bezout.F_eq (a0 : (Bool × (List Int))) (a1 : (Bool × (List Int))) : whole_Bezout.F (a0, a1, ()) = limF whole_Bezout.spec whole_Bezout.cals T Try.f57 (a0, a1, ()) := by kernel_rfl
theorem whole_Bezout.of (k : Nat) (a0 : (Bool × (List Int))) (a1 : (Bool × (List Int))) {y : (List Int) × (Bool × (List Int)) × (Bool × (List Int)) × Unit} (h : whole_Bezout.e  a0 a1 = some y) : whole_Bezout.F (a0, a1, ()) = some y := (whole_Bezout.F_eq a0 a1).trans (limF_of (q := whole_Bezout.spec) (C := whole_Bezout.cals) (T := T) (f := Try.f57) (x := (a0, a1, ())) (y := y) k ((whole_Bezout.eval k a0 a1).trans h))

/-! ### fulcrum/fulcrumlaw02.WholeBezout -/
def fulcrumlaw02_WholeBezout.spec : Spec := ⟨[(true, (.prod .bool (.sl 70 (.int .u32)))), (true, (.prod .bool (.sl 70 (.int .u32))))], [(false, .bool)], .own, fun j => match j with  | _ => []⟩
noncomputable def fulcrumlaw02_WholeBezout.cals : Cals := (Cals.cons 57 whole_Bezout.sig (Cals.cons 35 whole_Mul.sig (Cals.cons 31 whole_Add.sig (Cals.cons 22 whole_Norm.sig (Cals.cons 19 fulcrumlaw02_same.sig (Cals.cons 39 fulcrumlaw02_awake.sig (Cals.cons 29 whole_Sign.sig (Cals.cons 43 whole_Quo.sig (Cals.cons 20 whole_Of.sig (Cals.cons 27 whole_Abs.sig (Cals.cons 37 whole_Cmp.sig Cals.nil)))))))))))
noncomputable def fulcrumlaw02_WholeBezout.sig : Sig := fulcrumlaw02_WholeBezout.spec.sig fulcrumlaw02_WholeBezout.cals T Try.f14
noncomputable def fulcrumlaw02_WholeBezout.F (x : (Bool × (List Int)) × (Bool × (List Int)) × Unit) : Option (Bool × Unit) := limF fulcrumlaw02_WholeBezout.spec fulcrumlaw02_WholeBezout.cals T Try.f14 x
theorem fulcrumlaw02_WholeBezout.ck : CalsOk Try.prog fulcrumlaw02_WholeBezout.cals := (CalsOk.cons whole_Bezout.cal (CalsOk.cons whole_Mul.cal (CalsOk.cons whole_Add.cal (CalsOk.cons whole_Norm.cal (CalsOk.cons fulcrumlaw02_same.cal (CalsOk.cons fulcrumlaw02_awake.cal (CalsOk.cons whole_Sign.cal (CalsOk.cons whole_Quo.cal (CalsOk.cons whole_Of.cal (CalsOk.cons whole_Abs.cal (CalsOk.cons whole_Cmp.cal CalsOk.nil)))))))))))
theorem fulcrumlaw02_WholeBezout.cal : CalOk Try.prog 14 fulcrumlaw02_WholeBezout.sig := calOk_lim' tabOk fulcrumlaw02_WholeBezout.ck mix Try.func14 (by kernel_rfl) (by kernel_rfl) (by kernel_rfl) (by kernel_rfl)
noncomputable def fulcrumlaw02_WholeBezout.e  (a0 : (Bool × (List Int))) (a1 : (Bool × (List Int))) : Option (Bool × Unit) :=
  (whole_Bezout.F ((a0.1, a0.2), (a1.1, a1.2), ())).bind fun y1 =>
  (whole_Mul.F ((a0.1, a0.2), (y1.2.1.1, y1.2.1.2), ())).bind fun y2 =>
  (whole_Mul.F ((a1.1, a1.2), (y1.2.2.1.1, y1.2.2.1.2), ())).bind fun y3 =>
  (whole_Add.F ((y2.1.1, y2.1.2), (y3.1.1, y3.1.2), ())).bind fun y4 =>
  (whole_Norm.F ((false, y1.1), ())).bind fun y5 =>
  (fulcrumlaw02_same.F ((y4.1.1, y4.1.2), (y5.1.1, y5.1.2), ())).bind fun y6 =>
  let v7 := not y6.1
  bif v7 then (some (false, ()))
  else ((fulcrumlaw02_awake.F ()).bind fun y8 =>
  let v9 := not y8.1
  bif v9 then (some (false, ()))
  else ((whole_Sign.F ((false, y1.1), ())).bind fun y10 =>
  let v11 := (y10.1 == (0 : Int))
  bif v11 then ((whole_Sign.F ((a0.1, a0.2), ())).bind fun y12 =>
  let v13 := (y12.1 == (0 : Int))
  bif v13 then ((whole_Sign.F ((a1.1, a1.2), ())).bind fun y14 =>
  let v15 := (y14.1 == (0 : Int))
  bif v15 then ((whole_Sign.F ((y1.2.1.1, y1.2.1.2), ())).bind fun y16 =>
  let v17 := (y16.1 == (0 : Int))
  bif v17 then ((whole_Sign.F ((y1.2.2.1.1, y1.2.2.1.2), ())).bind fun y18 =>
  let v19 := (y18.1 == (0 : Int))
  some (v19, ()))
  else (some (false, ())))
  else (some (false, ())))
  else (some (false, ())))
  else ((whole_Quo.F ((a0.1, a0.2), (false, y1.1), ())).bind fun y20 =>
  (whole_Quo.F ((a1.1, a1.2), (false, y1.1), ())).bind fun y21 =>
  let v22 := (y20.2.2.1 != (0 : Int))
  bif v22 then (some (false, ()))
  else (let v23 := (y21.2.2.1 != (0 : Int))
  bif v23 then (some (false, ()))
  else ((whole_Sign.F ((y20.2.1.1, y20.2.1.2), ())).bind fun y24 =>
  let v25 := (y24.1 != (0 : Int))
  bif v25 then (some (false, ()))
  else ((whole_Sign.F ((y21.2.1.1, y21.2.1.2), ())).bind fun y26 =>
  let v27 := (y26.1 != (0 : Int))
  bif v27 then (some (false, ()))
  else ((whole_Sign.F ((false, y1.1), ())).bind fun y28 =>
  let v29 := (y28.1 != (1 : Int))
  bif v29 then (some (false, ()))
  else ((whole_Sign.F ((a1.1, a1.2), ())).bind fun y30 =>
  let v31 := (y30.1 == (0 : Int))
  bif v31 then ((whole_Sign.F ((y1.2.2.1.1, y1.2.2.1.2), ())).bind fun y32 =>
  let v33 := (y32.1 == (0 : Int))
  bif v33 then ((whole_Sign.F ((a0.1, a0.2), ())).bind fun y34 =>
  (whole_Of.F (y34.1, ())).bind fun y35 =>
  (fulcrumlaw02_same.F ((y1.2.1.1, y1.2.1.2), (y35.1.1, y35.1.2), ())).bind fun y36 =>
  some (y36.1, ()))
  else (some (false, ())))
  else ((whole_Sign.F ((y1.2.1.1, y1.2.1.2), ())).bind fun y37 =>
  let v38 := decide (y37.1 ≥ (0 : Int))
  bif v38 then ((whole_Abs.F ((y21.1.1, y21.1.2), ())).bind fun y39 =>
  (whole_Cmp.F ((y1.2.1.1, y1.2.1.2), (false, y39.1), ())).bind fun y40 =>
  let v41 := (y40.1 == (-1 : Int))
  some (v41, ()))
  else (some (false, ())))))))))))
theorem fulcrumlaw02_WholeBezout.eval (k : Nat) (a0 : (Bool × (List Int))) (a1 : (Bool × (List Int))) : evalF fulcrumlaw02_WholeBezout.spec fulcrumlaw02_WholeBezout.cals T Try.f14 k (a0, a1, ()) = fulcrumlaw02_WholeBezout.e  a0 a1 := by kernel_rfl
theorem fulcrumlaw02_WholeBezout.F_eq (a0 : (Bool × (List Int))) (a1 : (Bool × (List Int))) : fulcrumlaw02_WholeBezout.F (a0, a1, ()) = limF fulcrumlaw02_WholeBezout.spec fulcrumlaw02_WholeBezout.cals T Try.f14 (a0, a1, ()) := by kernel_rfl
theorem fulcrumlaw02_WholeBezout.of (k : Nat) (a0 : (Bool × (List Int))) (a1 : (Bool × (List Int))) {y : Bool × Unit} (h : fulcrumlaw02_WholeBezout.e  a0 a1 = some y) : fulcrumlaw02_WholeBezout.F (a0, a1, ()) = some y := (fulcrumlaw02_WholeBezout.F_eq a0 a1).trans (limF_of (q := fulcrumlaw02_WholeBezout.spec) (C := fulcrumlaw02_WholeBezout.cals) (T := T) (f := Try.f14) (x := (a0, a1, ())) (y := y) k ((fulcrumlaw02_WholeBezout.eval k a0 a1).trans h))

/-! ### fulcrum/fulcrumref02.Gcd -/
def fulcrumref02_Gcd.spec : Spec := ⟨[(true, (.prod .bool (.sl 70 (.int .u32)))), (true, (.prod .bool (.sl 70 (.int .u32))))], [(false, (.sl 70 (.int .u32)))], .own, fun j => match j with | 3 => [(5, .lf (.o 70 (.int .u32) true)), (6, .lf (.o 70 (.int .u32) true))] | _ => []⟩
noncomputable def fulcrumref02_Gcd.cals : Cals := (Cals.cons 77 fulcrumref01_Norm.sig (Cals.cons 90 fulcrumref01_Div.sig Cals.nil))
noncomputable def fulcrumref02_Gcd.sig : Sig := fulcrumref02_Gcd.spec.sig fulcrumref02_Gcd.cals T Try.f58
noncomputable def fulcrumref02_Gcd.F (x : (Bool × (List Int)) × (Bool × (List Int)) × Unit) : Option ((List Int) × Unit) := limF fulcrumref02_Gcd.spec fulcrumref02_Gcd.cals T Try.f58 x
theorem fulcrumref02_Gcd.ck : CalsOk Try.prog fulcrumref02_Gcd.cals := (CalsOk.cons fulcrumref01_Norm.cal (CalsOk.cons fulcrumref01_Div.cal CalsOk.nil))
theorem fulcrumref02_Gcd.cal : CalOk Try.prog 58 fulcrumref02_Gcd.sig := calOk_lim' tabOk fulcrumref02_Gcd.ck mix Try.func58 (by kernel_rfl) (by kernel_rfl) (by kernel_rfl) (by kernel_rfl)
def fulcrumref02_Gcd.m3 (x5 : (List Int)) (x6 : (List Int)) : S := ⟨[(5, .one (.lf (.own 0))), (6, .one (.lf (.own 1)))], ⟨[some ⟨70, (.int .u32), true, true, x5⟩, some ⟨70, (.int .u32), true, true, x6⟩], []⟩⟩
noncomputable def fulcrumref02_Gcd.b3 (f3 : (List Int) → (List Int) → Option ((List Int) × Unit)) (x5 : (List Int)) (x6 : (List Int)) : Option ((List Int) × Unit) :=
  let v1 := (List.length x6 : Int)
  let v2 := decide (v1 > (0 : Int))
  bif v2 then ((fulcrumref01_Div.F (x5, x6, ())).bind fun y3 =>
  (fulcrumref01_Norm.F (y3.2.1, ())).bind fun y4 =>
  f3 x6 y4.1)
  else (some (x5, ()))
noncomputable def fulcrumref02_Gcd.e (f3 : (List Int) → (List Int) → Option ((List Int) × Unit)) (a0 : (Bool × (List Int))) (a1 : (Bool × (List Int))) : Option ((List Int) × Unit) :=
  (fulcrumref01_Norm.F (a0.2, ())).bind fun y1 =>
  (fulcrumref01_Norm.F (a1.2, ())).bind fun y2 =>
  f3 y1.1 y2.1
noncomputable def fulcrumref02_Gcd.L3 (k : Nat) (x5 : (List Int)) (x6 : (List Int)) : Option ((List Int) × Unit) := heads (fulcrumref02_Gcd.spec.env fulcrumref02_Gcd.cals T Try.f58) (Func.pts Try.f58) k 3 (fulcrumref02_Gcd.m3 x5 x6)
theorem fulcrumref02_Gcd.L3_succ (k : Nat) (x5 : (List Int)) (x6 : (List Int)) : fulcrumref02_Gcd.L3 (k + 1) x5 x6 = fulcrumref02_Gcd.b3 (fulcrumref02_Gcd.L3 k) x5 x6 := by kernel_rfl
theorem fulcrumref02_Gcd.L3_zero (x5 : (List Int)) (x6 : (List Int)) : fulcrumref02_Gcd.L3 0 x5 x6 = none := by kernel_rfl
theorem fulcrumref02_Gcd.eval (k : Nat) (a0 : (Bool × (List Int))) (a1 : (Bool × (List Int))) : evalF fulcrumref02_Gcd.spec fulcrumref02_Gcd.cals T Try.f58 k (a0, a1, ()) = fulcrumref02_Gcd.e (fulcrumref02_Gcd.L3 k) a0 a1 := by kernel_rfl
theorem fulcrumref02_Gcd.F_eq (a0 : (Bool × (List Int))) (a1 : (Bool × (List Int))) : fulcrumref02_Gcd.F (a0, a1, ()) = limF fulcrumref02_Gcd.spec fulcrumref02_Gcd.cals T Try.f58 (a0, a1, ()) := by kernel_rfl
theorem fulcrumref02_Gcd.of (k : Nat) (a0 : (Bool × (List Int))) (a1 : (Bool × (List Int))) {y : (List Int) × Unit} (h : fulcrumref02_Gcd.e (fulcrumref02_Gcd.L3 k) a0 a1 = some y) : fulcrumref02_Gcd.F (a0, a1, ()) = some y := (fulcrumref02_Gcd.F_eq a0 a1).trans (limF_of (q := fulcrumref02_Gcd.spec) (C := fulcrumref02_Gcd.cals) (T := T) (f := Try.f58) (x := (a0, a1, ())) (y := y) k ((fulcrumref02_Gcd.eval k a0 a1).trans h))

/-! ### fulcrum/whole.Lcm -/
def whole_Lcm.spec : Spec := ⟨[(true, (.prod .bool (.sl 70 (.int .u32)))), (true, (.prod .bool (.sl 70 (.int .u32))))], [(false, (.sl 70 (.int .u32)))], .own, fun j => match j with  | _ => []⟩
noncomputable def whole_Lcm.cals : Cals := (Cals.cons 29 whole_Sign.sig (Cals.cons 56 whole_Gcd.sig (Cals.cons 89 nat_Div.sig (Cals.cons 85 nat_Mul.sig Cals.nil))))
noncomputable def whole_Lcm.sig : Sig := whole_Lcm.spec.sig whole_Lcm.cals T Try.f59
noncomputable def whole_Lcm.F (x : (Bool × (List Int)) × (Bool × (List Int)) × Unit) : Option ((List Int) × Unit) := limF whole_Lcm.spec whole_Lcm.cals T Try.f59 x
theorem whole_Lcm.ck : CalsOk Try.prog whole_Lcm.cals := (CalsOk.cons whole_Sign.cal (CalsOk.cons whole_Gcd.cal (CalsOk.cons nat_Div.cal (CalsOk.cons nat_Mul.cal CalsOk.nil))))
theorem whole_Lcm.cal : CalOk Try.prog 59 whole_Lcm.sig := calOk_lim' tabOk whole_Lcm.ck mix Try.func59 (by kernel_rfl) (by kernel_rfl) (by kernel_rfl) (by kernel_rfl)
noncomputable def whole_Lcm.e  (a0 : (Bool × (List Int))) (a1 : (Bool × (List Int))) : Option ((List Int) × Unit) :=
  (whole_Sign.F ((a0.1, a0.2), ())).bind fun y1 =>
  (whole_Sign.F ((a1.1, a1.2), ())).bind fun y2 =>
  let v3 := IntKind.i64.wrap (y1.1 * y2.1)
  let v4 := (v3 == (0 : Int))
  bif v4 then (some (([] : List Int), ()))
  else ((whole_Gcd.F ((a0.1, a0.2), (a1.1, a1.2), ())).bind fun y5 =>
  (nat_Div.F (a0.2, y5.1, ())).bind fun y6 =>
  (nat_Mul.F (y6.1, a1.2, ())).bind fun y7 =>
  some (y7.1, ()))
theorem whole_Lcm.eval (k : Nat) (a0 : (Bool × (List Int))) (a1 : (Bool × (List Int))) : evalF whole_Lcm.spec whole_Lcm.cals T Try.f59 k (a0, a1, ()) = whole_Lcm.e  a0 a1 := by kernel_rfl
theorem whole_Lcm.F_eq (a0 : (Bool × (List Int))) (a1 : (Bool × (List Int))) : whole_Lcm.F (a0, a1, ()) = limF whole_Lcm.spec whole_Lcm.cals T Try.f59 (a0, a1, ()) := by kernel_rfl
theorem whole_Lcm.of (k : Nat) (a0 : (Bool × (List Int))) (a1 : (Bool × (List Int))) {y : (List Int) × Unit} (h : whole_Lcm.e  a0 a1 = some y) : whole_Lcm.F (a0, a1, ()) = some y := (whole_Lcm.F_eq a0 a1).trans (limF_of (q := whole_Lcm.spec) (C := whole_Lcm.cals) (T := T) (f := Try.f59) (x := (a0, a1, ())) (y := y) k ((whole_Lcm.eval k a0 a1).trans h))

/-! ### fulcrum/fulcrumref02.Lcm -/
def fulcrumref02_Lcm.spec : Spec := ⟨[(true, (.prod .bool (.sl 70 (.int .u32)))), (true, (.prod .bool (.sl 70 (.int .u32))))], [(false, (.sl 70 (.int .u32)))], .own, fun j => match j with  | _ => []⟩
noncomputable def fulcrumref02_Lcm.cals : Cals := (Cals.cons 58 fulcrumref02_Gcd.sig (Cals.cons 90 fulcrumref01_Div.sig (Cals.cons 86 fulcrumref01_Mul.sig (Cals.cons 77 fulcrumref01_Norm.sig Cals.nil))))
noncomputable def fulcrumref02_Lcm.sig : Sig := fulcrumref02_Lcm.spec.sig fulcrumref02_Lcm.cals T Try.f60
noncomputable def fulcrumref02_Lcm.F (x : (Bool × (List Int)) × (Bool × (List Int)) × Unit) : Option ((List Int) × Unit) := limF fulcrumref02_Lcm.spec fulcrumref02_Lcm.cals T Try.f60 x
theorem fulcrumref02_Lcm.ck : CalsOk Try.prog fulcrumref02_Lcm.cals := (CalsOk.cons fulcrumref02_Gcd.cal (CalsOk.cons fulcrumref01_Div.cal (CalsOk.cons fulcrumref01_Mul.cal (CalsOk.cons fulcrumref01_Norm.cal CalsOk.nil))))
theorem fulcrumref02_Lcm.cal : CalOk Try.prog 60 fulcrumref02_Lcm.sig := calOk_lim' tabOk fulcrumref02_Lcm.ck mix Try.func60 (by kernel_rfl) (by kernel_rfl) (by kernel_rfl) (by kernel_rfl)
noncomputable def fulcrumref02_Lcm.e  (a0 : (Bool × (List Int))) (a1 : (Bool × (List Int))) : Option ((List Int) × Unit) :=
  (fulcrumref02_Gcd.F ((a0.1, a0.2), (a1.1, a1.2), ())).bind fun y1 =>
  let v2 := (List.length y1.1 : Int)
  let v3 := (v2 == (0 : Int))
  bif v3 then (some (([] : List Int), ()))
  else ((fulcrumref01_Div.F (a0.2, y1.1, ())).bind fun y4 =>
  (fulcrumref01_Mul.F (y4.1, a1.2, ())).bind fun y5 =>
  (fulcrumref01_Norm.F (y5.1, ())).bind fun y6 =>
  some (y6.1, ()))
theorem fulcrumref02_Lcm.eval (k : Nat) (a0 : (Bool × (List Int))) (a1 : (Bool × (List Int))) : evalF fulcrumref02_Lcm.spec fulcrumref02_Lcm.cals T Try.f60 k (a0, a1, ()) = fulcrumref02_Lcm.e  a0 a1 := by kernel_rfl
theorem fulcrumref02_Lcm.F_eq (a0 : (Bool × (List Int))) (a1 : (Bool × (List Int))) : fulcrumref02_Lcm.F (a0, a1, ()) = limF fulcrumref02_Lcm.spec fulcrumref02_Lcm.cals T Try.f60 (a0, a1, ()) := by kernel_rfl
theorem fulcrumref02_Lcm.of (k : Nat) (a0 : (Bool × (List Int))) (a1 : (Bool × (List Int))) {y : (List Int) × Unit} (h : fulcrumref02_Lcm.e  a0 a1 = some y) : fulcrumref02_Lcm.F (a0, a1, ()) = some y := (fulcrumref02_Lcm.F_eq a0 a1).trans (limF_of (q := fulcrumref02_Lcm.spec) (C := fulcrumref02_Lcm.cals) (T := T) (f := Try.f60) (x := (a0, a1, ())) (y := y) k ((fulcrumref02_Lcm.eval k a0 a1).trans h))

/-! ### fulcrum/fulcrumref02.Bezout -/
def fulcrumref02_Bezout.spec : Spec := ⟨[(true, (.prod .bool (.sl 70 (.int .u32)))), (true, (.prod .bool (.sl 70 (.int .u32))))], [(false, (.sl 70 (.int .u32))), (true, (.prod .bool (.sl 70 (.int .u32)))), (true, (.prod .bool (.sl 70 (.int .u32))))], .own, fun j => match j with | 6 => [(2, .box 25 [.v false, .z 70 (.int .u32) false]), (3, .box 25 [.v false, .z 70 (.int .u32) false]), (5, .box 25 [.v true, .v true]), (6, .box 25 [.v true, .v true]), (7, .lf (.o 70 (.int .u32) true)), (8, .box 25 [.v true, .o 70 (.int .u32) true]), (9, .box 25 [.v true, .o 70 (.int .u32) true]), (10, .box 25 [.v true, .o 70 (.int .u32) true]), (11, .box 25 [.v true, .o 70 (.int .u32) true])] | _ => []⟩
noncomputable def fulcrumref02_Bezout.cals : Cals := (Cals.cons 58 fulcrumref02_Gcd.sig (Cals.cons 30 fulcrumref02_Sign.sig (Cals.cons 21 fulcrumref02_Of.sig (Cals.cons 23 fulcrumref02_Norm.sig (Cals.cons 46 fulcrumref02_Floor.sig (Cals.cons 36 fulcrumref02_Mul.sig (Cals.cons 34 fulcrumref02_Sub.sig (Cals.cons 25 fulcrumref02_Neg.sig (Cals.cons 74 fulcrumref02_made.sig (Cals.cons 44 fulcrumref02_Quo.sig (Cals.cons 48 fulcrumref02_Euclid.sig Cals.nil)))))))))))
noncomputable def fulcrumref02_Bezout.sig : Sig := fulcrumref02_Bezout.spec.sig fulcrumref02_Bezout.cals T Try.f61
noncomputable def fulcrumref02_Bezout.F (x : (Bool × (List Int)) × (Bool × (List Int)) × Unit) : Option ((List Int) × (Bool × (List Int)) × (Bool × (List Int)) × Unit) := limF fulcrumref02_Bezout.spec fulcrumref02_Bezout.cals T Try.f61 x
theorem fulcrumref02_Bezout.ck : CalsOk Try.prog fulcrumref02_Bezout.cals := (CalsOk.cons fulcrumref02_Gcd.cal (CalsOk.cons fulcrumref02_Sign.cal (CalsOk.cons fulcrumref02_Of.cal (CalsOk.cons fulcrumref02_Norm.cal (CalsOk.cons fulcrumref02_Floor.cal (CalsOk.cons fulcrumref02_Mul.cal (CalsOk.cons fulcrumref02_Sub.cal (CalsOk.cons fulcrumref02_Neg.cal (CalsOk.cons fulcrumref02_made.cal (CalsOk.cons fulcrumref02_Quo.cal (CalsOk.cons fulcrumref02_Euclid.cal CalsOk.nil)))))))))))
theorem fulcrumref02_Bezout.cal : CalOk Try.prog 61 fulcrumref02_Bezout.sig := calOk_lim' tabOk fulcrumref02_Bezout.ck mix Try.func61 (by kernel_rfl) (by kernel_rfl) (by kernel_rfl) (by kernel_rfl)
def fulcrumref02_Bezout.m6 (x2_0 : Bool) (x2_1 : (List Int)) (x3_0 : Bool) (x3_1 : (List Int)) (x5_0 : Bool) (x6_0 : Bool) (x7 : (List Int)) (x8_0 : Bool) (x8_1 : (List Int)) (x9_0 : Bool) (x9_1 : (List Int)) (x10_0 : Bool) (x10_1 : (List Int)) (x11_0 : Bool) (x11_1 : (List Int)) : S := ⟨[(2, .box 0 0), (3, .box 1 0), (5, .box 2 0), (6, .box 3 0), (7, .one (.lf (.own 0))), (8, .box 4 0), (9, .box 5 0), (10, .box 6 0), (11, .box 7 0)], ⟨[some ⟨70, (.int .u32), true, true, x7⟩, some ⟨70, (.int .u32), true, true, x8_1⟩, some ⟨70, (.int .u32), true, true, x9_1⟩, some ⟨70, (.int .u32), true, true, x10_1⟩, some ⟨70, (.int .u32), true, true, x11_1⟩], [some ⟨25, [.val false .bool x2_0, .val false (.sl 70 (.int .u32)) x2_1]⟩, some ⟨25, [.val false .bool x3_0, .val false (.sl 70 (.int .u32)) x3_1]⟩, some ⟨25, [.val true .bool x5_0, .nil]⟩, some ⟨25, [.val true .bool x6_0, .nil]⟩, some ⟨25, [.val true .bool x8_0, .own 1]⟩, some ⟨25, [.val true .bool x9_0, .own 2]⟩, some ⟨25, [.val true .bool x10_0, .own 3]⟩, some ⟨25, [.val true .bool x11_0, .own 4]⟩]⟩⟩
noncomputable def fulcrumref02_Bezout.b6 (f6 : Bool → (List Int) → Bool → (List Int) → Bool → Bool → (List Int) → Bool → (List Int) → Bool → (List Int) → Bool → (List Int) → Bool → (List Int) → Option ((List Int) × (Bool × (List Int)) × (Bool × (List Int)) × Unit)) (x2_0 : Bool) (x2_1 : (List Int)) (x3_0 : Bool) (x3_1 : (List Int)) (x5_0 : Bool) (x6_0 : Bool) (x7 : (List Int)) (x8_0 : Bool) (x8_1 : (List Int)) (x9_0 : Bool) (x9_1 : (List Int)) (x10_0 : Bool) (x10_1 : (List Int)) (x11_0 : Bool) (x11_1 : (List Int)) : Option ((List Int) × (Bool × (List Int)) × (Bool × (List Int)) × Unit) :=
  (fulcrumref02_Sign.F ((x9_0, x9_1), ())).bind fun y1 =>
  let v2 := (y1.1 != (0 : Int))
  bif v2 then ((fulcrumref02_Floor.F ((x8_0, x8_1), (x9_0, x9_1), ())).bind fun y3 =>
  (fulcrumref02_Mul.F ((y3.1.1, y3.1.2), (x11_0, x11_1), ())).bind fun y4 =>
  (fulcrumref02_Sub.F ((x10_0, x10_1), (y4.1.1, y4.1.2), ())).bind fun y5 =>
  f6 x2_0 x2_1 x3_0 x3_1 x5_0 x6_0 x7 x9_0 x9_1 y3.2.1.1 y3.2.1.2 x11_0 x11_1 y5.1.1 y5.1.2)
  else ((fulcrumref02_Sign.F ((x8_0, x8_1), ())).bind fun y6 =>
  let v7 := decide (y6.1 < (0 : Int))
  bif v7 then ((fulcrumref02_Neg.F ((x10_0, x10_1), ())).bind fun y8 =>
  (fulcrumref02_made.F (false, x3_1, ())).bind fun y9 =>
  (fulcrumref02_made.F (false, x7, ())).bind fun y10 =>
  (fulcrumref02_Quo.F ((y9.1.1, y9.1.2), (y10.1.1, y10.1.2), ())).bind fun y11 =>
  (fulcrumref02_Euclid.F ((y8.1.1, y8.1.2), (y11.1.1, y11.1.2), ())).bind fun y12 =>
  (fulcrumref02_made.F (false, x7, ())).bind fun y13 =>
  (fulcrumref02_Mul.F ((x2_0, x2_1), (y12.2.1.1, y12.2.1.2), ())).bind fun y14 =>
  (fulcrumref02_Sub.F ((y13.1.1, y13.1.2), (y14.1.1, y14.1.2), ())).bind fun y15 =>
  (fulcrumref02_Quo.F ((y15.1.1, y15.1.2), (x3_0, x3_1), ())).bind fun y16 =>
  some (x7, (y12.2.1.1, y12.2.1.2), (y16.1.1, y16.1.2), ()))
  else ((fulcrumref02_made.F (false, x3_1, ())).bind fun y17 =>
  (fulcrumref02_made.F (false, x7, ())).bind fun y18 =>
  (fulcrumref02_Quo.F ((y17.1.1, y17.1.2), (y18.1.1, y18.1.2), ())).bind fun y19 =>
  (fulcrumref02_Euclid.F ((x10_0, x10_1), (y19.1.1, y19.1.2), ())).bind fun y20 =>
  (fulcrumref02_made.F (false, x7, ())).bind fun y21 =>
  (fulcrumref02_Mul.F ((x2_0, x2_1), (y20.2.1.1, y20.2.1.2), ())).bind fun y22 =>
  (fulcrumref02_Sub.F ((y21.1.1, y21.1.2), (y22.1.1, y22.1.2), ())).bind fun y23 =>
  (fulcrumref02_Quo.F ((y23.1.1, y23.1.2), (x3_0, x3_1), ())).bind fun y24 =>
  some (x7, (y20.2.1.1, y20.2.1.2), (y24.1.1, y24.1.2), ())))
noncomputable def fulcrumref02_Bezout.e (f6 : Bool → (List Int) → Bool → (List Int) → Bool → Bool → (List Int) → Bool → (List Int) → Bool → (List Int) → Bool → (List Int) → Bool → (List Int) → Option ((List Int) × (Bool × (List Int)) × (Bool × (List Int)) × Unit)) (a0 : (Bool × (List Int))) (a1 : (Bool × (List Int))) : Option ((List Int) × (Bool × (List Int)) × (Bool × (List Int)) × Unit) :=
  (fulcrumref02_Gcd.F ((a0.1, a0.2), (a1.1, a1.2), ())).bind fun y1 =>
  (fulcrumref02_Sign.F ((a1.1, a1.2), ())).bind fun y2 =>
  let v3 := (y2.1 == (0 : Int))
  bif v3 then ((fulcrumref02_Sign.F ((a0.1, a0.2), ())).bind fun y4 =>
  (fulcrumref02_Of.F (y4.1, ())).bind fun y5 =>
  (fulcrumref02_Of.F ((0 : Int), ())).bind fun y6 =>
  some (y1.1, (y5.1.1, y5.1.2), (y6.1.1, y6.1.2), ()))
  else ((fulcrumref02_Norm.F ((a0.1, a0.2), ())).bind fun y7 =>
  (fulcrumref02_Norm.F ((a1.1, a1.2), ())).bind fun y8 =>
  (fulcrumref02_Of.F ((1 : Int), ())).bind fun y9 =>
  (fulcrumref02_Of.F ((0 : Int), ())).bind fun y10 =>
  f6 a0.1 a0.2 a1.1 a1.2 false false y1.1 y7.1.1 y7.1.2 y8.1.1 y8.1.2 y9.1.1 y9.1.2 y10.1.1 y10.1.2)
noncomputable def fulcrumref02_Bezout.L6 (k : Nat) (x2_0 : Bool) (x2_1 : (List Int)) (x3_0 : Bool) (x3_1 : (List Int)) (x5_0 : Bool) (x6_0 : Bool) (x7 : (List Int)) (x8_0 : Bool) (x8_1 : (List Int)) (x9_0 : Bool) (x9_1 : (List Int)) (x10_0 : Bool) (x10_1 : (List Int)) (x11_0 : Bool) (x11_1 : (List Int)) : Option ((List Int) × (Bool × (List Int)) × (Bool × (List Int)) × Unit) := heads (fulcrumref02_Bezout.spec.env fulcrumref02_Bezout.cals T Try.f61) (Func.pts Try.f61) k 6 (fulcrumref02_Bezout.m6 x2_0 x2_1 x3_0 x3_1 x5_0 x6_0 x7 x8_0 x8_1 x9_0 x9_1 x10_0 x10_1 x11_0 x11_1)
theorem fulcrumref02_Bezout.L6_succ (k : Nat) (x2_0 : Bool) (x2_1 : (List Int)) (x3_0 : Bool) (x3_1 : (List Int)) (x5_0 : Bool) (x6_0 : Bool) (x7 : (List Int)) (x8_0 : Bool) (x8_1 : (List Int)) (x9_0 : Bool) (x9_1 : (List Int)) (x10_0 : Bool) (x10_1 : (List Int)) (x11_0 : Bool) (x11_1 : (List Int)) : fulcrumref02_Bezout.L6 (k + 1) x2_0 x2_1 x3_0 x3_1 x5_0 x6_0 x7 x8_0 x8_1 x9_0 x9_1 x10_0 x10_1 x11_0 x11_1 = fulcrumref02_Bezout.b6 (fulcrumref02_Bezout.L6 k) x2_0 x2_1 x3_0 x3_1 x5_0 x6_0 x7 x8_0 x8_1 x9_0 x9_1 x10_0 x10_1 x11_0 x11_1 := by kernel_rfl
theorem fulcrumref02_Bezout.L6_zero (x2_0 : Bool) (x2_1 : (List Int)) (x3_0 : Bool) (x3_1 : (List Int)) (x5_0 : Bool) (x6_0 : Bool) (x7 : (List Int)) (x8_0 : Bool) (x8_1 : (List Int)) (x9_0 : Bool) (x9_1 : (List Int)) (x10_0 : Bool) (x10_1 : (List Int)) (x11_0 : Bool) (x11_1 : (List Int)) : fulcrumref02_Bezout.L6 0 x2_0 x2_1 x3_0 x3_1 x5_0 x6_0 x7 x8_0 x8_1 x9_0 x9_1 x10_0 x10_1 x11_0 x11_1 = none := by kernel_rfl
theorem fulcrumref02_Bezout.eval (k : Nat) (a0 : (Bool × (List Int))) (a1 : (Bool × (List Int))) : evalF fulcrumref02_Bezout.spec fulcrumref02_Bezout.cals T Try.f61 k (a0, a1, ()) = fulcrumref02_Bezout.e (fulcrumref02_Bezout.L6 k) a0 a1 := by kernel_rfl
theorem fulcrumref02_Bezout.F_eq (a0 : (Bool × (List Int))) (a1 : (Bool × (List Int))) : fulcrumref02_Bezout.F (a0, a1, ()) = limF fulcrumref02_Bezout.spec fulcrumref02_Bezout.cals T Try.f61 (a0, a1, ()) := by kernel_rfl
theorem fulcrumref02_Bezout.of (k : Nat) (a0 : (Bool × (List Int))) (a1 : (Bool × (List Int))) {y : (List Int) × (Bool × (List Int)) × (Bool × (List Int)) × Unit} (h : fulcrumref02_Bezout.e (fulcrumref02_Bezout.L6 k) a0 a1 = some y) : fulcrumref02_Bezout.F (a0, a1, ()) = some y := (fulcrumref02_Bezout.F_eq a0 a1).trans (limF_of (q := fulcrumref02_Bezout.spec) (C := fulcrumref02_Bezout.cals) (T := T) (f := Try.f61) (x := (a0, a1, ())) (y := y) k ((fulcrumref02_Bezout.eval k a0 a1).trans h))

/-! ### fulcrum/fulcrumref02.Inverse -/
def fulcrumref02_Inverse.spec : Spec := ⟨[(true, (.prod .bool (.sl 70 (.int .u32)))), (true, (.prod .bool (.sl 70 (.int .u32))))], [(true, (.prod .bool (.sl 70 (.int .u32)))), (false, (.int .i64))], .own, fun j => match j with  | _ => []⟩
noncomputable def fulcrumref02_Inverse.cals : Cals := (Cals.cons 30 fulcrumref02_Sign.sig (Cals.cons 58 fulcrumref02_Gcd.sig (Cals.cons 83 fulcrumref01_Cmp.sig (Cals.cons 61 fulcrumref02_Bezout.sig Cals.nil))))
noncomputable def fulcrumref02_Inverse.sig : Sig := fulcrumref02_Inverse.spec.sig fulcrumref02_Inverse.cals T Try.f62
noncomputable def fulcrumref02_Inverse.F (x : (Bool × (List Int)) × (Bool × (List Int)) × Unit) : Option ((Bool × (List Int)) × Int × Unit) := limF fulcrumref02_Inverse.spec fulcrumref02_Inverse.cals T Try.f62 x
theorem fulcrumref02_Inverse.ck : CalsOk Try.prog fulcrumref02_Inverse.cals := (CalsOk.cons fulcrumref02_Sign.cal (CalsOk.cons fulcrumref02_Gcd.cal (CalsOk.cons fulcrumref01_Cmp.cal (CalsOk.cons fulcrumref02_Bezout.cal CalsOk.nil))))
theorem fulcrumref02_Inverse.cal : CalOk Try.prog 62 fulcrumref02_Inverse.sig := calOk_lim' tabOk fulcrumref02_Inverse.ck mix Try.func62 (by kernel_rfl) (by kernel_rfl) (by kernel_rfl) (by kernel_rfl)
noncomputable def fulcrumref02_Inverse.e  (a0 : (Bool × (List Int))) (a1 : (Bool × (List Int))) : Option ((Bool × (List Int)) × Int × Unit) :=
  (fulcrumref02_Sign.F ((a1.1, a1.2), ())).bind fun y1 =>
  let v2 := (y1.1 == (0 : Int))
  bif v2 then (some ((false, ([] : List Int)), (20 : Int), ()))
  else ((fulcrumref02_Gcd.F ((a0.1, a0.2), (a1.1, a1.2), ())).bind fun y3 =>
  let v4 := ([(1 : Int)] : List Int)
  (fulcrumref01_Cmp.F (y3.1, v4, ())).bind fun y5 =>
  let v6 := (y5.1 != (0 : Int))
  bif v6 then (some ((false, ([] : List Int)), (20 : Int), ()))
  else ((fulcrumref02_Bezout.F ((a0.1, a0.2), (a1.1, a1.2), ())).bind fun y7 =>
  some ((y7.2.1.1, y7.2.1.2), (0 : Int), ())))
theorem fulcrumref02_Inverse.eval (k : Nat) (a0 : (Bool × (List Int))) (a1 : (Bool × (List Int))) : evalF fulcrumref02_Inverse.spec fulcrumref02_Inverse.cals T Try.f62 k (a0, a1, ()) = fulcrumref02_Inverse.e  a0 a1 := by kernel_rfl
theorem fulcrumref02_Inverse.F_eq (a0 : (Bool × (List Int))) (a1 : (Bool × (List Int))) : fulcrumref02_Inverse.F (a0, a1, ()) = limF fulcrumref02_Inverse.spec fulcrumref02_Inverse.cals T Try.f62 (a0, a1, ()) := by kernel_rfl
theorem fulcrumref02_Inverse.of (k : Nat) (a0 : (Bool × (List Int))) (a1 : (Bool × (List Int))) {y : (Bool × (List Int)) × Int × Unit} (h : fulcrumref02_Inverse.e  a0 a1 = some y) : fulcrumref02_Inverse.F (a0, a1, ()) = some y := (fulcrumref02_Inverse.F_eq a0 a1).trans (limF_of (q := fulcrumref02_Inverse.spec) (C := fulcrumref02_Inverse.cals) (T := T) (f := Try.f62) (x := (a0, a1, ())) (y := y) k ((fulcrumref02_Inverse.eval k a0 a1).trans h))

/-! ### fulcrum/fulcrumlaw02.WholeCommon -/
def fulcrumlaw02_WholeCommon.spec : Spec := ⟨[(true, (.prod .bool (.sl 70 (.int .u32)))), (true, (.prod .bool (.sl 70 (.int .u32))))], [(false, .bool)], .own, fun j => match j with  | _ => []⟩
noncomputable def fulcrumlaw02_WholeCommon.cals : Cals := (Cals.cons 56 whole_Gcd.sig (Cals.cons 58 fulcrumref02_Gcd.sig (Cals.cons 26 fulcrummem_SameNat.sig (Cals.cons 59 whole_Lcm.sig (Cals.cons 60 fulcrumref02_Lcm.sig (Cals.cons 57 whole_Bezout.sig (Cals.cons 61 fulcrumref02_Bezout.sig (Cals.cons 19 fulcrumlaw02_same.sig (Cals.cons 55 whole_Inverse.sig (Cals.cons 62 fulcrumref02_Inverse.sig Cals.nil))))))))))
noncomputable def fulcrumlaw02_WholeCommon.sig : Sig := fulcrumlaw02_WholeCommon.spec.sig fulcrumlaw02_WholeCommon.cals T Try.f15
noncomputable def fulcrumlaw02_WholeCommon.F (x : (Bool × (List Int)) × (Bool × (List Int)) × Unit) : Option (Bool × Unit) := limF fulcrumlaw02_WholeCommon.spec fulcrumlaw02_WholeCommon.cals T Try.f15 x
theorem fulcrumlaw02_WholeCommon.ck : CalsOk Try.prog fulcrumlaw02_WholeCommon.cals := (CalsOk.cons whole_Gcd.cal (CalsOk.cons fulcrumref02_Gcd.cal (CalsOk.cons fulcrummem_SameNat.cal (CalsOk.cons whole_Lcm.cal (CalsOk.cons fulcrumref02_Lcm.cal (CalsOk.cons whole_Bezout.cal (CalsOk.cons fulcrumref02_Bezout.cal (CalsOk.cons fulcrumlaw02_same.cal (CalsOk.cons whole_Inverse.cal (CalsOk.cons fulcrumref02_Inverse.cal CalsOk.nil))))))))))
theorem fulcrumlaw02_WholeCommon.cal : CalOk Try.prog 15 fulcrumlaw02_WholeCommon.sig := calOk_lim' tabOk fulcrumlaw02_WholeCommon.ck mix Try.func15 (by kernel_rfl) (by kernel_rfl) (by kernel_rfl) (by kernel_rfl)
noncomputable def fulcrumlaw02_WholeCommon.e  (a0 : (Bool × (List Int))) (a1 : (Bool × (List Int))) : Option (Bool × Unit) :=
  (whole_Gcd.F ((a0.1, a0.2), (a1.1, a1.2), ())).bind fun y1 =>
  (fulcrumref02_Gcd.F ((a0.1, a0.2), (a1.1, a1.2), ())).bind fun y2 =>
  (fulcrummem_SameNat.F (y1.1, y2.1, ())).bind fun y3 =>
  let v4 := not y3.1
  bif v4 then (some (false, ()))
  else ((whole_Lcm.F ((a0.1, a0.2), (a1.1, a1.2), ())).bind fun y5 =>
  (fulcrumref02_Lcm.F ((a0.1, a0.2), (a1.1, a1.2), ())).bind fun y6 =>
  (fulcrummem_SameNat.F (y5.1, y6.1, ())).bind fun y7 =>
  let v8 := not y7.1
  bif v8 then (some (false, ()))
  else ((whole_Bezout.F ((a0.1, a0.2), (a1.1, a1.2), ())).bind fun y9 =>
  (fulcrumref02_Bezout.F ((a0.1, a0.2), (a1.1, a1.2), ())).bind fun y10 =>
  (fulcrummem_SameNat.F (y9.1, y10.1, ())).bind fun y11 =>
  let v12 := not y11.1
  bif v12 then (some (false, ()))
  else ((fulcrumlaw02_same.F ((y9.2.1.1, y9.2.1.2), (y10.2.1.1, y10.2.1.2), ())).bind fun y13 =>
  let v14 := not y13.1
  bif v14 then (some (false, ()))
  else ((fulcrumlaw02_same.F ((y9.2.2.1.1, y9.2.2.1.2), (y10.2.2.1.1, y10.2.2.1.2), ())).bind fun y15 =>
  let v16 := not y15.1
  bif v16 then (some (false, ()))
  else ((whole_Inverse.F ((a0.1, a0.2), (a1.1, a1.2), ())).bind fun y17 =>
  (fulcrumref02_Inverse.F ((a0.1, a0.2), (a1.1, a1.2), ())).bind fun y18 =>
  let v19 := (y17.2.1 == y18.2.1)
  bif v19 then ((fulcrumlaw02_same.F ((y17.1.1, y17.1.2), (y18.1.1, y18.1.2), ())).bind fun y20 =>
  some (y20.1, ()))
  else (some (false, ())))))))
theorem fulcrumlaw02_WholeCommon.eval (k : Nat) (a0 : (Bool × (List Int))) (a1 : (Bool × (List Int))) : evalF fulcrumlaw02_WholeCommon.spec fulcrumlaw02_WholeCommon.cals T Try.f15 k (a0, a1, ()) = fulcrumlaw02_WholeCommon.e  a0 a1 := by kernel_rfl
theorem fulcrumlaw02_WholeCommon.F_eq (a0 : (Bool × (List Int))) (a1 : (Bool × (List Int))) : fulcrumlaw02_WholeCommon.F (a0, a1, ()) = limF fulcrumlaw02_WholeCommon.spec fulcrumlaw02_WholeCommon.cals T Try.f15 (a0, a1, ()) := by kernel_rfl
theorem fulcrumlaw02_WholeCommon.of (k : Nat) (a0 : (Bool × (List Int))) (a1 : (Bool × (List Int))) {y : Bool × Unit} (h : fulcrumlaw02_WholeCommon.e  a0 a1 = some y) : fulcrumlaw02_WholeCommon.F (a0, a1, ()) = some y := (fulcrumlaw02_WholeCommon.F_eq a0 a1).trans (limF_of (q := fulcrumlaw02_WholeCommon.spec) (C := fulcrumlaw02_WholeCommon.cals) (T := T) (f := Try.f15) (x := (a0, a1, ())) (y := y) k ((fulcrumlaw02_WholeCommon.eval k a0 a1).trans h))

end Go.Fx.Try
