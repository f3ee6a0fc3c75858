import Derived.Test.YthmdbafinpmojaaW08a
namespace Go.Fx.Try
open Go Go.Proofs Go.Fx
set_option linter.unusedVariables false
set_option maxRecDepth 100000


/-! ### fulcrum/fulcrumref01.Cmp -/
def fulcrumref01_Cmp.spec : Spec := ⟨[(false, Kt41), (false, Kt41)], [(false, (.int .i64))], .own, fun j => match j with | 5 => [(0, .lf (.z 115 (.int .u32) false)), (1, .lf (.z 115 (.int .u32) false)), (6, .lf (.v true))] | _ => []⟩
noncomputable def fulcrumref01_Cmp.cals : Cals := (Cals.cons 104 fulcrumref01_at.sig (Cals.base tabs))
noncomputable def fulcrumref01_Cmp.sig : Sig := fulcrumref01_Cmp.spec.sig fulcrumref01_Cmp.cals T Try.f90
noncomputable def fulcrumref01_Cmp.F (x : Dt41 × Dt41 × Unit) : Option (Int × Unit) := limF fulcrumref01_Cmp.spec fulcrumref01_Cmp.cals T Try.f90 x
theorem fulcrumref01_Cmp.ck : CalsOk Try.prog fulcrumref01_Cmp.cals := (CalsOk.cons fulcrumref01_at.cal (CalsOk.base tabsOk))
theorem fulcrumref01_Cmp.cal : CalOk Try.prog tabs 90 fulcrumref01_Cmp.sig := calOk_lim' tabOk fulcrumref01_Cmp.ck mix Try.func90 (by kernel_rfl) (by kernel_rfl) (by kernel_rfl) (by kernel_rfl)
def fulcrumref01_Cmp.m5 (x0 : Dt41) (x1 : Dt41) (x6 : Int) : S := ⟨[(0, .one (.lf (.val false Kt41 x0))), (1, .one (.lf (.val false Kt41 x1))), (6, .one (.lf (.val true (.int .i64) x6)))], ⟨[], []⟩⟩
noncomputable def fulcrumref01_Cmp.b5 (f5 : Dt41 → Dt41 → Int → Option (Int × Unit)) (x0 : Dt41) (x1 : Dt41) (x6 : Int) : Option (Int × Unit) :=
  let v1 := decide (x6 ≥ (0 : Int))
  bif v1 then ((fulcrumref01_at.F (x0, x6, ())).bind fun y2 =>
  (fulcrumref01_at.F (x1, x6, ())).bind fun y3 =>
  let v4 := decide (y2.1 < y3.1)
  bif v4 then (some ((-1 : Int), ()))
  else ((fulcrumref01_at.F (x0, x6, ())).bind fun y5 =>
  (fulcrumref01_at.F (x1, x6, ())).bind fun y6 =>
  let v7 := decide (y5.1 > y6.1)
  bif v7 then (some ((1 : Int), ()))
  else (let v8 := IntKind.i64.wrap (x6 - (1 : Int))
  f5 x0 x1 v8)))
  else (some ((0 : Int), ()))
noncomputable def fulcrumref01_Cmp.e (f5 : Dt41 → Dt41 → Int → Option (Int × Unit)) (a0 : Dt41) (a1 : Dt41) : Option (Int × Unit) :=
  let v1 := (List.length a0 : Int)
  let v2 := (List.length a1 : Int)
  let v3 := decide (v2 > v1)
  bif v3 then (let v4 := (List.length a1 : Int)
  let v5 := IntKind.i64.wrap (v4 - (1 : Int))
  f5 a0 a1 v5)
  else (let v6 := IntKind.i64.wrap (v1 - (1 : Int))
  f5 a0 a1 v6)
noncomputable def fulcrumref01_Cmp.L5 (k : Nat) (x0 : Dt41) (x1 : Dt41) (x6 : Int) : Option (Int × Unit) := heads (fulcrumref01_Cmp.spec.env fulcrumref01_Cmp.cals T Try.f90) (Func.pts Try.f90) k 5 (fulcrumref01_Cmp.m5 x0 x1 x6)
theorem fulcrumref01_Cmp.L5_succ (k : Nat) (x0 : Dt41) (x1 : Dt41) (x6 : Int) : fulcrumref01_Cmp.L5 (k + 1) x0 x1 x6 = fulcrumref01_Cmp.b5 (fulcrumref01_Cmp.L5 k) x0 x1 x6 := by kernel_rfl
theorem fulcrumref01_Cmp.L5_zero (x0 : Dt41) (x1 : Dt41) (x6 : Int) : fulcrumref01_Cmp.L5 0 x0 x1 x6 = none := by kernel_rfl
theorem fulcrumref01_Cmp.eval (k : Nat) (a0 : Dt41) (a1 : Dt41) : evalF fulcrumref01_Cmp.spec fulcrumref01_Cmp.cals T Try.f90 k (a0, a1, ()) = fulcrumref01_Cmp.e (fulcrumref01_Cmp.L5 k) a0 a1 := by kernel_rfl
theorem fulcrumref01_Cmp.F_eq (a0 : Dt41) (a1 : Dt41) : fulcrumref01_Cmp.F (a0, a1, ()) = limF fulcrumref01_Cmp.spec fulcrumref01_Cmp.cals T Try.f90 (a0, a1, ()) := by kernel_rfl
theorem fulcrumref01_Cmp.of (k : Nat) (a0 : Dt41) (a1 : Dt41) {y : Int × Unit} (h : fulcrumref01_Cmp.e (fulcrumref01_Cmp.L5 k) a0 a1 = some y) : fulcrumref01_Cmp.F (a0, a1, ()) = some y := (fulcrumref01_Cmp.F_eq a0 a1).trans (limF_of (q := fulcrumref01_Cmp.spec) (C := fulcrumref01_Cmp.cals) (T := T) (f := Try.f90) (x := (a0, a1, ())) (y := y) k ((fulcrumref01_Cmp.eval k a0 a1).trans h))

/-! ### fulcrum/fulcrumref01.Bit -/
def fulcrumref01_Bit.spec : Spec := ⟨[(false, Kt41), (false, (.int .i64))], [(false, .bool)], .own, fun j => match j with  | _ => []⟩
noncomputable def fulcrumref01_Bit.cals : Cals := (Cals.base tabs)
noncomputable def fulcrumref01_Bit.sig : Sig := fulcrumref01_Bit.spec.sig fulcrumref01_Bit.cals T Try.f91
noncomputable def fulcrumref01_Bit.F (x : Dt41 × Int × Unit) : Option (Bool × Unit) := limF fulcrumref01_Bit.spec fulcrumref01_Bit.cals T Try.f91 x
theorem fulcrumref01_Bit.ck : CalsOk Try.prog fulcrumref01_Bit.cals := (CalsOk.base tabsOk)
theorem fulcrumref01_Bit.cal : CalOk Try.prog tabs 91 fulcrumref01_Bit.sig := calOk_lim' tabOk fulcrumref01_Bit.ck mix Try.func91 (by kernel_rfl) (by kernel_rfl) (by kernel_rfl) (by kernel_rfl)
noncomputable def fulcrumref01_Bit.e  (a0 : Dt41) (a1 : Int) : Option (Bool × Unit) :=
  let v1 := decide (a1 ≥ (0 : Int))
  bif v1 then (bif decide ((32 : Int) = 0) then none
  else (let v2 := IntKind.i64.wrap (Int.tdiv a1 (32 : Int))
  let v3 := (List.length a0 : Int)
  let v4 := decide (v2 < v3)
  bif v4 then (bif decide ((32 : Int) = 0) then none
  else (let v5 := IntKind.i64.wrap (Int.tdiv a1 (32 : Int))
  bif decide (0 ≤ v5) && decide (v5 < (List.length a0 : Int)) then (let v6 := List.getD a0 (Int.toNat v5) (0 : Int)
  bif decide ((32 : Int) = 0) then none
  else (let v7 := Int.tmod a1 (32 : Int)
  let v8 := IntKind.u64.wrap v7
  bif decide (v8 < 0) then none
  else (let v9 := shrI .u32 v6 v8
  let v10 := bitsOp .and .u32 v9 (1 : Int)
  let v11 := (v10 == (1 : Int))
  some (v11, ()))))
  else none))
  else (some (false, ()))))
  else (some (false, ()))
theorem fulcrumref01_Bit.eval (k : Nat) (a0 : Dt41) (a1 : Int) : evalF fulcrumref01_Bit.spec fulcrumref01_Bit.cals T Try.f91 k (a0, a1, ()) = fulcrumref01_Bit.e  a0 a1 := by kernel_rfl
theorem fulcrumref01_Bit.F_eq (a0 : Dt41) (a1 : Int) : fulcrumref01_Bit.F (a0, a1, ()) = limF fulcrumref01_Bit.spec fulcrumref01_Bit.cals T Try.f91 (a0, a1, ()) := by kernel_rfl
theorem fulcrumref01_Bit.of (k : Nat) (a0 : Dt41) (a1 : Int) {y : Bool × Unit} (h : fulcrumref01_Bit.e  a0 a1 = some y) : fulcrumref01_Bit.F (a0, a1, ()) = some y := (fulcrumref01_Bit.F_eq a0 a1).trans (limF_of (q := fulcrumref01_Bit.spec) (C := fulcrumref01_Bit.cals) (T := T) (f := Try.f91) (x := (a0, a1, ())) (y := y) k ((fulcrumref01_Bit.eval k a0 a1).trans h))

/-! ### fulcrum/fulcrumref01.Shift -/
def fulcrumref01_Shift.spec : Spec := ⟨[(false, Kt41), (false, (.int .i64))], [(false, Kt41), (false, (.int .i64))], .own, fun j => match j with | 15 => [(0, .lf (.z 115 (.int .u32) false)), (6, .lf (.v true)), (7, .lf (.o 115 (.int .u32) true)), (8, .lf (.v true)), (9, .lf (.v true)), (10, .lf (.v true))] | _ => []⟩
noncomputable def fulcrumref01_Shift.cals : Cals := (Cals.cons 72 fulcrumref01_Norm.sig (Cals.base tabs))
noncomputable def fulcrumref01_Shift.sig : Sig := fulcrumref01_Shift.spec.sig fulcrumref01_Shift.cals T Try.f92
noncomputable def fulcrumref01_Shift.F (x : Dt41 × Int × Unit) : Option (Dt41 × Int × Unit) := limF fulcrumref01_Shift.spec fulcrumref01_Shift.cals T Try.f92 x
theorem fulcrumref01_Shift.ck : CalsOk Try.prog fulcrumref01_Shift.cals := (CalsOk.cons fulcrumref01_Norm.cal (CalsOk.base tabsOk))
theorem fulcrumref01_Shift.cal : CalOk Try.prog tabs 92 fulcrumref01_Shift.sig := calOk_lim' tabOk fulcrumref01_Shift.ck mix Try.func92 (by kernel_rfl) (by kernel_rfl) (by kernel_rfl) (by kernel_rfl)
def fulcrumref01_Shift.m15 (x0 : Dt41) (x6 : Int) (x7 : Dt41) (x8 : Int) (x9 : Int) (x10 : Int) : S := ⟨[(0, .one (.lf (.val false Kt41 x0))), (6, .one (.lf (.val true (.int .i64) x6))), (7, .one (.lf (.own 0))), (8, .one (.lf (.val true (.int .i64) x8))), (9, .one (.lf (.val true (.int .i64) x9))), (10, .one (.lf (.val true (.int .i64) x10)))], ⟨[some ⟨115, (.int .u32), true, true, x7⟩], []⟩⟩
noncomputable def fulcrumref01_Shift.b15 (f15 : Dt41 → Int → Dt41 → Int → Int → Int → Option (Dt41 × Int × Unit)) (x0 : Dt41) (x6 : Int) (x7 : Dt41) (x8 : Int) (x9 : Int) (x10 : Int) : Option (Dt41 × Int × Unit) :=
  let v1 := (List.length x0 : Int)
  let v2 := decide (x10 < v1)
  bif v2 then (bif decide (0 ≤ x10) && decide (x10 < (List.length x0 : Int)) then (let v3 := List.getD x0 (Int.toNat x10) (0 : Int)
  let v4 := IntKind.u64.wrap v3
  let v5 := IntKind.u64.wrap x9
  bif decide (v5 < 0) then none
  else (let v6 := shlI .u64 v4 v5
  let v7 := IntKind.i64.wrap (x10 + x8)
  let v8 := decide (v7 ≥ (0 : Int))
  bif v8 then (let v9 := IntKind.i64.wrap (x10 + x8)
  let v10 := decide (v9 < x6)
  bif v10 then (let v11 := IntKind.i64.wrap (x10 + x8)
  bif decide (0 ≤ v11) && decide (v11 < (List.length x7 : Int)) then (let v12 := List.getD x7 (Int.toNat v11) (0 : Int)
  let v13 := IntKind.u32.wrap v6
  let v14 := bitsOp .or .u32 v12 v13
  bif decide (0 ≤ v11) && decide (v11 < (List.length x7 : Int)) then (let v15 := List.set x7 (Int.toNat v11) v14
  let v16 := IntKind.i64.wrap (x10 + x8)
  let v17 := IntKind.i64.wrap (v16 + (1 : Int))
  let v18 := decide (v17 ≥ (0 : Int))
  bif v18 then (let v19 := IntKind.i64.wrap (x10 + x8)
  let v20 := IntKind.i64.wrap (v19 + (1 : Int))
  let v21 := decide (v20 < x6)
  bif v21 then (let v22 := IntKind.i64.wrap (x10 + x8)
  let v23 := IntKind.i64.wrap (v22 + (1 : Int))
  bif decide (0 ≤ v23) && decide (v23 < (List.length v15 : Int)) then (let v24 := List.getD v15 (Int.toNat v23) (0 : Int)
  bif decide ((32 : Int) < 0) then none
  else (let v25 := shrI .u64 v6 (32 : Int)
  let v26 := IntKind.u32.wrap v25
  let v27 := bitsOp .or .u32 v24 v26
  bif decide (0 ≤ v23) && decide (v23 < (List.length v15 : Int)) then (let v28 := List.set v15 (Int.toNat v23) v27
  let v29 := IntKind.i64.wrap (x10 + (1 : Int))
  f15 x0 x6 v28 x8 x9 v29)
  else none))
  else none)
  else (let v30 := IntKind.i64.wrap (x10 + (1 : Int))
  f15 x0 x6 v15 x8 x9 v30))
  else (let v31 := IntKind.i64.wrap (x10 + (1 : Int))
  f15 x0 x6 v15 x8 x9 v31))
  else none)
  else none)
  else (let v32 := IntKind.i64.wrap (x10 + x8)
  let v33 := IntKind.i64.wrap (v32 + (1 : Int))
  let v34 := decide (v33 ≥ (0 : Int))
  bif v34 then (let v35 := IntKind.i64.wrap (x10 + x8)
  let v36 := IntKind.i64.wrap (v35 + (1 : Int))
  let v37 := decide (v36 < x6)
  bif v37 then (let v38 := IntKind.i64.wrap (x10 + x8)
  let v39 := IntKind.i64.wrap (v38 + (1 : Int))
  bif decide (0 ≤ v39) && decide (v39 < (List.length x7 : Int)) then (let v40 := List.getD x7 (Int.toNat v39) (0 : Int)
  bif decide ((32 : Int) < 0) then none
  else (let v41 := shrI .u64 v6 (32 : Int)
  let v42 := IntKind.u32.wrap v41
  let v43 := bitsOp .or .u32 v40 v42
  bif decide (0 ≤ v39) && decide (v39 < (List.length x7 : Int)) then (let v44 := List.set x7 (Int.toNat v39) v43
  let v45 := IntKind.i64.wrap (x10 + (1 : Int))
  f15 x0 x6 v44 x8 x9 v45)
  else none))
  else none)
  else (let v46 := IntKind.i64.wrap (x10 + (1 : Int))
  f15 x0 x6 x7 x8 x9 v46))
  else (let v47 := IntKind.i64.wrap (x10 + (1 : Int))
  f15 x0 x6 x7 x8 x9 v47)))
  else (let v48 := IntKind.i64.wrap (x10 + x8)
  let v49 := IntKind.i64.wrap (v48 + (1 : Int))
  let v50 := decide (v49 ≥ (0 : Int))
  bif v50 then (let v51 := IntKind.i64.wrap (x10 + x8)
  let v52 := IntKind.i64.wrap (v51 + (1 : Int))
  let v53 := decide (v52 < x6)
  bif v53 then (let v54 := IntKind.i64.wrap (x10 + x8)
  let v55 := IntKind.i64.wrap (v54 + (1 : Int))
  bif decide (0 ≤ v55) && decide (v55 < (List.length x7 : Int)) then (let v56 := List.getD x7 (Int.toNat v55) (0 : Int)
  bif decide ((32 : Int) < 0) then none
  else (let v57 := shrI .u64 v6 (32 : Int)
  let v58 := IntKind.u32.wrap v57
  let v59 := bitsOp .or .u32 v56 v58
  bif decide (0 ≤ v55) && decide (v55 < (List.length x7 : Int)) then (let v60 := List.set x7 (Int.toNat v55) v59
  let v61 := IntKind.i64.wrap (x10 + (1 : Int))
  f15 x0 x6 v60 x8 x9 v61)
  else none))
  else none)
  else (let v62 := IntKind.i64.wrap (x10 + (1 : Int))
  f15 x0 x6 x7 x8 x9 v62))
  else (let v63 := IntKind.i64.wrap (x10 + (1 : Int))
  f15 x0 x6 x7 x8 x9 v63))))
  else none)
  else ((fulcrumref01_Norm.F (x7, ())).bind fun y64 =>
  some (y64.1, (0 : Int), ()))
noncomputable def fulcrumref01_Shift.e (f15 : Dt41 → Int → Dt41 → Int → Int → Int → Option (Dt41 × Int × Unit)) (a0 : Dt41) (a1 : Int) : Option (Dt41 × Int × Unit) :=
  let v1 := decide (a1 < (-1048576 : Int))
  bif v1 then (some (zt41, (12 : Int), ()))
  else (let v2 := decide (a1 > (1048576 : Int))
  bif v2 then (some (zt41, (12 : Int), ()))
  else ((fulcrumref01_Norm.F (a0, ())).bind fun y3 =>
  let v4 := (List.length y3.1 : Int)
  let v5 := (v4 == (0 : Int))
  bif v5 then (let v6 := zt41
  some (v6, (0 : Int), ()))
  else (let v7 := (List.length a0 : Int)
  let v8 := decide (a1 > (0 : Int))
  bif v8 then (bif decide ((32 : Int) = 0) then none
  else (let v9 := IntKind.i64.wrap (Int.tdiv a1 (32 : Int))
  let v10 := IntKind.i64.wrap (v9 + (1 : Int))
  let v11 := IntKind.i64.wrap (v7 + v10)
  bif decide (0 ≤ v11) && (decide (v11 ≤ v11) && (decide (Int.toNat v11 * 4 ≤ 281474976710656) && Nat.blt 0 4)) then (let v12 := List.replicate (Int.toNat v11) (0 : Int)
  bif decide ((32 : Int) = 0) then none
  else (let v13 := IntKind.i64.wrap (Int.tdiv a1 (32 : Int))
  bif decide ((32 : Int) = 0) then none
  else (let v14 := Int.tmod a1 (32 : Int)
  let v15 := decide (v14 < (0 : Int))
  bif v15 then (let v16 := IntKind.i64.wrap (v13 - (1 : Int))
  let v17 := IntKind.i64.wrap (v14 + (32 : Int))
  f15 a0 v11 v12 v16 v17 (0 : Int))
  else (f15 a0 v11 v12 v13 v14 (0 : Int)))))
  else none))
  else (bif decide (0 ≤ v7) && (decide (v7 ≤ v7) && (decide (Int.toNat v7 * 4 ≤ 281474976710656) && Nat.blt 0 4)) then (let v18 := List.replicate (Int.toNat v7) (0 : Int)
  bif decide ((32 : Int) = 0) then none
  else (let v19 := IntKind.i64.wrap (Int.tdiv a1 (32 : Int))
  bif decide ((32 : Int) = 0) then none
  else (let v20 := Int.tmod a1 (32 : Int)
  let v21 := decide (v20 < (0 : Int))
  bif v21 then (let v22 := IntKind.i64.wrap (v19 - (1 : Int))
  let v23 := IntKind.i64.wrap (v20 + (32 : Int))
  f15 a0 v7 v18 v22 v23 (0 : Int))
  else (f15 a0 v7 v18 v19 v20 (0 : Int)))))
  else none))))
noncomputable def fulcrumref01_Shift.L15 (k : Nat) (x0 : Dt41) (x6 : Int) (x7 : Dt41) (x8 : Int) (x9 : Int) (x10 : Int) : Option (Dt41 × Int × Unit) := heads (fulcrumref01_Shift.spec.env fulcrumref01_Shift.cals T Try.f92) (Func.pts Try.f92) k 15 (fulcrumref01_Shift.m15 x0 x6 x7 x8 x9 x10)
theorem fulcrumref01_Shift.L15_succ (k : Nat) (x0 : Dt41) (x6 : Int) (x7 : Dt41) (x8 : Int) (x9 : Int) (x10 : Int) : fulcrumref01_Shift.L15 (k + 1) x0 x6 x7 x8 x9 x10 = fulcrumref01_Shift.b15 (fulcrumref01_Shift.L15 k) x0 x6 x7 x8 x9 x10 := by kernel_rfl
theorem fulcrumref01_Shift.L15_zero (x0 : Dt41) (x6 : Int) (x7 : Dt41) (x8 : Int) (x9 : Int) (x10 : Int) : fulcrumref01_Shift.L15 0 x0 x6 x7 x8 x9 x10 = none := by kernel_rfl
theorem fulcrumref01_Shift.eval (k : Nat) (a0 : Dt41) (a1 : Int) : evalF fulcrumref01_Shift.spec fulcrumref01_Shift.cals T Try.f92 k (a0, a1, ()) = fulcrumref01_Shift.e (fulcrumref01_Shift.L15 k) a0 a1 := by kernel_rfl
theorem fulcrumref01_Shift.F_eq (a0 : Dt41) (a1 : Int) : fulcrumref01_Shift.F (a0, a1, ()) = limF fulcrumref01_Shift.spec fulcrumref01_Shift.cals T Try.f92 (a0, a1, ()) := by kernel_rfl
theorem fulcrumref01_Shift.of (k : Nat) (a0 : Dt41) (a1 : Int) {y : Dt41 × Int × Unit} (h : fulcrumref01_Shift.e (fulcrumref01_Shift.L15 k) a0 a1 = some y) : fulcrumref01_Shift.F (a0, a1, ()) = some y := (fulcrumref01_Shift.F_eq a0 a1).trans (limF_of (q := fulcrumref01_Shift.spec) (C := fulcrumref01_Shift.cals) (T := T) (f := Try.f92) (x := (a0, a1, ())) (y := y) k ((fulcrumref01_Shift.eval k a0 a1).trans h))

/-! ### fulcrum/fulcrumref01.Sub -/
def fulcrumref01_Sub.spec : Spec := ⟨[(false, Kt41), (false, Kt41)], [(false, Kt41), (false, (.int .i64))], .own, fun j => match j with | 6 => [(0, .lf (.z 115 (.int .u32) false)), (1, .lf (.z 115 (.int .u32) false)), (6, .lf (.o 115 (.int .u32) true)), (7, .lf (.v true)), (8, .lf (.v true))] | _ => []⟩
noncomputable def fulcrumref01_Sub.cals : Cals := (Cals.cons 90 fulcrumref01_Cmp.sig (Cals.cons 104 fulcrumref01_at.sig (Cals.cons 72 fulcrumref01_Norm.sig (Cals.base tabs))))
noncomputable def fulcrumref01_Sub.sig : Sig := fulcrumref01_Sub.spec.sig fulcrumref01_Sub.cals T Try.f93
noncomputable def fulcrumref01_Sub.F (x : Dt41 × Dt41 × Unit) : Option (Dt41 × Int × Unit) := limF fulcrumref01_Sub.spec fulcrumref01_Sub.cals T Try.f93 x
theorem fulcrumref01_Sub.ck : CalsOk Try.prog fulcrumref01_Sub.cals := (CalsOk.cons fulcrumref01_Cmp.cal (CalsOk.cons fulcrumref01_at.cal (CalsOk.cons fulcrumref01_Norm.cal (CalsOk.base tabsOk))))
theorem fulcrumref01_Sub.cal : CalOk Try.prog tabs 93 fulcrumref01_Sub.sig := calOk_lim' tabOk fulcrumref01_Sub.ck mix Try.func93 (by kernel_rfl) (by kernel_rfl) (by kernel_rfl) (by kernel_rfl)
def fulcrumref01_Sub.m6 (x0 : Dt41) (x1 : Dt41) (x6 : Dt41) (x7 : Int) (x8 : Int) : S := ⟨[(0, .one (.lf (.val false Kt41 x0))), (1, .one (.lf (.val false Kt41 x1))), (6, .one (.lf (.own 0))), (7, .one (.lf (.val true (.int .u64) x7))), (8, .one (.lf (.val true (.int .i64) x8)))], ⟨[some ⟨115, (.int .u32), true, true, x6⟩], []⟩⟩
noncomputable def fulcrumref01_Sub.b6 (f6 : Dt41 → Dt41 → Dt41 → Int → Int → Option (Dt41 × Int × Unit)) (x0 : Dt41) (x1 : Dt41) (x6 : Dt41) (x7 : Int) (x8 : Int) : Option (Dt41 × Int × Unit) :=
  let v1 := (List.length x0 : Int)
  let v2 := decide (x8 < v1)
  bif v2 then ((fulcrumref01_at.F (x0, x8, ())).bind fun y3 =>
  (fulcrumref01_at.F (x1, x8, ())).bind fun y4 =>
  let v5 := IntKind.u64.wrap (y3.1 - y4.1)
  let v6 := IntKind.u64.wrap (v5 - x7)
  let v7 := IntKind.u32.wrap v6
  bif decide (0 ≤ x8) && decide (x8 < (List.length x6 : Int)) then (let v8 := List.set x6 (Int.toNat x8) v7
  bif decide ((63 : Int) < 0) then none
  else (let v9 := shrI .u64 v6 (63 : Int)
  let v10 := IntKind.i64.wrap (x8 + (1 : Int))
  f6 x0 x1 v8 v9 v10))
  else none)
  else ((fulcrumref01_Norm.F (x6, ())).bind fun y11 =>
  some (y11.1, (0 : Int), ()))
noncomputable def fulcrumref01_Sub.e (f6 : Dt41 → Dt41 → Dt41 → Int → Int → Option (Dt41 × Int × Unit)) (a0 : Dt41) (a1 : Dt41) : Option (Dt41 × Int × Unit) :=
  (fulcrumref01_Cmp.F (a0, a1, ())).bind fun y1 =>
  let v2 := decide (y1.1 < (0 : Int))
  bif v2 then (some (zt41, (10 : Int), ()))
  else (let v3 := (List.length a0 : Int)
  bif decide (0 ≤ v3) && (decide (v3 ≤ v3) && (decide (Int.toNat v3 * 4 ≤ 281474976710656) && Nat.blt 0 4)) then (let v4 := List.replicate (Int.toNat v3) (0 : Int)
  f6 a0 a1 v4 (0 : Int) (0 : Int))
  else none)
noncomputable def fulcrumref01_Sub.L6 (k : Nat) (x0 : Dt41) (x1 : Dt41) (x6 : Dt41) (x7 : Int) (x8 : Int) : Option (Dt41 × Int × Unit) := heads (fulcrumref01_Sub.spec.env fulcrumref01_Sub.cals T Try.f93) (Func.pts Try.f93) k 6 (fulcrumref01_Sub.m6 x0 x1 x6 x7 x8)
theorem fulcrumref01_Sub.L6_succ (k : Nat) (x0 : Dt41) (x1 : Dt41) (x6 : Dt41) (x7 : Int) (x8 : Int) : fulcrumref01_Sub.L6 (k + 1) x0 x1 x6 x7 x8 = fulcrumref01_Sub.b6 (fulcrumref01_Sub.L6 k) x0 x1 x6 x7 x8 := by kernel_rfl
theorem fulcrumref01_Sub.L6_zero (x0 : Dt41) (x1 : Dt41) (x6 : Dt41) (x7 : Int) (x8 : Int) : fulcrumref01_Sub.L6 0 x0 x1 x6 x7 x8 = none := by kernel_rfl
theorem fulcrumref01_Sub.eval (k : Nat) (a0 : Dt41) (a1 : Dt41) : evalF fulcrumref01_Sub.spec fulcrumref01_Sub.cals T Try.f93 k (a0, a1, ()) = fulcrumref01_Sub.e (fulcrumref01_Sub.L6 k) a0 a1 := by kernel_rfl
theorem fulcrumref01_Sub.F_eq (a0 : Dt41) (a1 : Dt41) : fulcrumref01_Sub.F (a0, a1, ()) = limF fulcrumref01_Sub.spec fulcrumref01_Sub.cals T Try.f93 (a0, a1, ()) := by kernel_rfl
theorem fulcrumref01_Sub.of (k : Nat) (a0 : Dt41) (a1 : Dt41) {y : Dt41 × Int × Unit} (h : fulcrumref01_Sub.e (fulcrumref01_Sub.L6 k) a0 a1 = some y) : fulcrumref01_Sub.F (a0, a1, ()) = some y := (fulcrumref01_Sub.F_eq a0 a1).trans (limF_of (q := fulcrumref01_Sub.spec) (C := fulcrumref01_Sub.cals) (T := T) (f := Try.f93) (x := (a0, a1, ())) (y := y) k ((fulcrumref01_Sub.eval k a0 a1).trans h))

/-! ### fulcrum/fulcrumref01.twice -/
def fulcrumref01_twice.spec : Spec := ⟨[(false, Kt41), (false, .bool)], [(false, Kt41)], .own, fun j => match j with | 6 => [(0, .lf (.z 115 (.int .u32) false)), (5, .lf (.o 115 (.int .u32) true)), (6, .lf (.v true)), (7, .lf (.v true))] | _ => []⟩
noncomputable def fulcrumref01_twice.cals : Cals := (Cals.cons 72 fulcrumref01_Norm.sig (Cals.base tabs))
noncomputable def fulcrumref01_twice.sig : Sig := fulcrumref01_twice.spec.sig fulcrumref01_twice.cals T Try.f94
noncomputable def fulcrumref01_twice.F (x : Dt41 × Bool × Unit) : Option (Dt41 × Unit) := limF fulcrumref01_twice.spec fulcrumref01_twice.cals T Try.f94 x
theorem fulcrumref01_twice.ck : CalsOk Try.prog fulcrumref01_twice.cals := (CalsOk.cons fulcrumref01_Norm.cal (CalsOk.base tabsOk))
theorem fulcrumref01_twice.cal : CalOk Try.prog tabs 94 fulcrumref01_twice.sig := calOk_lim' tabOk fulcrumref01_twice.ck mix Try.func94 (by kernel_rfl) (by kernel_rfl) (by kernel_rfl) (by kernel_rfl)
def fulcrumref01_twice.m6 (x0 : Dt41) (x5 : Dt41) (x6 : Int) (x7 : Int) : S := ⟨[(0, .one (.lf (.val false Kt41 x0))), (5, .one (.lf (.own 0))), (6, .one (.lf (.val true (.int .u32) x6))), (7, .one (.lf (.val true (.int .i64) x7)))], ⟨[some ⟨115, (.int .u32), true, true, x5⟩], []⟩⟩
noncomputable def fulcrumref01_twice.b6 (f6 : Dt41 → Dt41 → Int → Int → Option (Dt41 × Unit)) (x0 : Dt41) (x5 : Dt41) (x6 : Int) (x7 : Int) : Option (Dt41 × Unit) :=
  let v1 := (List.length x0 : Int)
  let v2 := decide (x7 < v1)
  bif v2 then (bif decide (0 ≤ x7) && decide (x7 < (List.length x0 : Int)) then (let v3 := List.getD x0 (Int.toNat x7) (0 : Int)
  bif decide ((1 : Int) < 0) then none
  else (let v4 := shlI .u32 v3 (1 : Int)
  let v5 := bitsOp .or .u32 v4 x6
  bif decide (0 ≤ x7) && decide (x7 < (List.length x5 : Int)) then (let v6 := List.set x5 (Int.toNat x7) v5
  bif decide (0 ≤ x7) && decide (x7 < (List.length x0 : Int)) then (let v7 := List.getD x0 (Int.toNat x7) (0 : Int)
  bif decide ((31 : Int) < 0) then none
  else (let v8 := shrI .u32 v7 (31 : Int)
  let v9 := IntKind.i64.wrap (x7 + (1 : Int))
  f6 x0 v6 v8 v9))
  else none)
  else none))
  else none)
  else (let v10 := (List.length x0 : Int)
  bif decide (0 ≤ v10) && decide (v10 < (List.length x5 : Int)) then (let v11 := List.set x5 (Int.toNat v10) x6
  (fulcrumref01_Norm.F (v11, ())).bind fun y12 =>
  some (y12.1, ()))
  else none)
noncomputable def fulcrumref01_twice.e (f6 : Dt41 → Dt41 → Int → Int → Option (Dt41 × Unit)) (a0 : Dt41) (a1 : Bool) : Option (Dt41 × Unit) :=
  let v1 := (List.length a0 : Int)
  let v2 := IntKind.i64.wrap (v1 + (1 : Int))
  bif decide (0 ≤ v2) && (decide (v2 ≤ v2) && (decide (Int.toNat v2 * 4 ≤ 281474976710656) && Nat.blt 0 4)) then (let v3 := List.replicate (Int.toNat v2) (0 : Int)
  bif a1 then (f6 a0 v3 (1 : Int) (0 : Int))
  else (f6 a0 v3 (0 : Int) (0 : Int)))
  else none
noncomputable def fulcrumref01_twice.L6 (k : Nat) (x0 : Dt41) (x5 : Dt41) (x6 : Int) (x7 : Int) : Option (Dt41 × Unit) := heads (fulcrumref01_twice.spec.env fulcrumref01_twice.cals T Try.f94) (Func.pts Try.f94) k 6 (fulcrumref01_twice.m6 x0 x5 x6 x7)
theorem fulcrumref01_twice.L6_succ (k : Nat) (x0 : Dt41) (x5 : Dt41) (x6 : Int) (x7 : Int) : fulcrumref01_twice.L6 (k + 1) x0 x5 x6 x7 = fulcrumref01_twice.b6 (fulcrumref01_twice.L6 k) x0 x5 x6 x7 := by kernel_rfl
theorem fulcrumref01_twice.L6_zero (x0 : Dt41) (x5 : Dt41) (x6 : Int) (x7 : Int) : fulcrumref01_twice.L6 0 x0 x5 x6 x7 = none := by kernel_rfl
theorem fulcrumref01_twice.eval (k : Nat) (a0 : Dt41) (a1 : Bool) : evalF fulcrumref01_twice.spec fulcrumref01_twice.cals T Try.f94 k (a0, a1, ()) = fulcrumref01_twice.e (fulcrumref01_twice.L6 k) a0 a1 := by kernel_rfl
theorem fulcrumref01_twice.F_eq (a0 : Dt41) (a1 : Bool) : fulcrumref01_twice.F (a0, a1, ()) = limF fulcrumref01_twice.spec fulcrumref01_twice.cals T Try.f94 (a0, a1, ()) := by kernel_rfl
theorem fulcrumref01_twice.of (k : Nat) (a0 : Dt41) (a1 : Bool) {y : Dt41 × Unit} (h : fulcrumref01_twice.e (fulcrumref01_twice.L6 k) a0 a1 = some y) : fulcrumref01_twice.F (a0, a1, ()) = some y := (fulcrumref01_twice.F_eq a0 a1).trans (limF_of (q := fulcrumref01_twice.spec) (C := fulcrumref01_twice.cals) (T := T) (f := Try.f94) (x := (a0, a1, ())) (y := y) k ((fulcrumref01_twice.eval k a0 a1).trans h))

/-! ### fulcrum/fulcrumref01.Gcd -/
def fulcrumref01_Gcd.spec : Spec := ⟨[(false, Kt41), (false, Kt41)], [(false, Kt41)], .own, fun j => match j with | 11 => [(0, .lf (.o 115 (.int .u32) true)), (1, .lf (.o 115 (.int .u32) true)), (6, .lf (.v true))] | 15 => [(0, .lf (.o 115 (.int .u32) true)), (1, .lf (.o 115 (.int .u32) true)), (6, .lf (.v true))] | 16 => [(0, .lf (.o 115 (.int .u32) true)), (1, .lf (.o 115 (.int .u32) true)), (6, .lf (.v true))] | 18 => [(0, .lf (.o 115 (.int .u32) true)), (1, .lf (.o 115 (.int .u32) true)), (6, .lf (.v true))] | 24 => [(0, .lf (.o 115 (.int .u32) true)), (6, .lf (.v true)), (7, .lf (.v true))] | _ => []⟩
noncomputable def fulcrumref01_Gcd.cals : Cals := (Cals.cons 72 fulcrumref01_Norm.sig (Cals.cons 90 fulcrumref01_Cmp.sig (Cals.cons 91 fulcrumref01_Bit.sig (Cals.cons 92 fulcrumref01_Shift.sig (Cals.cons 93 fulcrumref01_Sub.sig (Cals.cons 94 fulcrumref01_twice.sig (Cals.base tabs)))))))
noncomputable def fulcrumref01_Gcd.sig : Sig := fulcrumref01_Gcd.spec.sig fulcrumref01_Gcd.cals T Try.f73
noncomputable def fulcrumref01_Gcd.F (x : Dt41 × Dt41 × Unit) : Option (Dt41 × Unit) := limF fulcrumref01_Gcd.spec fulcrumref01_Gcd.cals T Try.f73 x
theorem fulcrumref01_Gcd.ck : CalsOk Try.prog fulcrumref01_Gcd.cals := (CalsOk.cons fulcrumref01_Norm.cal (CalsOk.cons fulcrumref01_Cmp.cal (CalsOk.cons fulcrumref01_Bit.cal (CalsOk.cons fulcrumref01_Shift.cal (CalsOk.cons fulcrumref01_Sub.cal (CalsOk.cons fulcrumref01_twice.cal (CalsOk.base tabsOk)))))))
theorem fulcrumref01_Gcd.cal : CalOk Try.prog tabs 73 fulcrumref01_Gcd.sig := calOk_lim' tabOk fulcrumref01_Gcd.ck mix Try.func73 (by kernel_rfl) (by kernel_rfl) (by kernel_rfl) (by kernel_rfl)
def fulcrumref01_Gcd.m11 (x0 : Dt41) (x1 : Dt41) (x6 : Int) : S := ⟨[(0, .one (.lf (.own 0))), (1, .one (.lf (.own 1))), (6, .one (.lf (.val true (.int .i64) x6)))], ⟨[some ⟨115, (.int .u32), true, true, x0⟩, some ⟨115, (.int .u32), true, true, x1⟩], []⟩⟩
def fulcrumref01_Gcd.m15 (x0 : Dt41) (x1 : Dt41) (x6 : Int) : S := ⟨[(0, .one (.lf (.own 0))), (1, .one (.lf (.own 1))), (6, .one (.lf (.val true (.int .i64) x6)))], ⟨[some ⟨115, (.int .u32), true, true, x0⟩, some ⟨115, (.int .u32), true, true, x1⟩], []⟩⟩
def fulcrumref01_Gcd.m16 (x0 : Dt41) (x1 : Dt41) (x6 : Int) : S := ⟨[(0, .one (.lf (.own 0))), (1, .one (.lf (.own 1))), (6, .one (.lf (.val true (.int .i64) x6)))], ⟨[some ⟨115, (.int .u32), true, true, x0⟩, some ⟨115, (.int .u32), true, true, x1⟩], []⟩⟩
def fulcrumref01_Gcd.m18 (x0 : Dt41) (x1 : Dt41) (x6 : Int) : S := ⟨[(0, .one (.lf (.own 0))), (1, .one (.lf (.own 1))), (6, .one (.lf (.val true (.int .i64) x6)))], ⟨[some ⟨115, (.int .u32), true, true, x0⟩, some ⟨115, (.int .u32), true, true, x1⟩], []⟩⟩
def fulcrumref01_Gcd.m24 (x0 : Dt41) (x6 : Int) (x7 : Int) : S := ⟨[(0, .one (.lf (.own 0))), (6, .one (.lf (.val true (.int .i64) x6))), (7, .one (.lf (.val true (.int .i64) x7)))], ⟨[some ⟨115, (.int .u32), true, true, x0⟩], []⟩⟩
noncomputable def fulcrumref01_Gcd.b11 (f11 : Dt41 → Dt41 → Int → Option (Dt41 × Unit)) (f15 : Dt41 → Dt41 → Int → Option (Dt41 × Unit)) (f16 : Dt41 → Dt41 → Int → Option (Dt41 × Unit)) (f18 : Dt41 → Dt41 → Int → Option (Dt41 × Unit)) (f24 : Dt41 → Int → Int → Option (Dt41 × Unit)) (x0 : Dt41) (x1 : Dt41) (x6 : Int) : Option (Dt41 × Unit) :=
  (fulcrumref01_Bit.F (x0, (0 : Int), ())).bind fun y1 =>
  let v2 := not y1.1
  bif v2 then ((fulcrumref01_Bit.F (x1, (0 : Int), ())).bind fun y3 =>
  let v4 := not y3.1
  bif v4 then ((fulcrumref01_Shift.F (x0, (-1 : Int), ())).bind fun y5 =>
  (fulcrumref01_Shift.F (x1, (-1 : Int), ())).bind fun y6 =>
  let v7 := IntKind.i64.wrap (x6 + (1 : Int))
  f11 y5.1 y6.1 v7)
  else (f15 x0 x1 x6))
  else (f15 x0 x1 x6)
noncomputable def fulcrumref01_Gcd.b15 (f11 : Dt41 → Dt41 → Int → Option (Dt41 × Unit)) (f15 : Dt41 → Dt41 → Int → Option (Dt41 × Unit)) (f16 : Dt41 → Dt41 → Int → Option (Dt41 × Unit)) (f18 : Dt41 → Dt41 → Int → Option (Dt41 × Unit)) (f24 : Dt41 → Int → Int → Option (Dt41 × Unit)) (x0 : Dt41) (x1 : Dt41) (x6 : Int) : Option (Dt41 × Unit) :=
  let v1 := (List.length x1 : Int)
  let v2 := decide (v1 > (0 : Int))
  bif v2 then (f16 x0 x1 x6)
  else (f24 x0 x6 (0 : Int))
noncomputable def fulcrumref01_Gcd.b16 (f11 : Dt41 → Dt41 → Int → Option (Dt41 × Unit)) (f15 : Dt41 → Dt41 → Int → Option (Dt41 × Unit)) (f16 : Dt41 → Dt41 → Int → Option (Dt41 × Unit)) (f18 : Dt41 → Dt41 → Int → Option (Dt41 × Unit)) (f24 : Dt41 → Int → Int → Option (Dt41 × Unit)) (x0 : Dt41) (x1 : Dt41) (x6 : Int) : Option (Dt41 × Unit) :=
  (fulcrumref01_Bit.F (x0, (0 : Int), ())).bind fun y1 =>
  let v2 := not y1.1
  bif v2 then ((fulcrumref01_Shift.F (x0, (-1 : Int), ())).bind fun y3 =>
  f16 y3.1 x1 x6)
  else (f18 x0 x1 x6)
noncomputable def fulcrumref01_Gcd.b18 (f11 : Dt41 → Dt41 → Int → Option (Dt41 × Unit)) (f15 : Dt41 → Dt41 → Int → Option (Dt41 × Unit)) (f16 : Dt41 → Dt41 → Int → Option (Dt41 × Unit)) (f18 : Dt41 → Dt41 → Int → Option (Dt41 × Unit)) (f24 : Dt41 → Int → Int → Option (Dt41 × Unit)) (x0 : Dt41) (x1 : Dt41) (x6 : Int) : Option (Dt41 × Unit) :=
  (fulcrumref01_Bit.F (x1, (0 : Int), ())).bind fun y1 =>
  let v2 := not y1.1
  bif v2 then ((fulcrumref01_Shift.F (x1, (-1 : Int), ())).bind fun y3 =>
  f18 x0 y3.1 x6)
  else ((fulcrumref01_Cmp.F (x0, x1, ())).bind fun y4 =>
  let v5 := decide (y4.1 > (0 : Int))
  bif v5 then ((fulcrumref01_Sub.F (x0, x1, ())).bind fun y6 =>
  f15 x1 y6.1 x6)
  else ((fulcrumref01_Sub.F (x1, x0, ())).bind fun y7 =>
  f15 x0 y7.1 x6))
noncomputable def fulcrumref01_Gcd.b24 (f11 : Dt41 → Dt41 → Int → Option (Dt41 × Unit)) (f15 : Dt41 → Dt41 → Int → Option (Dt41 × Unit)) (f16 : Dt41 → Dt41 → Int → Option (Dt41 × Unit)) (f18 : Dt41 → Dt41 → Int → Option (Dt41 × Unit)) (f24 : Dt41 → Int → Int → Option (Dt41 × Unit)) (x0 : Dt41) (x6 : Int) (x7 : Int) : Option (Dt41 × Unit) :=
  let v1 := decide (x7 < x6)
  bif v1 then ((fulcrumref01_twice.F (x0, false, ())).bind fun y2 =>
  let v3 := IntKind.i64.wrap (x7 + (1 : Int))
  f24 y2.1 x6 v3)
  else (some (x0, ()))
noncomputable def fulcrumref01_Gcd.e (f11 : Dt41 → Dt41 → Int → Option (Dt41 × Unit)) (f15 : Dt41 → Dt41 → Int → Option (Dt41 × Unit)) (f16 : Dt41 → Dt41 → Int → Option (Dt41 × Unit)) (f18 : Dt41 → Dt41 → Int → Option (Dt41 × Unit)) (f24 : Dt41 → Int → Int → Option (Dt41 × Unit)) (a0 : Dt41) (a1 : Dt41) : Option (Dt41 × Unit) :=
  (fulcrumref01_Norm.F (a0, ())).bind fun y1 =>
  (fulcrumref01_Norm.F (a1, ())).bind fun y2 =>
  let v3 := (List.length y1.1 : Int)
  let v4 := (v3 == (0 : Int))
  bif v4 then (some (y2.1, ()))
  else (let v5 := (List.length y2.1 : Int)
  let v6 := (v5 == (0 : Int))
  bif v6 then (some (y1.1, ()))
  else (let v7 := ([(1 : Int)] : List Int)
  (fulcrumref01_Cmp.F (y1.1, v7, ())).bind fun y8 =>
  let v9 := (y8.1 == (0 : Int))
  bif v9 then (some (v7, ()))
  else ((fulcrumref01_Cmp.F (y2.1, v7, ())).bind fun y10 =>
  let v11 := (y10.1 == (0 : Int))
  bif v11 then (some (v7, ()))
  else (f11 y1.1 y2.1 (0 : Int)))))
noncomputable def fulcrumref01_Gcd.L11 (k : Nat) (x0 : Dt41) (x1 : Dt41) (x6 : Int) : Option (Dt41 × Unit) := heads (fulcrumref01_Gcd.spec.env fulcrumref01_Gcd.cals T Try.f73) (Func.pts Try.f73) k 11 (fulcrumref01_Gcd.m11 x0 x1 x6)
noncomputable def fulcrumref01_Gcd.L15 (k : Nat) (x0 : Dt41) (x1 : Dt41) (x6 : Int) : Option (Dt41 × Unit) := heads (fulcrumref01_Gcd.spec.env fulcrumref01_Gcd.cals T Try.f73) (Func.pts Try.f73) k 15 (fulcrumref01_Gcd.m15 x0 x1 x6)
noncomputable def fulcrumref01_Gcd.L16 (k : Nat) (x0 : Dt41) (x1 : Dt41) (x6 : Int) : Option (Dt41 × Unit) := heads (fulcrumref01_Gcd.spec.env fulcrumref01_Gcd.cals T Try.f73) (Func.pts Try.f73) k 16 (fulcrumref01_Gcd.m16 x0 x1 x6)
noncomputable def fulcrumref01_Gcd.L18 (k : Nat) (x0 : Dt41) (x1 : Dt41) (x6 : Int) : Option (Dt41 × Unit) := heads (fulcrumref01_Gcd.spec.env fulcrumref01_Gcd.cals T Try.f73) (Func.pts Try.f73) k 18 (fulcrumref01_Gcd.m18 x0 x1 x6)
noncomputable def fulcrumref01_Gcd.L24 (k : Nat) (x0 : Dt41) (x6 : Int) (x7 : Int) : Option (Dt41 × Unit) := heads (fulcrumref01_Gcd.spec.env fulcrumref01_Gcd.cals T Try.f73) (Func.pts Try.f73) k 24 (fulcrumref01_Gcd.m24 x0 x6 x7)
theorem fulcrumref01_Gcd.L11_succ (k : Nat) (x0 : Dt41) (x1 : Dt41) (x6 : Int) : fulcrumref01_Gcd.L11 (k + 1) x0 x1 x6 = fulcrumref01_Gcd.b11 (fulcrumref01_Gcd.L11 k) (fulcrumref01_Gcd.L15 k) (fulcrumref01_Gcd.L16 k) (fulcrumref01_Gcd.L18 k) (fulcrumref01_Gcd.L24 k) x0 x1 x6 := by kernel_rfl
theorem fulcrumref01_Gcd.L11_zero (x0 : Dt41) (x1 : Dt41) (x6 : Int) : fulcrumref01_Gcd.L11 0 x0 x1 x6 = none := by kernel_rfl
theorem fulcrumref01_Gcd.L15_succ (k : Nat) (x0 : Dt41) (x1 : Dt41) (x6 : Int) : fulcrumref01_Gcd.L15 (k + 1) x0 x1 x6 = fulcrumref01_Gcd.b15 (fulcrumref01_Gcd.L11 k) (fulcrumref01_Gcd.L15 k) (fulcrumref01_Gcd.L16 k) (fulcrumref01_Gcd.L18 k) (fulcrumref01_Gcd.L24 k) x0 x1 x6 := by kernel_rfl
theorem fulcrumref01_Gcd.L15_zero (x0 : Dt41) (x1 : Dt41) (x6 : Int) : fulcrumref01_Gcd.L15 0 x0 x1 x6 = none := by kernel_rfl
theorem fulcrumref01_Gcd.L16_succ (k : Nat) (x0 : Dt41) (x1 : Dt41) (x6 : Int) : fulcrumref01_Gcd.L16 (k + 1) x0 x1 x6 = fulcrumref01_Gcd.b16 (fulcrumref01_Gcd.L11 k) (fulcrumref01_Gcd.L15 k) (fulcrumref01_Gcd.L16 k) (fulcrumref01_Gcd.L18 k) (fulcrumref01_Gcd.L24 k) x0 x1 x6 := by kernel_rfl
theorem fulcrumref01_Gcd.L16_zero (x0 : Dt41) (x1 : Dt41) (x6 : Int) : fulcrumref01_Gcd.L16 0 x0 x1 x6 = none := by kernel_rfl
theorem fulcrumref01_Gcd.L18_succ (k : Nat) (x0 : Dt41) (x1 : Dt41) (x6 : Int) : fulcrumref01_Gcd.L18 (k + 1) x0 x1 x6 = fulcrumref01_Gcd.b18 (fulcrumref01_Gcd.L11 k) (fulcrumref01_Gcd.L15 k) (fulcrumref01_Gcd.L16 k) (fulcrumref01_Gcd.L18 k) (fulcrumref01_Gcd.L24 k) x0 x1 x6 := by kernel_rfl
theorem fulcrumref01_Gcd.L18_zero (x0 : Dt41) (x1 : Dt41) (x6 : Int) : fulcrumref01_Gcd.L18 0 x0 x1 x6 = none := by kernel_rfl
theorem fulcrumref01_Gcd.L24_succ (k : Nat) (x0 : Dt41) (x6 : Int) (x7 : Int) : fulcrumref01_Gcd.L24 (k + 1) x0 x6 x7 = fulcrumref01_Gcd.b24 (fulcrumref01_Gcd.L11 k) (fulcrumref01_Gcd.L15 k) (fulcrumref01_Gcd.L16 k) (fulcrumref01_Gcd.L18 k) (fulcrumref01_Gcd.L24 k) x0 x6 x7 := by kernel_rfl
theorem fulcrumref01_Gcd.L24_zero (x0 : Dt41) (x6 : Int) (x7 : Int) : fulcrumref01_Gcd.L24 0 x0 x6 x7 = none := by kernel_rfl
theorem fulcrumref01_Gcd.eval (k : Nat) (a0 : Dt41) (a1 : Dt41) : evalF fulcrumref01_Gcd.spec fulcrumref01_Gcd.cals T Try.f73 k (a0, a1, ()) = fulcrumref01_Gcd.e (fulcrumref01_Gcd.L11 k) (fulcrumref01_Gcd.L15 k) (fulcrumref01_Gcd.L16 k) (fulcrumref01_Gcd.L18 k) (fulcrumref01_Gcd.L24 k) a0 a1 := by kernel_rfl
theorem fulcrumref01_Gcd.F_eq (a0 : Dt41) (a1 : Dt41) : fulcrumref01_Gcd.F (a0, a1, ()) = limF fulcrumref01_Gcd.spec fulcrumref01_Gcd.cals T Try.f73 (a0, a1, ()) := by kernel_rfl
theorem fulcrumref01_Gcd.of (k : Nat) (a0 : Dt41) (a1 : Dt41) {y : Dt41 × Unit} (h : fulcrumref01_Gcd.e (fulcrumref01_Gcd.L11 k) (fulcrumref01_Gcd.L15 k) (fulcrumref01_Gcd.L16 k) (fulcrumref01_Gcd.L18 k) (fulcrumref01_Gcd.L24 k) a0 a1 = some y) : fulcrumref01_Gcd.F (a0, a1, ()) = some y := (fulcrumref01_Gcd.F_eq a0 a1).trans (limF_of (q := fulcrumref01_Gcd.spec) (C := fulcrumref01_Gcd.cals) (T := T) (f := Try.f73) (x := (a0, a1, ())) (y := y) k ((fulcrumref01_Gcd.eval k a0 a1).trans h))

/-! ### fulcrum/fulcrumref01.Div -/
def fulcrumref01_Div.spec : Spec := ⟨[(false, Kt41), (false, Kt41)], [(false, Kt41), (false, Kt41), (false, (.int .i64))], .own, fun j => match j with | 11 => [(0, .lf (.z 115 (.int .u32) true)), (1, .lf (.o 115 (.int .u32) true)), (7, .lf (.o 115 (.int .u32) true)), (9, .lf (.o 115 (.int .u32) true)), (10, .lf (.v true))] | _ => []⟩
noncomputable def fulcrumref01_Div.cals : Cals := (Cals.cons 72 fulcrumref01_Norm.sig (Cals.cons 91 fulcrumref01_Bit.sig (Cals.cons 94 fulcrumref01_twice.sig (Cals.cons 90 fulcrumref01_Cmp.sig (Cals.cons 93 fulcrumref01_Sub.sig (Cals.base tabs))))))
noncomputable def fulcrumref01_Div.sig : Sig := fulcrumref01_Div.spec.sig fulcrumref01_Div.cals T Try.f74
noncomputable def fulcrumref01_Div.F (x : Dt41 × Dt41 × Unit) : Option (Dt41 × Dt41 × Int × Unit) := limF fulcrumref01_Div.spec fulcrumref01_Div.cals T Try.f74 x
theorem fulcrumref01_Div.ck : CalsOk Try.prog fulcrumref01_Div.cals := (CalsOk.cons fulcrumref01_Norm.cal (CalsOk.cons fulcrumref01_Bit.cal (CalsOk.cons fulcrumref01_twice.cal (CalsOk.cons fulcrumref01_Cmp.cal (CalsOk.cons fulcrumref01_Sub.cal (CalsOk.base tabsOk))))))
theorem fulcrumref01_Div.cal : CalOk Try.prog tabs 74 fulcrumref01_Div.sig := calOk_lim' tabOk fulcrumref01_Div.ck mix Try.func74 (by kernel_rfl) (by kernel_rfl) (by kernel_rfl) (by kernel_rfl)
def fulcrumref01_Div.m11 (x0 : Dt41) (x1 : Dt41) (x7 : Dt41) (x9 : Dt41) (x10 : Int) : S := ⟨[(0, .one (.lf (.val true Kt41 x0))), (1, .one (.lf (.own 0))), (7, .one (.lf (.own 1))), (9, .one (.lf (.own 2))), (10, .one (.lf (.val true (.int .i64) x10)))], ⟨[some ⟨115, (.int .u32), true, true, x1⟩, some ⟨115, (.int .u32), true, true, x7⟩, some ⟨115, (.int .u32), true, true, x9⟩], []⟩⟩
noncomputable def fulcrumref01_Div.b11 (f11 : Dt41 → Dt41 → Dt41 → Dt41 → Int → Option (Dt41 × Dt41 × Int × Unit)) (x0 : Dt41) (x1 : Dt41) (x7 : Dt41) (x9 : Dt41) (x10 : Int) : Option (Dt41 × Dt41 × Int × Unit) :=
  let v1 := decide (x10 ≥ (0 : Int))
  bif v1 then ((fulcrumref01_Bit.F (x0, x10, ())).bind fun y2 =>
  (fulcrumref01_twice.F (x9, y2.1, ())).bind fun y3 =>
  (fulcrumref01_Cmp.F (y3.1, x1, ())).bind fun y4 =>
  let v5 := decide (y4.1 ≥ (0 : Int))
  bif v5 then ((fulcrumref01_Sub.F (y3.1, x1, ())).bind fun y6 =>
  bif decide ((32 : Int) = 0) then none
  else (let v7 := IntKind.i64.wrap (Int.tdiv x10 (32 : Int))
  bif decide (0 ≤ v7) && decide (v7 < (List.length x7 : Int)) then (let v8 := List.getD x7 (Int.toNat v7) (0 : Int)
  bif decide ((32 : Int) = 0) then none
  else (let v9 := Int.tmod x10 (32 : Int)
  let v10 := IntKind.u64.wrap v9
  bif decide (v10 < 0) then none
  else (let v11 := shlI .u32 (1 : Int) v10
  let v12 := bitsOp .or .u32 v8 v11
  bif decide (0 ≤ v7) && decide (v7 < (List.length x7 : Int)) then (let v13 := List.set x7 (Int.toNat v7) v12
  let v14 := IntKind.i64.wrap (x10 - (1 : Int))
  f11 x0 x1 v13 y6.1 v14)
  else none)))
  else none))
  else (let v15 := IntKind.i64.wrap (x10 - (1 : Int))
  f11 x0 x1 x7 y3.1 v15))
  else ((fulcrumref01_Norm.F (x7, ())).bind fun y16 =>
  some (y16.1, x9, (0 : Int), ()))
noncomputable def fulcrumref01_Div.e (f11 : Dt41 → Dt41 → Dt41 → Dt41 → Int → Option (Dt41 × Dt41 × Int × Unit)) (a0 : Dt41) (a1 : Dt41) : Option (Dt41 × Dt41 × Int × Unit) :=
  (fulcrumref01_Norm.F (a1, ())).bind fun y1 =>
  let v2 := (List.length y1.1 : Int)
  let v3 := (v2 == (0 : Int))
  bif v3 then (some (zt41, zt41, (11 : Int), ()))
  else ((fulcrumref01_Norm.F (a0, ())).bind fun y4 =>
  let v5 := (List.length y4.1 : Int)
  bif decide (0 ≤ v5) && (decide (v5 ≤ v5) && (decide (Int.toNat v5 * 4 ≤ 281474976710656) && Nat.blt 0 4)) then (let v6 := List.replicate (Int.toNat v5) (0 : Int)
  let v7 := (List.length y1.1 : Int)
  let v8 := IntKind.i64.wrap (v7 - (1 : Int))
  let v9 := (List.length y4.1 : Int)
  let v10 := decide (v8 > v9)
  bif v10 then (let v11 := (List.length y4.1 : Int)
  let v12 := (List.length y4.1 : Int)
  let v13 := IntKind.i64.wrap (v12 - v11)
  bif decide (0 ≤ v13) && decide (v13 ≤ (List.length y4.1 : Int)) then (let v14 := List.drop (Int.toNat v13) y4.1
  (fulcrumref01_Norm.F (v14, ())).bind fun y15 =>
  let v16 := (List.length y4.1 : Int)
  let v17 := IntKind.i64.wrap (v16 - v11)
  let v18 := IntKind.i64.wrap ((32 : Int) * v17)
  let v19 := IntKind.i64.wrap (v18 - (1 : Int))
  f11 y4.1 y1.1 v6 y15.1 v19)
  else none)
  else (let v20 := (List.length y4.1 : Int)
  let v21 := IntKind.i64.wrap (v20 - v8)
  bif decide (0 ≤ v21) && decide (v21 ≤ (List.length y4.1 : Int)) then (let v22 := List.drop (Int.toNat v21) y4.1
  (fulcrumref01_Norm.F (v22, ())).bind fun y23 =>
  let v24 := (List.length y4.1 : Int)
  let v25 := IntKind.i64.wrap (v24 - v8)
  let v26 := IntKind.i64.wrap ((32 : Int) * v25)
  let v27 := IntKind.i64.wrap (v26 - (1 : Int))
  f11 y4.1 y1.1 v6 y23.1 v27)
  else none))
  else none)
noncomputable def fulcrumref01_Div.L11 (k : Nat) (x0 : Dt41) (x1 : Dt41) (x7 : Dt41) (x9 : Dt41) (x10 : Int) : Option (Dt41 × Dt41 × Int × Unit) := heads (fulcrumref01_Div.spec.env fulcrumref01_Div.cals T Try.f74) (Func.pts Try.f74) k 11 (fulcrumref01_Div.m11 x0 x1 x7 x9 x10)
theorem fulcrumref01_Div.L11_succ (k : Nat) (x0 : Dt41) (x1 : Dt41) (x7 : Dt41) (x9 : Dt41) (x10 : Int) : fulcrumref01_Div.L11 (k + 1) x0 x1 x7 x9 x10 = fulcrumref01_Div.b11 (fulcrumref01_Div.L11 k) x0 x1 x7 x9 x10 := by kernel_rfl
theorem fulcrumref01_Div.L11_zero (x0 : Dt41) (x1 : Dt41) (x7 : Dt41) (x9 : Dt41) (x10 : Int) : fulcrumref01_Div.L11 0 x0 x1 x7 x9 x10 = none := by kernel_rfl
theorem fulcrumref01_Div.eval (k : Nat) (a0 : Dt41) (a1 : Dt41) : evalF fulcrumref01_Div.spec fulcrumref01_Div.cals T Try.f74 k (a0, a1, ()) = fulcrumref01_Div.e (fulcrumref01_Div.L11 k) a0 a1 := by kernel_rfl
theorem fulcrumref01_Div.F_eq (a0 : Dt41) (a1 : Dt41) : fulcrumref01_Div.F (a0, a1, ()) = limF fulcrumref01_Div.spec fulcrumref01_Div.cals T Try.f74 (a0, a1, ()) := by kernel_rfl
theorem fulcrumref01_Div.of (k : Nat) (a0 : Dt41) (a1 : Dt41) {y : Dt41 × Dt41 × Int × Unit} (h : fulcrumref01_Div.e (fulcrumref01_Div.L11 k) a0 a1 = some y) : fulcrumref01_Div.F (a0, a1, ()) = some y := (fulcrumref01_Div.F_eq a0 a1).trans (limF_of (q := fulcrumref01_Div.spec) (C := fulcrumref01_Div.cals) (T := T) (f := Try.f74) (x := (a0, a1, ())) (y := y) k ((fulcrumref01_Div.eval k a0 a1).trans h))

/-! ### fulcrum/fulcrumref03.Norm -/
def fulcrumref03_Norm.spec : Spec := ⟨[(true, Kt45)], [(true, Kt45)], .own, fun j => match j with  | _ => []⟩
noncomputable def fulcrumref03_Norm.cals : Cals := (Cals.cons 71 fulcrumref02_Norm.sig (Cals.cons 72 fulcrumref01_Norm.sig (Cals.cons 73 fulcrumref01_Gcd.sig (Cals.cons 74 fulcrumref01_Div.sig (Cals.base tabs)))))
noncomputable def fulcrumref03_Norm.sig : Sig := fulcrumref03_Norm.spec.sig fulcrumref03_Norm.cals T Try.f61
noncomputable def fulcrumref03_Norm.F (x : Dt45 × Unit) : Option (Dt45 × Unit) := limF fulcrumref03_Norm.spec fulcrumref03_Norm.cals T Try.f61 x
theorem fulcrumref03_Norm.ck : CalsOk Try.prog fulcrumref03_Norm.cals := (CalsOk.cons fulcrumref02_Norm.cal (CalsOk.cons fulcrumref01_Norm.cal (CalsOk.cons fulcrumref01_Gcd.cal (CalsOk.cons fulcrumref01_Div.cal (CalsOk.base tabsOk)))))
theorem fulcrumref03_Norm.cal : CalOk Try.prog tabs 61 fulcrumref03_Norm.sig := calOk_lim' tabOk fulcrumref03_Norm.ck mix Try.func61 (by kernel_rfl) (by kernel_rfl) (by kernel_rfl) (by kernel_rfl)
noncomputable def fulcrumref03_Norm.e  (a0 : Dt45) : Option (Dt45 × Unit) :=
  (fulcrumref02_Norm.F ((a0.1.1, a0.1.2), ())).bind fun y1 =>
  (fulcrumref01_Norm.F (a0.2, ())).bind fun y2 =>
  let v3 := (List.length y2.1 : Int)
  let v4 := (v3 == (0 : Int))
  bif v4 then (let v5 := ([(1 : Int)] : List Int)
  some ((zt43, v5), ()))
  else (let v6 := (List.length y1.1.2 : Int)
  let v7 := (v6 == (0 : Int))
  bif v7 then (let v8 := ([(1 : Int)] : List Int)
  some ((zt43, v8), ()))
  else ((fulcrumref01_Gcd.F (y1.1.2, y2.1, ())).bind fun y9 =>
  (fulcrumref01_Div.F (y1.1.2, y9.1, ())).bind fun y10 =>
  (fulcrumref01_Div.F (y2.1, y9.1, ())).bind fun y11 =>
  some (((y1.1.1, y10.1), y11.1), ())))
theorem fulcrumref03_Norm.eval (k : Nat) (a0 : Dt45) : evalF fulcrumref03_Norm.spec fulcrumref03_Norm.cals T Try.f61 k (a0, ()) = fulcrumref03_Norm.e  a0 := by kernel_rfl
theorem fulcrumref03_Norm.F_eq (a0 : Dt45) : fulcrumref03_Norm.F (a0, ()) = limF fulcrumref03_Norm.spec fulcrumref03_Norm.cals T Try.f61 (a0, ()) := by kernel_rfl
theorem fulcrumref03_Norm.of (k : Nat) (a0 : Dt45) {y : Dt45 × Unit} (h : fulcrumref03_Norm.e  a0 = some y) : fulcrumref03_Norm.F (a0, ()) = some y := (fulcrumref03_Norm.F_eq a0).trans (limF_of (q := fulcrumref03_Norm.spec) (C := fulcrumref03_Norm.cals) (T := T) (f := Try.f61) (x := (a0, ())) (y := y) k ((fulcrumref03_Norm.eval k a0).trans h))

/-! ### fulcrum/fulcrumref03.Sign -/
def fulcrumref03_Sign.spec : Spec := ⟨[(true, Kt45)], [(false, (.int .i64))], .own, fun j => match j with  | _ => []⟩
noncomputable def fulcrumref03_Sign.cals : Cals := (Cals.cons 61 fulcrumref03_Norm.sig (Cals.cons 60 fulcrumref02_Sign.sig (Cals.base tabs)))
noncomputable def fulcrumref03_Sign.sig : Sig := fulcrumref03_Sign.spec.sig fulcrumref03_Sign.cals T Try.f51
noncomputable def fulcrumref03_Sign.F (x : Dt45 × Unit) : Option (Int × Unit) := limF fulcrumref03_Sign.spec fulcrumref03_Sign.cals T Try.f51 x
theorem fulcrumref03_Sign.ck : CalsOk Try.prog fulcrumref03_Sign.cals := (CalsOk.cons fulcrumref03_Norm.cal (CalsOk.cons fulcrumref02_Sign.cal (CalsOk.base tabsOk)))
theorem fulcrumref03_Sign.cal : CalOk Try.prog tabs 51 fulcrumref03_Sign.sig := calOk_lim' tabOk fulcrumref03_Sign.ck mix Try.func51 (by kernel_rfl) (by kernel_rfl) (by kernel_rfl) (by kernel_rfl)
noncomputable def fulcrumref03_Sign.e  (a0 : Dt45) : Option (Int × Unit) :=
  (fulcrumref03_Norm.F (((a0.1.1, a0.1.2), a0.2), ())).bind fun y1 =>
  (fulcrumref02_Sign.F ((y1.1.1.1, y1.1.1.2), ())).bind fun y2 =>
  some (y2.1, ())
theorem fulcrumref03_Sign.eval (k : Nat) (a0 : Dt45) : evalF fulcrumref03_Sign.spec fulcrumref03_Sign.cals T Try.f51 k (a0, ()) = fulcrumref03_Sign.e  a0 := by kernel_rfl
theorem fulcrumref03_Sign.F_eq (a0 : Dt45) : fulcrumref03_Sign.F (a0, ()) = limF fulcrumref03_Sign.spec fulcrumref03_Sign.cals T Try.f51 (a0, ()) := by kernel_rfl
theorem fulcrumref03_Sign.of (k : Nat) (a0 : Dt45) {y : Int × Unit} (h : fulcrumref03_Sign.e  a0 = some y) : fulcrumref03_Sign.F (a0, ()) = some y := (fulcrumref03_Sign.F_eq a0).trans (limF_of (q := fulcrumref03_Sign.spec) (C := fulcrumref03_Sign.cals) (T := T) (f := Try.f51) (x := (a0, ())) (y := y) k ((fulcrumref03_Sign.eval k a0).trans h))

/-! ### fulcrum/fulcrumref05.Sign -/
def fulcrumref05_Sign.spec : Spec := ⟨[(true, Kt47)], [(false, (.int .i64))], .own, fun j => match j with  | _ => []⟩
noncomputable def fulcrumref05_Sign.cals : Cals := (Cals.cons 51 fulcrumref03_Sign.sig (Cals.base tabs))
noncomputable def fulcrumref05_Sign.sig : Sig := fulcrumref05_Sign.spec.sig fulcrumref05_Sign.cals T Try.f34
noncomputable def fulcrumref05_Sign.F (x : Dt47 × Unit) : Option (Int × Unit) := limF fulcrumref05_Sign.spec fulcrumref05_Sign.cals T Try.f34 x
theorem fulcrumref05_Sign.ck : CalsOk Try.prog fulcrumref05_Sign.cals := (CalsOk.cons fulcrumref03_Sign.cal (CalsOk.base tabsOk))
theorem fulcrumref05_Sign.cal : CalOk Try.prog tabs 34 fulcrumref05_Sign.sig := calOk_lim' tabOk fulcrumref05_Sign.ck mix Try.func34 (by kernel_rfl) (by kernel_rfl) (by kernel_rfl) (by kernel_rfl)
noncomputable def fulcrumref05_Sign.e  (a0 : Dt47) : Option (Int × Unit) :=
  (fulcrumref03_Sign.F (((a0.1.1.1, a0.1.1.2), a0.1.2), ())).bind fun y1 =>
  let v2 := (y1.1 != (0 : Int))
  bif v2 then (some (y1.1, ()))
  else ((fulcrumref03_Sign.F (((a0.2.1.1, a0.2.1.2), a0.2.2), ())).bind fun y3 =>
  some (y3.1, ()))
theorem fulcrumref05_Sign.eval (k : Nat) (a0 : Dt47) : evalF fulcrumref05_Sign.spec fulcrumref05_Sign.cals T Try.f34 k (a0, ()) = fulcrumref05_Sign.e  a0 := by kernel_rfl
theorem fulcrumref05_Sign.F_eq (a0 : Dt47) : fulcrumref05_Sign.F (a0, ()) = limF fulcrumref05_Sign.spec fulcrumref05_Sign.cals T Try.f34 (a0, ()) := by kernel_rfl
theorem fulcrumref05_Sign.of (k : Nat) (a0 : Dt47) {y : Int × Unit} (h : fulcrumref05_Sign.e  a0 = some y) : fulcrumref05_Sign.F (a0, ()) = some y := (fulcrumref05_Sign.F_eq a0).trans (limF_of (q := fulcrumref05_Sign.spec) (C := fulcrumref05_Sign.cals) (T := T) (f := Try.f34) (x := (a0, ())) (y := y) k ((fulcrumref05_Sign.eval k a0).trans h))

/-! ### fulcrum/fulcrumref01.Add -/
def fulcrumref01_Add.spec : Spec := ⟨[(false, Kt41), (false, Kt41)], [(false, Kt41)], .own, fun j => match j with | 7 => [(0, .lf (.z 115 (.int .u32) false)), (1, .lf (.z 115 (.int .u32) false)), (5, .lf (.v true)), (6, .lf (.o 115 (.int .u32) true)), (7, .lf (.v true)), (8, .lf (.v true))] | _ => []⟩
noncomputable def fulcrumref01_Add.cals : Cals := (Cals.cons 104 fulcrumref01_at.sig (Cals.cons 72 fulcrumref01_Norm.sig (Cals.base tabs)))
noncomputable def fulcrumref01_Add.sig : Sig := fulcrumref01_Add.spec.sig fulcrumref01_Add.cals T Try.f95
noncomputable def fulcrumref01_Add.F (x : Dt41 × Dt41 × Unit) : Option (Dt41 × Unit) := limF fulcrumref01_Add.spec fulcrumref01_Add.cals T Try.f95 x
theorem fulcrumref01_Add.ck : CalsOk Try.prog fulcrumref01_Add.cals := (CalsOk.cons fulcrumref01_at.cal (CalsOk.cons fulcrumref01_Norm.cal (CalsOk.base tabsOk)))
theorem fulcrumref01_Add.cal : CalOk Try.prog tabs 95 fulcrumref01_Add.sig := calOk_lim' tabOk fulcrumref01_Add.ck mix Try.func95 (by kernel_rfl) (by kernel_rfl) (by kernel_rfl) (by kernel_rfl)
def fulcrumref01_Add.m7 (x0 : Dt41) (x1 : Dt41) (x5 : Int) (x6 : Dt41) (x7 : Int) (x8 : Int) : S := ⟨[(0, .one (.lf (.val false Kt41 x0))), (1, .one (.lf (.val false Kt41 x1))), (5, .one (.lf (.val true (.int .i64) x5))), (6, .one (.lf (.own 0))), (7, .one (.lf (.val true (.int .u64) x7))), (8, .one (.lf (.val true (.int .i64) x8)))], ⟨[some ⟨115, (.int .u32), true, true, x6⟩], []⟩⟩
noncomputable def fulcrumref01_Add.b7 (f7 : Dt41 → Dt41 → Int → Dt41 → Int → Int → Option (Dt41 × Unit)) (x0 : Dt41) (x1 : Dt41) (x5 : Int) (x6 : Dt41) (x7 : Int) (x8 : Int) : Option (Dt41 × Unit) :=
  let v1 := decide (x8 ≤ x5)
  bif v1 then ((fulcrumref01_at.F (x0, x8, ())).bind fun y2 =>
  (fulcrumref01_at.F (x1, x8, ())).bind fun y3 =>
  let v4 := IntKind.u64.wrap (y2.1 + y3.1)
  let v5 := IntKind.u64.wrap (v4 + x7)
  let v6 := IntKind.u32.wrap v5
  bif decide (0 ≤ x8) && decide (x8 < (List.length x6 : Int)) then (let v7 := List.set x6 (Int.toNat x8) v6
  bif decide ((32 : Int) < 0) then none
  else (let v8 := shrI .u64 v5 (32 : Int)
  let v9 := IntKind.i64.wrap (x8 + (1 : Int))
  f7 x0 x1 x5 v7 v8 v9))
  else none)
  else ((fulcrumref01_Norm.F (x6, ())).bind fun y10 =>
  some (y10.1, ()))
noncomputable def fulcrumref01_Add.e (f7 : Dt41 → Dt41 → Int → Dt41 → Int → Int → Option (Dt41 × Unit)) (a0 : Dt41) (a1 : Dt41) : Option (Dt41 × Unit) :=
  let v1 := (List.length a0 : Int)
  let v2 := (List.length a1 : Int)
  let v3 := decide (v2 > v1)
  bif v3 then (let v4 := (List.length a1 : Int)
  let v5 := IntKind.i64.wrap (v4 + (1 : Int))
  bif decide (0 ≤ v5) && (decide (v5 ≤ v5) && (decide (Int.toNat v5 * 4 ≤ 281474976710656) && Nat.blt 0 4)) then (let v6 := List.replicate (Int.toNat v5) (0 : Int)
  f7 a0 a1 v4 v6 (0 : Int) (0 : Int))
  else none)
  else (let v7 := IntKind.i64.wrap (v1 + (1 : Int))
  bif decide (0 ≤ v7) && (decide (v7 ≤ v7) && (decide (Int.toNat v7 * 4 ≤ 281474976710656) && Nat.blt 0 4)) then (let v8 := List.replicate (Int.toNat v7) (0 : Int)
  f7 a0 a1 v1 v8 (0 : Int) (0 : Int))
  else none)
noncomputable def fulcrumref01_Add.L7 (k : Nat) (x0 : Dt41) (x1 : Dt41) (x5 : Int) (x6 : Dt41) (x7 : Int) (x8 : Int) : Option (Dt41 × Unit) := heads (fulcrumref01_Add.spec.env fulcrumref01_Add.cals T Try.f95) (Func.pts Try.f95) k 7 (fulcrumref01_Add.m7 x0 x1 x5 x6 x7 x8)
theorem fulcrumref01_Add.L7_succ (k : Nat) (x0 : Dt41) (x1 : Dt41) (x5 : Int) (x6 : Dt41) (x7 : Int) (x8 : Int) : fulcrumref01_Add.L7 (k + 1) x0 x1 x5 x6 x7 x8 = fulcrumref01_Add.b7 (fulcrumref01_Add.L7 k) x0 x1 x5 x6 x7 x8 := by kernel_rfl
theorem fulcrumref01_Add.L7_zero (x0 : Dt41) (x1 : Dt41) (x5 : Int) (x6 : Dt41) (x7 : Int) (x8 : Int) : fulcrumref01_Add.L7 0 x0 x1 x5 x6 x7 x8 = none := by kernel_rfl
theorem fulcrumref01_Add.eval (k : Nat) (a0 : Dt41) (a1 : Dt41) : evalF fulcrumref01_Add.spec fulcrumref01_Add.cals T Try.f95 k (a0, a1, ()) = fulcrumref01_Add.e (fulcrumref01_Add.L7 k) a0 a1 := by kernel_rfl
theorem fulcrumref01_Add.F_eq (a0 : Dt41) (a1 : Dt41) : fulcrumref01_Add.F (a0, a1, ()) = limF fulcrumref01_Add.spec fulcrumref01_Add.cals T Try.f95 (a0, a1, ()) := by kernel_rfl
theorem fulcrumref01_Add.of (k : Nat) (a0 : Dt41) (a1 : Dt41) {y : Dt41 × Unit} (h : fulcrumref01_Add.e (fulcrumref01_Add.L7 k) a0 a1 = some y) : fulcrumref01_Add.F (a0, a1, ()) = some y := (fulcrumref01_Add.F_eq a0 a1).trans (limF_of (q := fulcrumref01_Add.spec) (C := fulcrumref01_Add.cals) (T := T) (f := Try.f95) (x := (a0, a1, ())) (y := y) k ((fulcrumref01_Add.eval k a0 a1).trans h))

/-! ### fulcrum/fulcrumref02.Add -/
def fulcrumref02_Add.spec : Spec := ⟨[(true, Kt43), (true, Kt43)], [(true, Kt43)], .own, fun j => match j with  | _ => []⟩
noncomputable def fulcrumref02_Add.cals : Cals := (Cals.cons 95 fulcrumref01_Add.sig (Cals.cons 89 fulcrumref02_made.sig (Cals.cons 90 fulcrumref01_Cmp.sig (Cals.cons 93 fulcrumref01_Sub.sig (Cals.base tabs)))))
noncomputable def fulcrumref02_Add.sig : Sig := fulcrumref02_Add.spec.sig fulcrumref02_Add.cals T Try.f75
noncomputable def fulcrumref02_Add.F (x : Dt43 × Dt43 × Unit) : Option (Dt43 × Unit) := limF fulcrumref02_Add.spec fulcrumref02_Add.cals T Try.f75 x
theorem fulcrumref02_Add.ck : CalsOk Try.prog fulcrumref02_Add.cals := (CalsOk.cons fulcrumref01_Add.cal (CalsOk.cons fulcrumref02_made.cal (CalsOk.cons fulcrumref01_Cmp.cal (CalsOk.cons fulcrumref01_Sub.cal (CalsOk.base tabsOk)))))
theorem fulcrumref02_Add.cal : CalOk Try.prog tabs 75 fulcrumref02_Add.sig := calOk_lim' tabOk fulcrumref02_Add.ck mix Try.func75 (by kernel_rfl) (by kernel_rfl) (by kernel_rfl) (by kernel_rfl)
noncomputable def fulcrumref02_Add.e  (a0 : Dt43) (a1 : Dt43) : Option (Dt43 × Unit) :=
  let v1 := (a0.1 == a1.1)
  bif v1 then ((fulcrumref01_Add.F (a0.2, a1.2, ())).bind fun y2 =>
  (fulcrumref02_made.F (a0.1, y2.1, ())).bind fun y3 =>
  some ((y3.1.1, y3.1.2), ()))
  else ((fulcrumref01_Cmp.F (a0.2, a1.2, ())).bind fun y4 =>
  let v5 := decide (y4.1 ≥ (0 : Int))
  bif v5 then ((fulcrumref01_Sub.F (a0.2, a1.2, ())).bind fun y6 =>
  (fulcrumref02_made.F (a0.1, y6.1, ())).bind fun y7 =>
  some ((y7.1.1, y7.1.2), ()))
  else ((fulcrumref01_Sub.F (a1.2, a0.2, ())).bind fun y8 =>
  (fulcrumref02_made.F (a1.1, y8.1, ())).bind fun y9 =>
  some ((y9.1.1, y9.1.2), ())))
theorem fulcrumref02_Add.eval (k : Nat) (a0 : Dt43) (a1 : Dt43) : evalF fulcrumref02_Add.spec fulcrumref02_Add.cals T Try.f75 k (a0, a1, ()) = fulcrumref02_Add.e  a0 a1 := by kernel_rfl
theorem fulcrumref02_Add.F_eq (a0 : Dt43) (a1 : Dt43) : fulcrumref02_Add.F (a0, a1, ()) = limF fulcrumref02_Add.spec fulcrumref02_Add.cals T Try.f75 (a0, a1, ()) := by kernel_rfl
theorem fulcrumref02_Add.of (k : Nat) (a0 : Dt43) (a1 : Dt43) {y : Dt43 × Unit} (h : fulcrumref02_Add.e  a0 a1 = some y) : fulcrumref02_Add.F (a0, a1, ()) = some y := (fulcrumref02_Add.F_eq a0 a1).trans (limF_of (q := fulcrumref02_Add.spec) (C := fulcrumref02_Add.cals) (T := T) (f := Try.f75) (x := (a0, a1, ())) (y := y) k ((fulcrumref02_Add.eval k a0 a1).trans h))

/-! ### fulcrum/fulcrumref01.Mul -/
def fulcrumref01_Mul.spec : Spec := ⟨[(false, Kt41), (false, Kt41)], [(false, Kt41)], .own, fun j => match j with | 3 => [(0, .lf (.z 115 (.int .u32) false)), (1, .lf (.z 115 (.int .u32) false)), (5, .lf (.o 115 (.int .u32) true)), (6, .lf (.v true))] | 7 => [(0, .lf (.z 115 (.int .u32) false)), (1, .lf (.z 115 (.int .u32) false)), (5, .lf (.o 115 (.int .u32) true)), (6, .lf (.v true)), (7, .lf (.v true)), (8, .lf (.v true))] | _ => []⟩
noncomputable def fulcrumref01_Mul.cals : Cals := (Cals.cons 72 fulcrumref01_Norm.sig (Cals.base tabs))
noncomputable def fulcrumref01_Mul.sig : Sig := fulcrumref01_Mul.spec.sig fulcrumref01_Mul.cals T Try.f78
noncomputable def fulcrumref01_Mul.F (x : Dt41 × Dt41 × Unit) : Option (Dt41 × Unit) := limF fulcrumref01_Mul.spec fulcrumref01_Mul.cals T Try.f78 x
theorem fulcrumref01_Mul.ck : CalsOk Try.prog fulcrumref01_Mul.cals := (CalsOk.cons fulcrumref01_Norm.cal (CalsOk.base tabsOk))
theorem fulcrumref01_Mul.cal : CalOk Try.prog tabs 78 fulcrumref01_Mul.sig := calOk_lim' tabOk fulcrumref01_Mul.ck mix Try.func78 (by kernel_rfl) (by kernel_rfl) (by kernel_rfl) (by kernel_rfl)
def fulcrumref01_Mul.m3 (x0 : Dt41) (x1 : Dt41) (x5 : Dt41) (x6 : Int) : S := ⟨[(0, .one (.lf (.val false Kt41 x0))), (1, .one (.lf (.val false Kt41 x1))), (5, .one (.lf (.own 0))), (6, .one (.lf (.val true (.int .i64) x6)))], ⟨[some ⟨115, (.int .u32), true, true, x5⟩], []⟩⟩
def fulcrumref01_Mul.m7 (x0 : Dt41) (x1 : Dt41) (x5 : Dt41) (x6 : Int) (x7 : Int) (x8 : Int) : S := ⟨[(0, .one (.lf (.val false Kt41 x0))), (1, .one (.lf (.val false Kt41 x1))), (5, .one (.lf (.own 0))), (6, .one (.lf (.val true (.int .i64) x6))), (7, .one (.lf (.val true (.int .u64) x7))), (8, .one (.lf (.val true (.int .i64) x8)))], ⟨[some ⟨115, (.int .u32), true, true, x5⟩], []⟩⟩
noncomputable def fulcrumref01_Mul.b3 (f3 : Dt41 → Dt41 → Dt41 → Int → Option (Dt41 × Unit)) (f7 : Dt41 → Dt41 → Dt41 → Int → Int → Int → Option (Dt41 × Unit)) (x0 : Dt41) (x1 : Dt41) (x5 : Dt41) (x6 : Int) : Option (Dt41 × Unit) :=
  let v1 := (List.length x0 : Int)
  let v2 := decide (x6 < v1)
  bif v2 then (f7 x0 x1 x5 x6 (0 : Int) (0 : Int))
  else ((fulcrumref01_Norm.F (x5, ())).bind fun y3 =>
  some (y3.1, ()))
noncomputable def fulcrumref01_Mul.b7 (f3 : Dt41 → Dt41 → Dt41 → Int → Option (Dt41 × Unit)) (f7 : Dt41 → Dt41 → Dt41 → Int → Int → Int → Option (Dt41 × Unit)) (x0 : Dt41) (x1 : Dt41) (x5 : Dt41) (x6 : Int) (x7 : Int) (x8 : Int) : Option (Dt41 × Unit) :=
  let v1 := (List.length x1 : Int)
  let v2 := decide (x8 < v1)
  bif v2 then (bif decide (0 ≤ x6) && decide (x6 < (List.length x0 : Int)) then (let v3 := List.getD x0 (Int.toNat x6) (0 : Int)
  let v4 := IntKind.u64.wrap v3
  bif decide (0 ≤ x8) && decide (x8 < (List.length x1 : Int)) then (let v5 := List.getD x1 (Int.toNat x8) (0 : Int)
  let v6 := IntKind.u64.wrap v5
  let v7 := IntKind.u64.wrap (v4 * v6)
  let v8 := IntKind.i64.wrap (x6 + x8)
  bif decide (0 ≤ v8) && decide (v8 < (List.length x5 : Int)) then (let v9 := List.getD x5 (Int.toNat v8) (0 : Int)
  let v10 := IntKind.u64.wrap v9
  let v11 := IntKind.u64.wrap (v7 + v10)
  let v12 := IntKind.u64.wrap (v11 + x7)
  let v13 := IntKind.i64.wrap (x6 + x8)
  let v14 := IntKind.u32.wrap v12
  bif decide (0 ≤ v13) && decide (v13 < (List.length x5 : Int)) then (let v15 := List.set x5 (Int.toNat v13) v14
  bif decide ((32 : Int) < 0) then none
  else (let v16 := shrI .u64 v12 (32 : Int)
  let v17 := IntKind.i64.wrap (x8 + (1 : Int))
  f7 x0 x1 v15 x6 v16 v17))
  else none)
  else none)
  else none)
  else none)
  else (let v18 := (List.length x1 : Int)
  let v19 := IntKind.i64.wrap (x6 + v18)
  let v20 := IntKind.u32.wrap x7
  bif decide (0 ≤ v19) && decide (v19 < (List.length x5 : Int)) then (let v21 := List.set x5 (Int.toNat v19) v20
  let v22 := IntKind.i64.wrap (x6 + (1 : Int))
  f3 x0 x1 v21 v22)
  else none)
noncomputable def fulcrumref01_Mul.e (f3 : Dt41 → Dt41 → Dt41 → Int → Option (Dt41 × Unit)) (f7 : Dt41 → Dt41 → Dt41 → Int → Int → Int → Option (Dt41 × Unit)) (a0 : Dt41) (a1 : Dt41) : Option (Dt41 × Unit) :=
  let v1 := (List.length a0 : Int)
  let v2 := (List.length a1 : Int)
  let v3 := IntKind.i64.wrap (v1 + v2)
  bif decide (0 ≤ v3) && (decide (v3 ≤ v3) && (decide (Int.toNat v3 * 4 ≤ 281474976710656) && Nat.blt 0 4)) then (let v4 := List.replicate (Int.toNat v3) (0 : Int)
  f3 a0 a1 v4 (0 : Int))
  else none
noncomputable def fulcrumref01_Mul.L3 (k : Nat) (x0 : Dt41) (x1 : Dt41) (x5 : Dt41) (x6 : Int) : Option (Dt41 × Unit) := heads (fulcrumref01_Mul.spec.env fulcrumref01_Mul.cals T Try.f78) (Func.pts Try.f78) k 3 (fulcrumref01_Mul.m3 x0 x1 x5 x6)
noncomputable def fulcrumref01_Mul.L7 (k : Nat) (x0 : Dt41) (x1 : Dt41) (x5 : Dt41) (x6 : Int) (x7 : Int) (x8 : Int) : Option (Dt41 × Unit) := heads (fulcrumref01_Mul.spec.env fulcrumref01_Mul.cals T Try.f78) (Func.pts Try.f78) k 7 (fulcrumref01_Mul.m7 x0 x1 x5 x6 x7 x8)
theorem fulcrumref01_Mul.L3_succ (k : Nat) (x0 : Dt41) (x1 : Dt41) (x5 : Dt41) (x6 : Int) : fulcrumref01_Mul.L3 (k + 1) x0 x1 x5 x6 = fulcrumref01_Mul.b3 (fulcrumref01_Mul.L3 k) (fulcrumref01_Mul.L7 k) x0 x1 x5 x6 := by kernel_rfl
theorem fulcrumref01_Mul.L3_zero (x0 : Dt41) (x1 : Dt41) (x5 : Dt41) (x6 : Int) : fulcrumref01_Mul.L3 0 x0 x1 x5 x6 = none := by kernel_rfl
theorem fulcrumref01_Mul.L7_succ (k : Nat) (x0 : Dt41) (x1 : Dt41) (x5 : Dt41) (x6 : Int) (x7 : Int) (x8 : Int) : fulcrumref01_Mul.L7 (k + 1) x0 x1 x5 x6 x7 x8 = fulcrumref01_Mul.b7 (fulcrumref01_Mul.L3 k) (fulcrumref01_Mul.L7 k) x0 x1 x5 x6 x7 x8 := by kernel_rfl
theorem fulcrumref01_Mul.L7_zero (x0 : Dt41) (x1 : Dt41) (x5 : Dt41) (x6 : Int) (x7 : Int) (x8 : Int) : fulcrumref01_Mul.L7 0 x0 x1 x5 x6 x7 x8 = none := by kernel_rfl
theorem fulcrumref01_Mul.eval (k : Nat) (a0 : Dt41) (a1 : Dt41) : evalF fulcrumref01_Mul.spec fulcrumref01_Mul.cals T Try.f78 k (a0, a1, ()) = fulcrumref01_Mul.e (fulcrumref01_Mul.L3 k) (fulcrumref01_Mul.L7 k) a0 a1 := by kernel_rfl
theorem fulcrumref01_Mul.F_eq (a0 : Dt41) (a1 : Dt41) : fulcrumref01_Mul.F (a0, a1, ()) = limF fulcrumref01_Mul.spec fulcrumref01_Mul.cals T Try.f78 (a0, a1, ()) := by kernel_rfl
theorem fulcrumref01_Mul.of (k : Nat) (a0 : Dt41) (a1 : Dt41) {y : Dt41 × Unit} (h : fulcrumref01_Mul.e (fulcrumref01_Mul.L3 k) (fulcrumref01_Mul.L7 k) a0 a1 = some y) : fulcrumref01_Mul.F (a0, a1, ()) = some y := (fulcrumref01_Mul.F_eq a0 a1).trans (limF_of (q := fulcrumref01_Mul.spec) (C := fulcrumref01_Mul.cals) (T := T) (f := Try.f78) (x := (a0, a1, ())) (y := y) k ((fulcrumref01_Mul.eval k a0 a1).trans h))

/-! ### fulcrum/fulcrumref02.Mul -/
def fulcrumref02_Mul.spec : Spec := ⟨[(true, Kt43), (true, Kt43)], [(true, Kt43)], .own, fun j => match j with  | _ => []⟩
noncomputable def fulcrumref02_Mul.cals : Cals := (Cals.cons 78 fulcrumref01_Mul.sig (Cals.cons 89 fulcrumref02_made.sig (Cals.base tabs)))
noncomputable def fulcrumref02_Mul.sig : Sig := fulcrumref02_Mul.spec.sig fulcrumref02_Mul.cals T Try.f76
noncomputable def fulcrumref02_Mul.F (x : Dt43 × Dt43 × Unit) : Option (Dt43 × Unit) := limF fulcrumref02_Mul.spec fulcrumref02_Mul.cals T Try.f76 x
theorem fulcrumref02_Mul.ck : CalsOk Try.prog fulcrumref02_Mul.cals := (CalsOk.cons fulcrumref01_Mul.cal (CalsOk.cons fulcrumref02_made.cal (CalsOk.base tabsOk)))
theorem fulcrumref02_Mul.cal : CalOk Try.prog tabs 76 fulcrumref02_Mul.sig := calOk_lim' tabOk fulcrumref02_Mul.ck mix Try.func76 (by kernel_rfl) (by kernel_rfl) (by kernel_rfl) (by kernel_rfl)
noncomputable def fulcrumref02_Mul.e  (a0 : Dt43) (a1 : Dt43) : Option (Dt43 × Unit) :=
  let v1 := (!(a0.1 == a1.1))
  (fulcrumref01_Mul.F (a0.2, a1.2, ())).bind fun y2 =>
  (fulcrumref02_made.F (v1, y2.1, ())).bind fun y3 =>
  some ((y3.1.1, y3.1.2), ())
theorem fulcrumref02_Mul.eval (k : Nat) (a0 : Dt43) (a1 : Dt43) : evalF fulcrumref02_Mul.spec fulcrumref02_Mul.cals T Try.f76 k (a0, a1, ()) = fulcrumref02_Mul.e  a0 a1 := by kernel_rfl
theorem fulcrumref02_Mul.F_eq (a0 : Dt43) (a1 : Dt43) : fulcrumref02_Mul.F (a0, a1, ()) = limF fulcrumref02_Mul.spec fulcrumref02_Mul.cals T Try.f76 (a0, a1, ()) := by kernel_rfl
theorem fulcrumref02_Mul.of (k : Nat) (a0 : Dt43) (a1 : Dt43) {y : Dt43 × Unit} (h : fulcrumref02_Mul.e  a0 a1 = some y) : fulcrumref02_Mul.F (a0, a1, ()) = some y := (fulcrumref02_Mul.F_eq a0 a1).trans (limF_of (q := fulcrumref02_Mul.spec) (C := fulcrumref02_Mul.cals) (T := T) (f := Try.f76) (x := (a0, a1, ())) (y := y) k ((fulcrumref02_Mul.eval k a0 a1).trans h))

/-! ### fulcrum/fulcrumref03.positive -/
def fulcrumref03_positive.spec : Spec := ⟨[(false, Kt41)], [(true, Kt43)], .shared, fun j => match j with  | _ => []⟩
noncomputable def fulcrumref03_positive.cals : Cals := (Cals.base tabs)
noncomputable def fulcrumref03_positive.sig : Sig := fulcrumref03_positive.spec.sig fulcrumref03_positive.cals T Try.f77
noncomputable def fulcrumref03_positive.F (x : Dt41 × Unit) : Option (Dt43 × Unit) := limF fulcrumref03_positive.spec fulcrumref03_positive.cals T Try.f77 x
theorem fulcrumref03_positive.ck : CalsOk Try.prog fulcrumref03_positive.cals := (CalsOk.base tabsOk)
theorem fulcrumref03_positive.cal : CalOk Try.prog tabs 77 fulcrumref03_positive.sig := calOk_lim' tabOk fulcrumref03_positive.ck mix Try.func77 (by kernel_rfl) (by kernel_rfl) (by kernel_rfl) (by kernel_rfl)
noncomputable def fulcrumref03_positive.e  (a0 : Dt41) : Option (Dt43 × Unit) :=
  some ((false, a0), ())
theorem fulcrumref03_positive.eval (k : Nat) (a0 : Dt41) : evalF fulcrumref03_positive.spec fulcrumref03_positive.cals T Try.f77 k (a0, ()) = fulcrumref03_positive.e  a0 := by kernel_rfl
theorem fulcrumref03_positive.F_eq (a0 : Dt41) : fulcrumref03_positive.F (a0, ()) = limF fulcrumref03_positive.spec fulcrumref03_positive.cals T Try.f77 (a0, ()) := by kernel_rfl
theorem fulcrumref03_positive.of (k : Nat) (a0 : Dt41) {y : Dt43 × Unit} (h : fulcrumref03_positive.e  a0 = some y) : fulcrumref03_positive.F (a0, ()) = some y := (fulcrumref03_positive.F_eq a0).trans (limF_of (q := fulcrumref03_positive.spec) (C := fulcrumref03_positive.cals) (T := T) (f := Try.f77) (x := (a0, ())) (y := y) k ((fulcrumref03_positive.eval k a0).trans h))

/-! ### fulcrum/fulcrumref03.Add -/
def fulcrumref03_Add.spec : Spec := ⟨[(true, Kt45), (true, Kt45)], [(true, Kt45)], .own, fun j => match j with  | _ => []⟩
noncomputable def fulcrumref03_Add.cals : Cals := (Cals.cons 61 fulcrumref03_Norm.sig (Cals.cons 77 fulcrumref03_positive.sig (Cals.cons 76 fulcrumref02_Mul.sig (Cals.cons 75 fulcrumref02_Add.sig (Cals.cons 78 fulcrumref01_Mul.sig (Cals.base tabs))))))
noncomputable def fulcrumref03_Add.sig : Sig := fulcrumref03_Add.spec.sig fulcrumref03_Add.cals T Try.f62
noncomputable def fulcrumref03_Add.F (x : Dt45 × Dt45 × Unit) : Option (Dt45 × Unit) := limF fulcrumref03_Add.spec fulcrumref03_Add.cals T Try.f62 x
theorem fulcrumref03_Add.ck : CalsOk Try.prog fulcrumref03_Add.cals := (CalsOk.cons fulcrumref03_Norm.cal (CalsOk.cons fulcrumref03_positive.cal (CalsOk.cons fulcrumref02_Mul.cal (CalsOk.cons fulcrumref02_Add.cal (CalsOk.cons fulcrumref01_Mul.cal (CalsOk.base tabsOk))))))
theorem fulcrumref03_Add.cal : CalOk Try.prog tabs 62 fulcrumref03_Add.sig := calOk_lim' tabOk fulcrumref03_Add.ck mix Try.func62 (by kernel_rfl) (by kernel_rfl) (by kernel_rfl) (by kernel_rfl)
noncomputable def fulcrumref03_Add.e  (a0 : Dt45) (a1 : Dt45) : Option (Dt45 × Unit) :=
  (fulcrumref03_Norm.F (((a0.1.1, a0.1.2), a0.2), ())).bind fun y1 =>
  (fulcrumref03_Norm.F (((a1.1.1, a1.1.2), a1.2), ())).bind fun y2 =>
  (fulcrumref03_positive.F (y2.1.2, ())).bind fun y3 =>
  (fulcrumref02_Mul.F ((y1.1.1.1, y1.1.1.2), (y3.1.1, y3.1.2), ())).bind fun y4 =>
  (fulcrumref03_positive.F (y1.1.2, ())).bind fun y5 =>
  (fulcrumref02_Mul.F ((y2.1.1.1, y2.1.1.2), (y5.1.1, y5.1.2), ())).bind fun y6 =>
  (fulcrumref02_Add.F ((y4.1.1, y4.1.2), (y6.1.1, y6.1.2), ())).bind fun y7 =>
  (fulcrumref01_Mul.F (y1.1.2, y2.1.2, ())).bind fun y8 =>
  (fulcrumref03_Norm.F (((y7.1.1, y7.1.2), y8.1), ())).bind fun y9 =>
  some (((y9.1.1.1, y9.1.1.2), y9.1.2), ())
theorem fulcrumref03_Add.eval (k : Nat) (a0 : Dt45) (a1 : Dt45) : evalF fulcrumref03_Add.spec fulcrumref03_Add.cals T Try.f62 k (a0, a1, ()) = fulcrumref03_Add.e  a0 a1 := by kernel_rfl
theorem fulcrumref03_Add.F_eq (a0 : Dt45) (a1 : Dt45) : fulcrumref03_Add.F (a0, a1, ()) = limF fulcrumref03_Add.spec fulcrumref03_Add.cals T Try.f62 (a0, a1, ()) := by kernel_rfl
theorem fulcrumref03_Add.of (k : Nat) (a0 : Dt45) (a1 : Dt45) {y : Dt45 × Unit} (h : fulcrumref03_Add.e  a0 a1 = some y) : fulcrumref03_Add.F (a0, a1, ()) = some y := (fulcrumref03_Add.F_eq a0 a1).trans (limF_of (q := fulcrumref03_Add.spec) (C := fulcrumref03_Add.cals) (T := T) (f := Try.f62) (x := (a0, a1, ())) (y := y) k ((fulcrumref03_Add.eval k a0 a1).trans h))

/-! ### fulcrum/fulcrumref02.Neg -/
def fulcrumref02_Neg.spec : Spec := ⟨[(true, Kt43)], [(true, Kt43)], .own, fun j => match j with  | _ => []⟩
noncomputable def fulcrumref02_Neg.cals : Cals := (Cals.cons 89 fulcrumref02_made.sig (Cals.base tabs))
noncomputable def fulcrumref02_Neg.sig : Sig := fulcrumref02_Neg.spec.sig fulcrumref02_Neg.cals T Try.f79
noncomputable def fulcrumref02_Neg.F (x : Dt43 × Unit) : Option (Dt43 × Unit) := limF fulcrumref02_Neg.spec fulcrumref02_Neg.cals T Try.f79 x
theorem fulcrumref02_Neg.ck : CalsOk Try.prog fulcrumref02_Neg.cals := (CalsOk.cons fulcrumref02_made.cal (CalsOk.base tabsOk))
theorem fulcrumref02_Neg.cal : CalOk Try.prog tabs 79 fulcrumref02_Neg.sig := calOk_lim' tabOk fulcrumref02_Neg.ck mix Try.func79 (by kernel_rfl) (by kernel_rfl) (by kernel_rfl) (by kernel_rfl)
noncomputable def fulcrumref02_Neg.e  (a0 : Dt43) : Option (Dt43 × Unit) :=
  let v1 := not a0.1
  (fulcrumref02_made.F (v1, a0.2, ())).bind fun y2 =>
  some ((y2.1.1, y2.1.2), ())
theorem fulcrumref02_Neg.eval (k : Nat) (a0 : Dt43) : evalF fulcrumref02_Neg.spec fulcrumref02_Neg.cals T Try.f79 k (a0, ()) = fulcrumref02_Neg.e  a0 := by kernel_rfl
theorem fulcrumref02_Neg.F_eq (a0 : Dt43) : fulcrumref02_Neg.F (a0, ()) = limF fulcrumref02_Neg.spec fulcrumref02_Neg.cals T Try.f79 (a0, ()) := by kernel_rfl
theorem fulcrumref02_Neg.of (k : Nat) (a0 : Dt43) {y : Dt43 × Unit} (h : fulcrumref02_Neg.e  a0 = some y) : fulcrumref02_Neg.F (a0, ()) = some y := (fulcrumref02_Neg.F_eq a0).trans (limF_of (q := fulcrumref02_Neg.spec) (C := fulcrumref02_Neg.cals) (T := T) (f := Try.f79) (x := (a0, ())) (y := y) k ((fulcrumref02_Neg.eval k a0).trans h))

/-! ### fulcrum/fulcrumref03.Neg -/
def fulcrumref03_Neg.spec : Spec := ⟨[(true, Kt45)], [(true, Kt45)], .own, fun j => match j with  | _ => []⟩
noncomputable def fulcrumref03_Neg.cals : Cals := (Cals.cons 61 fulcrumref03_Norm.sig (Cals.cons 79 fulcrumref02_Neg.sig (Cals.base tabs)))
noncomputable def fulcrumref03_Neg.sig : Sig := fulcrumref03_Neg.spec.sig fulcrumref03_Neg.cals T Try.f63
noncomputable def fulcrumref03_Neg.F (x : Dt45 × Unit) : Option (Dt45 × Unit) := limF fulcrumref03_Neg.spec fulcrumref03_Neg.cals T Try.f63 x
theorem fulcrumref03_Neg.ck : CalsOk Try.prog fulcrumref03_Neg.cals := (CalsOk.cons fulcrumref03_Norm.cal (CalsOk.cons fulcrumref02_Neg.cal (CalsOk.base tabsOk)))
theorem fulcrumref03_Neg.cal : CalOk Try.prog tabs 63 fulcrumref03_Neg.sig := calOk_lim' tabOk fulcrumref03_Neg.ck mix Try.func63 (by kernel_rfl) (by kernel_rfl) (by kernel_rfl) (by kernel_rfl)
noncomputable def fulcrumref03_Neg.e  (a0 : Dt45) : Option (Dt45 × Unit) :=
  (fulcrumref03_Norm.F (((a0.1.1, a0.1.2), a0.2), ())).bind fun y1 =>
  (fulcrumref02_Neg.F ((y1.1.1.1, y1.1.1.2), ())).bind fun y2 =>
  (fulcrumref03_Norm.F (((y2.1.1, y2.1.2), y1.1.2), ())).bind fun y3 =>
  some (((y3.1.1.1, y3.1.1.2), y3.1.2), ())
theorem fulcrumref03_Neg.eval (k : Nat) (a0 : Dt45) : evalF fulcrumref03_Neg.spec fulcrumref03_Neg.cals T Try.f63 k (a0, ()) = fulcrumref03_Neg.e  a0 := by kernel_rfl
theorem fulcrumref03_Neg.F_eq (a0 : Dt45) : fulcrumref03_Neg.F (a0, ()) = limF fulcrumref03_Neg.spec fulcrumref03_Neg.cals T Try.f63 (a0, ()) := by kernel_rfl
theorem fulcrumref03_Neg.of (k : Nat) (a0 : Dt45) {y : Dt45 × Unit} (h : fulcrumref03_Neg.e  a0 = some y) : fulcrumref03_Neg.F (a0, ()) = some y := (fulcrumref03_Neg.F_eq a0).trans (limF_of (q := fulcrumref03_Neg.spec) (C := fulcrumref03_Neg.cals) (T := T) (f := Try.f63) (x := (a0, ())) (y := y) k ((fulcrumref03_Neg.eval k a0).trans h))

/-! ### fulcrum/fulcrumref03.Sub -/
def fulcrumref03_Sub.spec : Spec := ⟨[(true, Kt45), (true, Kt45)], [(true, Kt45)], .own, fun j => match j with  | _ => []⟩
noncomputable def fulcrumref03_Sub.cals : Cals := (Cals.cons 63 fulcrumref03_Neg.sig (Cals.cons 62 fulcrumref03_Add.sig (Cals.base tabs)))
noncomputable def fulcrumref03_Sub.sig : Sig := fulcrumref03_Sub.spec.sig fulcrumref03_Sub.cals T Try.f52
noncomputable def fulcrumref03_Sub.F (x : Dt45 × Dt45 × Unit) : Option (Dt45 × Unit) := limF fulcrumref03_Sub.spec fulcrumref03_Sub.cals T Try.f52 x
theorem fulcrumref03_Sub.ck : CalsOk Try.prog fulcrumref03_Sub.cals := (CalsOk.cons fulcrumref03_Neg.cal (CalsOk.cons fulcrumref03_Add.cal (CalsOk.base tabsOk)))
theorem fulcrumref03_Sub.cal : CalOk Try.prog tabs 52 fulcrumref03_Sub.sig := calOk_lim' tabOk fulcrumref03_Sub.ck mix Try.func52 (by kernel_rfl) (by kernel_rfl) (by kernel_rfl) (by kernel_rfl)
noncomputable def fulcrumref03_Sub.e  (a0 : Dt45) (a1 : Dt45) : Option (Dt45 × Unit) :=
  (fulcrumref03_Neg.F (((a1.1.1, a1.1.2), a1.2), ())).bind fun y1 =>
  (fulcrumref03_Add.F (((a0.1.1, a0.1.2), a0.2), ((y1.1.1.1, y1.1.1.2), y1.1.2), ())).bind fun y2 =>
  some (((y2.1.1.1, y2.1.1.2), y2.1.2), ())
theorem fulcrumref03_Sub.eval (k : Nat) (a0 : Dt45) (a1 : Dt45) : evalF fulcrumref03_Sub.spec fulcrumref03_Sub.cals T Try.f52 k (a0, a1, ()) = fulcrumref03_Sub.e  a0 a1 := by kernel_rfl
theorem fulcrumref03_Sub.F_eq (a0 : Dt45) (a1 : Dt45) : fulcrumref03_Sub.F (a0, a1, ()) = limF fulcrumref03_Sub.spec fulcrumref03_Sub.cals T Try.f52 (a0, a1, ()) := by kernel_rfl
theorem fulcrumref03_Sub.of (k : Nat) (a0 : Dt45) (a1 : Dt45) {y : Dt45 × Unit} (h : fulcrumref03_Sub.e  a0 a1 = some y) : fulcrumref03_Sub.F (a0, a1, ()) = some y := (fulcrumref03_Sub.F_eq a0 a1).trans (limF_of (q := fulcrumref03_Sub.spec) (C := fulcrumref03_Sub.cals) (T := T) (f := Try.f52) (x := (a0, a1, ())) (y := y) k ((fulcrumref03_Sub.eval k a0 a1).trans h))

/-! ### fulcrum/fulcrumref05.Sub -/
def fulcrumref05_Sub.spec : Spec := ⟨[(true, Kt47), (true, Kt47)], [(true, Kt47)], .own, fun j => match j with  | _ => []⟩
noncomputable def fulcrumref05_Sub.cals : Cals := (Cals.cons 52 fulcrumref03_Sub.sig (Cals.base tabs))
noncomputable def fulcrumref05_Sub.sig : Sig := fulcrumref05_Sub.spec.sig fulcrumref05_Sub.cals T Try.f35
noncomputable def fulcrumref05_Sub.F (x : Dt47 × Dt47 × Unit) : Option (Dt47 × Unit) := limF fulcrumref05_Sub.spec fulcrumref05_Sub.cals T Try.f35 x
theorem fulcrumref05_Sub.ck : CalsOk Try.prog fulcrumref05_Sub.cals := (CalsOk.cons fulcrumref03_Sub.cal (CalsOk.base tabsOk))
theorem fulcrumref05_Sub.cal : CalOk Try.prog tabs 35 fulcrumref05_Sub.sig := calOk_lim' tabOk fulcrumref05_Sub.ck mix Try.func35 (by kernel_rfl) (by kernel_rfl) (by kernel_rfl) (by kernel_rfl)
noncomputable def fulcrumref05_Sub.e  (a0 : Dt47) (a1 : Dt47) : Option (Dt47 × Unit) :=
  (fulcrumref03_Sub.F (((a0.1.1.1, a0.1.1.2), a0.1.2), ((a1.1.1.1, a1.1.1.2), a1.1.2), ())).bind fun y1 =>
  (fulcrumref03_Sub.F (((a0.2.1.1, a0.2.1.2), a0.2.2), ((a1.2.1.1, a1.2.1.2), a1.2.2), ())).bind fun y2 =>
  some ((((y1.1.1.1, y1.1.1.2), y1.1.2), ((y2.1.1.1, y2.1.1.2), y2.1.2)), ())
theorem fulcrumref05_Sub.eval (k : Nat) (a0 : Dt47) (a1 : Dt47) : evalF fulcrumref05_Sub.spec fulcrumref05_Sub.cals T Try.f35 k (a0, a1, ()) = fulcrumref05_Sub.e  a0 a1 := by kernel_rfl
theorem fulcrumref05_Sub.F_eq (a0 : Dt47) (a1 : Dt47) : fulcrumref05_Sub.F (a0, a1, ()) = limF fulcrumref05_Sub.spec fulcrumref05_Sub.cals T Try.f35 (a0, a1, ()) := by kernel_rfl
theorem fulcrumref05_Sub.of (k : Nat) (a0 : Dt47) (a1 : Dt47) {y : Dt47 × Unit} (h : fulcrumref05_Sub.e  a0 a1 = some y) : fulcrumref05_Sub.F (a0, a1, ()) = some y := (fulcrumref05_Sub.F_eq a0 a1).trans (limF_of (q := fulcrumref05_Sub.spec) (C := fulcrumref05_Sub.cals) (T := T) (f := Try.f35) (x := (a0, a1, ())) (y := y) k ((fulcrumref05_Sub.eval k a0 a1).trans h))

/-! ### fulcrum/fulcrumref05.Cmp -/
def fulcrumref05_Cmp.spec : Spec := ⟨[(true, Kt47), (true, Kt47)], [(false, (.int .i64))], .own, fun j => match j with  | _ => []⟩
noncomputable def fulcrumref05_Cmp.cals : Cals := (Cals.cons 35 fulcrumref05_Sub.sig (Cals.cons 34 fulcrumref05_Sign.sig (Cals.base tabs)))
noncomputable def fulcrumref05_Cmp.sig : Sig := fulcrumref05_Cmp.spec.sig fulcrumref05_Cmp.cals T Try.f17
noncomputable def fulcrumref05_Cmp.F (x : Dt47 × Dt47 × Unit) : Option (Int × Unit) := limF fulcrumref05_Cmp.spec fulcrumref05_Cmp.cals T Try.f17 x
theorem fulcrumref05_Cmp.ck : CalsOk Try.prog fulcrumref05_Cmp.cals := (CalsOk.cons fulcrumref05_Sub.cal (CalsOk.cons fulcrumref05_Sign.cal (CalsOk.base tabsOk)))
theorem fulcrumref05_Cmp.cal : CalOk Try.prog tabs 17 fulcrumref05_Cmp.sig := calOk_lim' tabOk fulcrumref05_Cmp.ck mix Try.func17 (by kernel_rfl) (by kernel_rfl) (by kernel_rfl) (by kernel_rfl)
noncomputable def fulcrumref05_Cmp.e  (a0 : Dt47) (a1 : Dt47) : Option (Int × Unit) :=
  (fulcrumref05_Sub.F ((((a0.1.1.1, a0.1.1.2), a0.1.2), ((a0.2.1.1, a0.2.1.2), a0.2.2)), (((a1.1.1.1, a1.1.1.2), a1.1.2), ((a1.2.1.1, a1.2.1.2), a1.2.2)), ())).bind fun y1 =>
  (fulcrumref05_Sign.F ((((y1.1.1.1.1, y1.1.1.1.2), y1.1.1.2), ((y1.1.2.1.1, y1.1.2.1.2), y1.1.2.2)), ())).bind fun y2 =>
  some (y2.1, ())
theorem fulcrumref05_Cmp.eval (k : Nat) (a0 : Dt47) (a1 : Dt47) : evalF fulcrumref05_Cmp.spec fulcrumref05_Cmp.cals T Try.f17 k (a0, a1, ()) = fulcrumref05_Cmp.e  a0 a1 := by kernel_rfl
theorem fulcrumref05_Cmp.F_eq (a0 : Dt47) (a1 : Dt47) : fulcrumref05_Cmp.F (a0, a1, ()) = limF fulcrumref05_Cmp.spec fulcrumref05_Cmp.cals T Try.f17 (a0, a1, ()) := by kernel_rfl
theorem fulcrumref05_Cmp.of (k : Nat) (a0 : Dt47) (a1 : Dt47) {y : Int × Unit} (h : fulcrumref05_Cmp.e  a0 a1 = some y) : fulcrumref05_Cmp.F (a0, a1, ()) = some y := (fulcrumref05_Cmp.F_eq a0 a1).trans (limF_of (q := fulcrumref05_Cmp.spec) (C := fulcrumref05_Cmp.cals) (T := T) (f := Try.f17) (x := (a0, a1, ())) (y := y) k ((fulcrumref05_Cmp.eval k a0 a1).trans h))

/-! ### fulcrum/fulcrumlaw08.BoundsAnyOrder -/
def fulcrumlaw08_BoundsAnyOrder.spec : Spec := ⟨[(false, (.int .i64)), (false, Kt38)], [(false, .bool)], .shared, fun j => match j with | 9 => [(0, .lf (.v true)), (1, .lf (.z 50 Kt50 true)), (5, .box 75 [.v true, .o 97 Kt97 true, .v true, .o 55 Kt55 true]), (7, .box 75 [.v true, .o 97 Kt97 true, .v true, .o 55 Kt55 true]), (9, .lf (.v true)), (10, .lf (.v true))] | 19 => [(0, .lf (.v true)), (1, .lf (.z 50 Kt50 true)), (5, .box 75 [.v true, .o 97 Kt97 true, .v true, .o 55 Kt55 true]), (14, .lf (.z 55 Kt55 true)), (15, .lf (.z 55 Kt55 true)), (16, .lf (.v true))] | 27 => [(0, .lf (.v true)), (1, .lf (.z 50 Kt50 true)), (5, .box 75 [.v true, .o 97 Kt97 true, .v true, .o 55 Kt55 true]), (14, .lf (.z 55 Kt55 true)), (15, .lf (.z 55 Kt55 true)), (16, .lf (.v true)), (17, .box 55 [.v true, .v true, .z 115 (.int .u32) true, .z 115 (.int .u32) true, .v true, .z 115 (.int .u32) true, .z 115 (.int .u32) true, .v true, .v true, .v true, .z 115 (.int .u32) true, .z 115 (.int .u32) true, .v true, .z 115 (.int .u32) true, .z 115 (.int .u32) true, .v true]), (19, .lf (.v true)), (104, .lf (.v true)), (107, .lf (.v true)), (108, .lf (.v true)), (121, .agg [.v true, .z 115 (.int .u32) true, .z 115 (.int .u32) true, .v true, .z 115 (.int .u32) true, .z 115 (.int .u32) true]), (124, .agg [.v true, .z 115 (.int .u32) true, .z 115 (.int .u32) true, .v true, .z 115 (.int .u32) true, .z 115 (.int .u32) true]), (125, .lf (.v true)), (126, .lf (.v true))] | _ => []⟩
noncomputable def fulcrumlaw08_BoundsAnyOrder.cals : Cals := (Cals.consX 8 false bounds_New.sig (Cals.consX 14 false fulcrumlaw08_assert.sig (Cals.consX 15 false fulcrumlaw08_limits.sig (Cals.consX 12 false bounds_Store_Vars.sig (Cals.cons 16 fulcrummem_SameDelta.sig (Cals.cons 17 fulcrumref05_Cmp.sig (Cals.base tabs)))))))
noncomputable def fulcrumlaw08_BoundsAnyOrder.sig : Sig := fulcrumlaw08_BoundsAnyOrder.spec.sig fulcrumlaw08_BoundsAnyOrder.cals T Try.f4
noncomputable def fulcrumlaw08_BoundsAnyOrder.F (x : Int × Dt38 × Unit) : Option (Bool × Unit) := limF fulcrumlaw08_BoundsAnyOrder.spec fulcrumlaw08_BoundsAnyOrder.cals T Try.f4 x
theorem fulcrumlaw08_BoundsAnyOrder.ck : CalsOk Try.prog fulcrumlaw08_BoundsAnyOrder.cals := (CalsOk.consX bounds_New.cal (CalsOk.consX fulcrumlaw08_assert.cal (CalsOk.consX fulcrumlaw08_limits.cal (CalsOk.consX bounds_Store_Vars.cal (CalsOk.cons fulcrummem_SameDelta.cal (CalsOk.cons fulcrumref05_Cmp.cal (CalsOk.base tabsOk)))))))
theorem fulcrumlaw08_BoundsAnyOrder.cal : CalOk Try.prog tabs 4 fulcrumlaw08_BoundsAnyOrder.sig := calOk_lim' tabOk fulcrumlaw08_BoundsAnyOrder.ck mix Try.func4 (by kernel_rfl) (by kernel_rfl) (by kernel_rfl) (by kernel_rfl)
def fulcrumlaw08_BoundsAnyOrder.m9 (x0 : Int) (x1 : Dt38) (x5_0 : Int) (x5_1 : Dt27) (x5_2 : Bool) (x5_3 : Dt26) (x7_0 : Int) (x7_1 : Dt27) (x7_2 : Bool) (x7_3 : Dt26) (x9 : Bool) (x10 : Int) : S := ⟨[(0, .one (.lf (.val true (.int .i64) x0))), (1, .one (.lf (.val true Kt38 x1))), (5, .box 0 0), (7, .box 1 0), (9, .one (.lf (.val true .bool x9))), (10, .one (.lf (.val true (.int .i64) x10)))], ⟨[some ⟨97, Kt97, true, true, x5_1⟩, some ⟨55, Kt55, true, true, x5_3⟩, some ⟨97, Kt97, true, true, x7_1⟩, some ⟨55, Kt55, true, true, x7_3⟩], [some ⟨75, [.val true (.int .i64) x5_0, .own 0, .val true .bool x5_2, .own 1]⟩, some ⟨75, [.val true (.int .i64) x7_0, .own 2, .val true .bool x7_2, .own 3]⟩]⟩⟩
def fulcrumlaw08_BoundsAnyOrder.m19 (x0 : Int) (x1 : Dt38) (x5_0 : Int) (x5_1 : Dt27) (x5_2 : Bool) (x5_3 : Dt26) (x14 : Dt26) (x15 : Dt26) (x16 : Int) : S := ⟨[(0, .one (.lf (.val true (.int .i64) x0))), (1, .one (.lf (.val true Kt38 x1))), (5, .box 0 0), (14, .one (.lf (.val true Kt26 x14))), (15, .one (.lf (.val true Kt26 x15))), (16, .one (.lf (.val true (.int .i64) x16)))], ⟨[some ⟨97, Kt97, true, true, x5_1⟩, some ⟨55, Kt55, true, true, x5_3⟩], [some ⟨75, [.val true (.int .i64) x5_0, .own 0, .val true .bool x5_2, .own 1]⟩]⟩⟩
def fulcrumlaw08_BoundsAnyOrder.m27 (x0 : Int) (x1 : Dt38) (x5_0 : Int) (x5_1 : Dt27) (x5_2 : Bool) (x5_3 : Dt26) (x14 : Dt26) (x15 : Dt26) (x16 : Int) (x17_0 : Bool) (x17_1 : Bool) (x17_2 : Dt41) (x17_3 : Dt41) (x17_4 : Bool) (x17_5 : Dt41) (x17_6 : Dt41) (x17_7 : Int) (x17_8 : Bool) (x17_9 : Bool) (x17_10 : Dt41) (x17_11 : Dt41) (x17_12 : Bool) (x17_13 : Dt41) (x17_14 : Dt41) (x17_15 : Int) (x19 : Int) (x104 : Bool) (x107 : Bool) (x108 : Bool) (x121_0 : Bool) (x121_1 : Dt41) (x121_2 : Dt41) (x121_3 : Bool) (x121_4 : Dt41) (x121_5 : Dt41) (x124_0 : Bool) (x124_1 : Dt41) (x124_2 : Dt41) (x124_3 : Bool) (x124_4 : Dt41) (x124_5 : Dt41) (x125 : Bool) (x126 : Bool) : S := ⟨[(0, .one (.lf (.val true (.int .i64) x0))), (1, .one (.lf (.val true Kt38 x1))), (5, .box 0 0), (14, .one (.lf (.val true Kt26 x14))), (15, .one (.lf (.val true Kt26 x15))), (16, .one (.lf (.val true (.int .i64) x16))), (17, .box 1 0), (19, .one (.lf (.val true (.int .i64) x19))), (104, .one (.lf (.val true .bool x104))), (107, .one (.lf (.val true .bool x107))), (108, .one (.lf (.val true .bool x108))), (121, .one (.agg [.val true .bool x121_0, .val true Kt41 x121_1, .val true Kt41 x121_2, .val true .bool x121_3, .val true Kt41 x121_4, .val true Kt41 x121_5])), (124, .one (.agg [.val true .bool x124_0, .val true Kt41 x124_1, .val true Kt41 x124_2, .val true .bool x124_3, .val true Kt41 x124_4, .val true Kt41 x124_5])), (125, .one (.lf (.val true .bool x125))), (126, .one (.lf (.val true .bool x126)))], ⟨[some ⟨97, Kt97, true, true, x5_1⟩, some ⟨55, Kt55, true, true, x5_3⟩], [some ⟨75, [.val true (.int .i64) x5_0, .own 0, .val true .bool x5_2, .own 1]⟩, some ⟨55, [.val true .bool x17_0, .val true .bool x17_1, .val true Kt41 x17_2, .val true Kt41 x17_3, .val true .bool x17_4, .val true Kt41 x17_5, .val true Kt41 x17_6, .val true (.int .i64) x17_7, .val true .bool x17_8, .val true .bool x17_9, .val true Kt41 x17_10, .val true Kt41 x17_11, .val true .bool x17_12, .val true Kt41 x17_13, .val true Kt41 x17_14, .val true (.int .i64) x17_15]⟩]⟩⟩
noncomputable def fulcrumlaw08_BoundsAnyOrder.b9 (f9 : Int → Dt38 → Int → Dt27 → Bool → Dt26 → Int → Dt27 → Bool → Dt26 → Bool → Int → Option (Bool × Unit)) (f19 : Int → Dt38 → Int → Dt27 → Bool → Dt26 → Dt26 → Dt26 → Int → Option (Bool × Unit)) (f27 : Int → Dt38 → Int → Dt27 → Bool → Dt26 → Dt26 → Dt26 → Int → Bool → Bool → Dt41 → Dt41 → Bool → Dt41 → Dt41 → Int → Bool → Bool → Dt41 → Dt41 → Bool → Dt41 → Dt41 → Int → Int → Bool → Bool → Bool → Bool → Dt41 → Dt41 → Bool → Dt41 → Dt41 → Bool → Dt41 → Dt41 → Bool → Dt41 → Dt41 → Bool → Bool → Option (Bool × Unit)) (x0 : Int) (x1 : Dt38) (x5_0 : Int) (x5_1 : Dt27) (x5_2 : Bool) (x5_3 : Dt26) (x7_0 : Int) (x7_1 : Dt27) (x7_2 : Bool) (x7_3 : Dt26) (x9 : Bool) (x10 : Int) : Option (Bool × Unit) :=
  let v1 := (List.length x1 : Int)
  let v2 := decide (x10 < v1)
  bif v2 then (let v3 := (List.length x1 : Int)
  let v4 := IntKind.i64.wrap (v3 - (1 : Int))
  let v5 := IntKind.i64.wrap (v4 - x10)
  bif decide (0 ≤ x10) && decide (x10 < (List.length x1 : Int)) then (let v6 := (List.getD x1 (Int.toNat x10) zt50).1
  let v7 := ((List.getD x1 (Int.toNat x10) zt50).2).1
  let v8 := ((((((List.getD x1 (Int.toNat x10) zt50).2).2).1).1).1).1
  let v9 := ((((((List.getD x1 (Int.toNat x10) zt50).2).2).1).1).1).2
  let v10 := (((((List.getD x1 (Int.toNat x10) zt50).2).2).1).1).2
  let v11 := ((((((List.getD x1 (Int.toNat x10) zt50).2).2).1).2).1).1
  let v12 := ((((((List.getD x1 (Int.toNat x10) zt50).2).2).1).2).1).2
  let v13 := (((((List.getD x1 (Int.toNat x10) zt50).2).2).1).2).2
  let v14 := ((((List.getD x1 (Int.toNat x10) zt50).2).2).2).1
  let v15 := ((((List.getD x1 (Int.toNat x10) zt50).2).2).2).2
  (fulcrumlaw08_assert.F ((x5_0, x5_1), (x5_2, x5_3)) ((v6, (v7, ((((v8, v9), v10), ((v11, v12), v13)), (v14, v15)))), ())).bind fun y16 =>
  bif decide (0 ≤ v5) && decide (v5 < (List.length x1 : Int)) then (let v17 := (List.getD x1 (Int.toNat v5) zt50).1
  let v18 := ((List.getD x1 (Int.toNat v5) zt50).2).1
  let v19 := ((((((List.getD x1 (Int.toNat v5) zt50).2).2).1).1).1).1
  let v20 := ((((((List.getD x1 (Int.toNat v5) zt50).2).2).1).1).1).2
  let v21 := (((((List.getD x1 (Int.toNat v5) zt50).2).2).1).1).2
  let v22 := ((((((List.getD x1 (Int.toNat v5) zt50).2).2).1).2).1).1
  let v23 := ((((((List.getD x1 (Int.toNat v5) zt50).2).2).1).2).1).2
  let v24 := (((((List.getD x1 (Int.toNat v5) zt50).2).2).1).2).2
  let v25 := ((((List.getD x1 (Int.toNat v5) zt50).2).2).2).1
  let v26 := ((((List.getD x1 (Int.toNat v5) zt50).2).2).2).2
  (fulcrumlaw08_assert.F ((x7_0, x7_1), (x7_2, x7_3)) ((v17, (v18, ((((v19, v20), v21), ((v22, v23), v24)), (v25, v26)))), ())).bind fun y27 =>
  bif x9 then (let v28 := IntKind.i64.wrap (x10 + (1 : Int))
  f9 x0 x1 y16.2.2.1.1 y16.2.2.1.2 y16.2.2.2.1 y16.2.2.2.2 y27.2.2.1.1 y27.2.2.1.2 y27.2.2.2.1 y27.2.2.2.2 true v28)
  else (let v29 := (y16.2.1.1 == (2 : Int))
  bif v29 then (let v30 := IntKind.i64.wrap (x10 + (1 : Int))
  f9 x0 x1 y16.2.2.1.1 y16.2.2.1.2 y16.2.2.2.1 y16.2.2.2.2 y27.2.2.1.1 y27.2.2.1.2 y27.2.2.2.1 y27.2.2.2.2 true v30)
  else (let v31 := (y27.2.1.1 == (2 : Int))
  let v32 := IntKind.i64.wrap (x10 + (1 : Int))
  f9 x0 x1 y16.2.2.1.1 y16.2.2.1.2 y16.2.2.2.1 y16.2.2.2.2 y27.2.2.1.1 y27.2.2.1.2 y27.2.2.2.1 y27.2.2.2.2 v31 v32)))
  else none)
  else none)
  else (bif x9 then (some (true, ()))
  else ((fulcrumlaw08_limits.F ((x5_0, x5_1), (x5_2, x5_3)) (x0, ())).bind fun y33 =>
  (fulcrumlaw08_limits.F ((x7_0, x7_1), (x7_2, x7_3)) (x0, ())).bind fun y34 =>
  f19 x0 x1 y33.2.2.1.1 y33.2.2.1.2 y33.2.2.2.1 y33.2.2.2.2 y33.2.1.1 y34.2.1.1 (0 : Int)))
noncomputable def fulcrumlaw08_BoundsAnyOrder.b19 (f9 : Int → Dt38 → Int → Dt27 → Bool → Dt26 → Int → Dt27 → Bool → Dt26 → Bool → Int → Option (Bool × Unit)) (f19 : Int → Dt38 → Int → Dt27 → Bool → Dt26 → Dt26 → Dt26 → Int → Option (Bool × Unit)) (f27 : Int → Dt38 → Int → Dt27 → Bool → Dt26 → Dt26 → Dt26 → Int → Bool → Bool → Dt41 → Dt41 → Bool → Dt41 → Dt41 → Int → Bool → Bool → Dt41 → Dt41 → Bool → Dt41 → Dt41 → Int → Int → Bool → Bool → Bool → Bool → Dt41 → Dt41 → Bool → Dt41 → Dt41 → Bool → Dt41 → Dt41 → Bool → Dt41 → Dt41 → Bool → Bool → Option (Bool × Unit)) (x0 : Int) (x1 : Dt38) (x5_0 : Int) (x5_1 : Dt27) (x5_2 : Bool) (x5_3 : Dt26) (x14 : Dt26) (x15 : Dt26) (x16 : Int) : Option (Bool × Unit) :=
  let v1 := decide (x16 < x0)
  bif v1 then (bif decide (0 ≤ x16) && decide (x16 < (List.length x14 : Int)) then (let v2 := ((List.getD x14 (Int.toNat x16) zt55).1).1
  let v3 := ((((((List.getD x14 (Int.toNat x16) zt55).1).2).1).1).1).1
  let v4 := ((((((List.getD x14 (Int.toNat x16) zt55).1).2).1).1).1).2
  let v5 := (((((List.getD x14 (Int.toNat x16) zt55).1).2).1).1).2
  let v6 := ((((((List.getD x14 (Int.toNat x16) zt55).1).2).1).2).1).1
  let v7 := ((((((List.getD x14 (Int.toNat x16) zt55).1).2).1).2).1).2
  let v8 := (((((List.getD x14 (Int.toNat x16) zt55).1).2).1).2).2
  let v9 := (((List.getD x14 (Int.toNat x16) zt55).1).2).2
  let v10 := ((List.getD x14 (Int.toNat x16) zt55).2).1
  let v11 := ((((((List.getD x14 (Int.toNat x16) zt55).2).2).1).1).1).1
  let v12 := ((((((List.getD x14 (Int.toNat x16) zt55).2).2).1).1).1).2
  let v13 := (((((List.getD x14 (Int.toNat x16) zt55).2).2).1).1).2
  let v14 := ((((((List.getD x14 (Int.toNat x16) zt55).2).2).1).2).1).1
  let v15 := ((((((List.getD x14 (Int.toNat x16) zt55).2).2).1).2).1).2
  let v16 := (((((List.getD x14 (Int.toNat x16) zt55).2).2).1).2).2
  let v17 := (((List.getD x14 (Int.toNat x16) zt55).2).2).2
  bif decide (0 ≤ x16) && decide (x16 < (List.length x15 : Int)) then (let v18 := ((List.getD x15 (Int.toNat x16) zt55).1).1
  let v19 := ((((((List.getD x15 (Int.toNat x16) zt55).1).2).1).1).1).1
  let v20 := ((((((List.getD x15 (Int.toNat x16) zt55).1).2).1).1).1).2
  let v21 := (((((List.getD x15 (Int.toNat x16) zt55).1).2).1).1).2
  let v22 := ((((((List.getD x15 (Int.toNat x16) zt55).1).2).1).2).1).1
  let v23 := ((((((List.getD x15 (Int.toNat x16) zt55).1).2).1).2).1).2
  let v24 := (((((List.getD x15 (Int.toNat x16) zt55).1).2).1).2).2
  let v25 := (((List.getD x15 (Int.toNat x16) zt55).1).2).2
  let v26 := ((List.getD x15 (Int.toNat x16) zt55).2).1
  let v27 := ((((((List.getD x15 (Int.toNat x16) zt55).2).2).1).1).1).1
  let v28 := ((((((List.getD x15 (Int.toNat x16) zt55).2).2).1).1).1).2
  let v29 := (((((List.getD x15 (Int.toNat x16) zt55).2).2).1).1).2
  let v30 := ((((((List.getD x15 (Int.toNat x16) zt55).2).2).1).2).1).1
  let v31 := ((((((List.getD x15 (Int.toNat x16) zt55).2).2).1).2).1).2
  let v32 := (((((List.getD x15 (Int.toNat x16) zt55).2).2).1).2).2
  let v33 := (((List.getD x15 (Int.toNat x16) zt55).2).2).2
  let v34 := (!(v2 == v18))
  bif v34 then (some (false, ()))
  else (let v35 := (!(v10 == v26))
  bif v35 then (some (false, ()))
  else ((fulcrummem_SameDelta.F ((((v3, v4), v5), ((v6, v7), v8)), (((v19, v20), v21), ((v22, v23), v24)), ())).bind fun y36 =>
  let v37 := not y36.1
  bif v37 then (some (false, ()))
  else ((fulcrummem_SameDelta.F ((((v11, v12), v13), ((v14, v15), v16)), (((v27, v28), v29), ((v30, v31), v32)), ())).bind fun y38 =>
  let v39 := not y38.1
  bif v39 then (some (false, ()))
  else (f27 x0 x1 x5_0 x5_1 x5_2 x5_3 x14 x15 x16 v2 v3 v4 v5 v6 v7 v8 v9 v10 v11 v12 v13 v14 v15 v16 v17 (0 : Int) v10 v26 v35 v11 v12 v13 v14 v15 v16 v27 v28 v29 v30 v31 v32 y38.1 v39)))))
  else none)
  else none)
  else ((bounds_Store_Vars.F ((x5_0, x5_1), (x5_2, x5_3)) ()).bind fun y40 =>
  let v41 := (y40.2.1.1 == x0)
  some (v41, ()))
noncomputable def fulcrumlaw08_BoundsAnyOrder.b27 (f9 : Int → Dt38 → Int → Dt27 → Bool → Dt26 → Int → Dt27 → Bool → Dt26 → Bool → Int → Option (Bool × Unit)) (f19 : Int → Dt38 → Int → Dt27 → Bool → Dt26 → Dt26 → Dt26 → Int → Option (Bool × Unit)) (f27 : Int → Dt38 → Int → Dt27 → Bool → Dt26 → Dt26 → Dt26 → Int → Bool → Bool → Dt41 → Dt41 → Bool → Dt41 → Dt41 → Int → Bool → Bool → Dt41 → Dt41 → Bool → Dt41 → Dt41 → Int → Int → Bool → Bool → Bool → Bool → Dt41 → Dt41 → Bool → Dt41 → Dt41 → Bool → Dt41 → Dt41 → Bool → Dt41 → Dt41 → Bool → Bool → Option (Bool × Unit)) (x0 : Int) (x1 : Dt38) (x5_0 : Int) (x5_1 : Dt27) (x5_2 : Bool) (x5_3 : Dt26) (x14 : Dt26) (x15 : Dt26) (x16 : Int) (x17_0 : Bool) (x17_1 : Bool) (x17_2 : Dt41) (x17_3 : Dt41) (x17_4 : Bool) (x17_5 : Dt41) (x17_6 : Dt41) (x17_7 : Int) (x17_8 : Bool) (x17_9 : Bool) (x17_10 : Dt41) (x17_11 : Dt41) (x17_12 : Bool) (x17_13 : Dt41) (x17_14 : Dt41) (x17_15 : Int) (x19 : Int) (x104 : Bool) (x107 : Bool) (x108 : Bool) (x121_0 : Bool) (x121_1 : Dt41) (x121_2 : Dt41) (x121_3 : Bool) (x121_4 : Dt41) (x121_5 : Dt41) (x124_0 : Bool) (x124_1 : Dt41) (x124_2 : Dt41) (x124_3 : Bool) (x124_4 : Dt41) (x124_5 : Dt41) (x125 : Bool) (x126 : Bool) : Option (Bool × Unit) :=
  let v1 := (List.length x1 : Int)
  let v2 := decide (x19 < v1)
  bif v2 then (bif decide (0 ≤ x19) && decide (x19 < (List.length x1 : Int)) then (let v3 := ((List.getD x1 (Int.toNat x19) zt50).2).1
  let v4 := (v3 != x16)
  bif v4 then (let v5 := IntKind.i64.wrap (x19 + (1 : Int))
  f27 x0 x1 x5_0 x5_1 x5_2 x5_3 x14 x15 x16 x17_0 x17_1 x17_2 x17_3 x17_4 x17_5 x17_6 x17_7 x17_8 x17_9 x17_10 x17_11 x17_12 x17_13 x17_14 x17_15 v5 x104 x107 x108 x121_0 x121_1 x121_2 x121_3 x121_4 x121_5 x124_0 x124_1 x124_2 x124_3 x124_4 x124_5 x125 x126)
  else (bif decide (0 ≤ x19) && decide (x19 < (List.length x1 : Int)) then (let v6 := (List.getD x1 (Int.toNat x19) zt50).1
  let v7 := (v6 == (0 : Int))
  bif v7 then (let v8 := not x17_0
  bif v8 then (some (false, ()))
  else (bif decide (0 ≤ x19) && decide (x19 < (List.length x1 : Int)) then (let v9 := ((((((List.getD x1 (Int.toNat x19) zt50).2).2).1).1).1).1
  let v10 := ((((((List.getD x1 (Int.toNat x19) zt50).2).2).1).1).1).2
  let v11 := (((((List.getD x1 (Int.toNat x19) zt50).2).2).1).1).2
  let v12 := ((((((List.getD x1 (Int.toNat x19) zt50).2).2).1).2).1).1
  let v13 := ((((((List.getD x1 (Int.toNat x19) zt50).2).2).1).2).1).2
  let v14 := (((((List.getD x1 (Int.toNat x19) zt50).2).2).1).2).2
  (fulcrumref05_Cmp.F ((((x17_1, x17_2), x17_3), ((x17_4, x17_5), x17_6)), (((v9, v10), v11), ((v12, v13), v14)), ())).bind fun y15 =>
  let v16 := decide (y15.1 < (0 : Int))
  bif v16 then (some (false, ()))
  else (bif decide (0 ≤ x19) && decide (x19 < (List.length x1 : Int)) then (let v17 := (List.getD x1 (Int.toNat x19) zt50).1
  let v18 := (v17 == (1 : Int))
  bif v18 then (let v19 := not x17_8
  bif v19 then (some (false, ()))
  else (bif decide (0 ≤ x19) && decide (x19 < (List.length x1 : Int)) then (let v20 := ((((((List.getD x1 (Int.toNat x19) zt50).2).2).1).1).1).1
  let v21 := ((((((List.getD x1 (Int.toNat x19) zt50).2).2).1).1).1).2
  let v22 := (((((List.getD x1 (Int.toNat x19) zt50).2).2).1).1).2
  let v23 := ((((((List.getD x1 (Int.toNat x19) zt50).2).2).1).2).1).1
  let v24 := ((((((List.getD x1 (Int.toNat x19) zt50).2).2).1).2).1).2
  let v25 := (((((List.getD x1 (Int.toNat x19) zt50).2).2).1).2).2
  (fulcrumref05_Cmp.F ((((x17_9, x17_10), x17_11), ((x17_12, x17_13), x17_14)), (((v20, v21), v22), ((v23, v24), v25)), ())).bind fun y26 =>
  let v27 := decide (y26.1 > (0 : Int))
  bif v27 then (some (false, ()))
  else (let v28 := IntKind.i64.wrap (x19 + (1 : Int))
  f27 x0 x1 x5_0 x5_1 x5_2 x5_3 x14 x15 x16 x17_0 x17_1 x17_2 x17_3 x17_4 x17_5 x17_6 x17_7 x17_8 x17_9 x17_10 x17_11 x17_12 x17_13 x17_14 x17_15 v28 x104 x107 x108 x121_0 x121_1 x121_2 x121_3 x121_4 x121_5 x124_0 x124_1 x124_2 x124_3 x124_4 x124_5 x125 x126))
  else none))
  else (let v29 := IntKind.i64.wrap (x19 + (1 : Int))
  f27 x0 x1 x5_0 x5_1 x5_2 x5_3 x14 x15 x16 x17_0 x17_1 x17_2 x17_3 x17_4 x17_5 x17_6 x17_7 x17_8 x17_9 x17_10 x17_11 x17_12 x17_13 x17_14 x17_15 v29 x104 x107 x108 x121_0 x121_1 x121_2 x121_3 x121_4 x121_5 x124_0 x124_1 x124_2 x124_3 x124_4 x124_5 x125 x126))
  else none))
  else none))
  else (bif decide (0 ≤ x19) && decide (x19 < (List.length x1 : Int)) then (let v30 := (List.getD x1 (Int.toNat x19) zt50).1
  let v31 := (v30 == (1 : Int))
  bif v31 then (let v32 := not x17_8
  bif v32 then (some (false, ()))
  else (bif decide (0 ≤ x19) && decide (x19 < (List.length x1 : Int)) then (let v33 := ((((((List.getD x1 (Int.toNat x19) zt50).2).2).1).1).1).1
  let v34 := ((((((List.getD x1 (Int.toNat x19) zt50).2).2).1).1).1).2
  let v35 := (((((List.getD x1 (Int.toNat x19) zt50).2).2).1).1).2
  let v36 := ((((((List.getD x1 (Int.toNat x19) zt50).2).2).1).2).1).1
  let v37 := ((((((List.getD x1 (Int.toNat x19) zt50).2).2).1).2).1).2
  let v38 := (((((List.getD x1 (Int.toNat x19) zt50).2).2).1).2).2
  (fulcrumref05_Cmp.F ((((x17_9, x17_10), x17_11), ((x17_12, x17_13), x17_14)), (((v33, v34), v35), ((v36, v37), v38)), ())).bind fun y39 =>
  let v40 := decide (y39.1 > (0 : Int))
  bif v40 then (some (false, ()))
  else (let v41 := IntKind.i64.wrap (x19 + (1 : Int))
  f27 x0 x1 x5_0 x5_1 x5_2 x5_3 x14 x15 x16 x17_0 x17_1 x17_2 x17_3 x17_4 x17_5 x17_6 x17_7 x17_8 x17_9 x17_10 x17_11 x17_12 x17_13 x17_14 x17_15 v41 x104 x107 x108 x121_0 x121_1 x121_2 x121_3 x121_4 x121_5 x124_0 x124_1 x124_2 x124_3 x124_4 x124_5 x125 x126))
  else none))
  else (let v42 := IntKind.i64.wrap (x19 + (1 : Int))
  f27 x0 x1 x5_0 x5_1 x5_2 x5_3 x14 x15 x16 x17_0 x17_1 x17_2 x17_3 x17_4 x17_5 x17_6 x17_7 x17_8 x17_9 x17_10 x17_11 x17_12 x17_13 x17_14 x17_15 v42 x104 x107 x108 x121_0 x121_1 x121_2 x121_3 x121_4 x121_5 x124_0 x124_1 x124_2 x124_3 x124_4 x124_5 x125 x126))
  else none))
  else none))
  else none)
  else (let v43 := IntKind.i64.wrap (x16 + (1 : Int))
  f19 x0 x1 x5_0 x5_1 x5_2 x5_3 x14 x15 v43)
noncomputable def fulcrumlaw08_BoundsAnyOrder.e (f9 : Int → Dt38 → Int → Dt27 → Bool → Dt26 → Int → Dt27 → Bool → Dt26 → Bool → Int → Option (Bool × Unit)) (f19 : Int → Dt38 → Int → Dt27 → Bool → Dt26 → Dt26 → Dt26 → Int → Option (Bool × Unit)) (f27 : Int → Dt38 → Int → Dt27 → Bool → Dt26 → Dt26 → Dt26 → Int → Bool → Bool → Dt41 → Dt41 → Bool → Dt41 → Dt41 → Int → Bool → Bool → Dt41 → Dt41 → Bool → Dt41 → Dt41 → Int → Int → Bool → Bool → Bool → Bool → Dt41 → Dt41 → Bool → Dt41 → Dt41 → Bool → Dt41 → Dt41 → Bool → Dt41 → Dt41 → Bool → Bool → Option (Bool × Unit)) (a0 : Int) (a1 : Dt38) : Option (Bool × Unit) :=
  let v1 := decide (a0 < (0 : Int))
  bif v1 then ((bounds_New.F () ((2 : Int), ())).bind fun y2 =>
  match y2.1 with
  | none => ((bounds_New.F () ((2 : Int), ())).bind fun y4 =>
  match y4.1 with
  | none => (let v6 := (y2.2.1.1 != (0 : Int))
  bif v6 then (some (false, ()))
  else (let v7 := (y4.2.1.1 != (0 : Int))
  bif v7 then (some (false, ()))
  else (none)))
  | some z5 => (let v8 := (y2.2.1.1 != (0 : Int))
  bif v8 then (some (false, ()))
  else (let v9 := (y4.2.1.1 != (0 : Int))
  bif v9 then (some (false, ()))
  else (none))))
  | some z3 => ((bounds_New.F () ((2 : Int), ())).bind fun y10 =>
  match y10.1 with
  | none => (let v12 := (y2.2.1.1 != (0 : Int))
  bif v12 then (some (false, ()))
  else (let v13 := (y10.2.1.1 != (0 : Int))
  bif v13 then (some (false, ()))
  else (none)))
  | some z11 => (let v14 := (y2.2.1.1 != (0 : Int))
  bif v14 then (some (false, ()))
  else (let v15 := (y10.2.1.1 != (0 : Int))
  bif v15 then (some (false, ()))
  else (f9 (2 : Int) a1 z3.1.1 z3.1.2 z3.2.1 z3.2.2 z11.1.1 z11.1.2 z11.2.1 z11.2.2 false (0 : Int))))))
  else (let v16 := decide (a0 > (65536 : Int))
  bif v16 then ((bounds_New.F () ((2 : Int), ())).bind fun y17 =>
  match y17.1 with
  | none => ((bounds_New.F () ((2 : Int), ())).bind fun y19 =>
  match y19.1 with
  | none => (let v21 := (y17.2.1.1 != (0 : Int))
  bif v21 then (some (false, ()))
  else (let v22 := (y19.2.1.1 != (0 : Int))
  bif v22 then (some (false, ()))
  else (none)))
  | some z20 => (let v23 := (y17.2.1.1 != (0 : Int))
  bif v23 then (some (false, ()))
  else (let v24 := (y19.2.1.1 != (0 : Int))
  bif v24 then (some (false, ()))
  else (none))))
  | some z18 => ((bounds_New.F () ((2 : Int), ())).bind fun y25 =>
  match y25.1 with
  | none => (let v27 := (y17.2.1.1 != (0 : Int))
  bif v27 then (some (false, ()))
  else (let v28 := (y25.2.1.1 != (0 : Int))
  bif v28 then (some (false, ()))
  else (none)))
  | some z26 => (let v29 := (y17.2.1.1 != (0 : Int))
  bif v29 then (some (false, ()))
  else (let v30 := (y25.2.1.1 != (0 : Int))
  bif v30 then (some (false, ()))
  else (f9 (2 : Int) a1 z18.1.1 z18.1.2 z18.2.1 z18.2.2 z26.1.1 z26.1.2 z26.2.1 z26.2.2 false (0 : Int))))))
  else ((bounds_New.F () (a0, ())).bind fun y31 =>
  match y31.1 with
  | none => ((bounds_New.F () (a0, ())).bind fun y33 =>
  match y33.1 with
  | none => (let v35 := (y31.2.1.1 != (0 : Int))
  bif v35 then (some (false, ()))
  else (let v36 := (y33.2.1.1 != (0 : Int))
  bif v36 then (some (false, ()))
  else (none)))
  | some z34 => (let v37 := (y31.2.1.1 != (0 : Int))
  bif v37 then (some (false, ()))
  else (let v38 := (y33.2.1.1 != (0 : Int))
  bif v38 then (some (false, ()))
  else (none))))
  | some z32 => ((bounds_New.F () (a0, ())).bind fun y39 =>
  match y39.1 with
  | none => (let v41 := (y31.2.1.1 != (0 : Int))
  bif v41 then (some (false, ()))
  else (let v42 := (y39.2.1.1 != (0 : Int))
  bif v42 then (some (false, ()))
  else (none)))
  | some z40 => (let v43 := (y31.2.1.1 != (0 : Int))
  bif v43 then (some (false, ()))
  else (let v44 := (y39.2.1.1 != (0 : Int))
  bif v44 then (some (false, ()))
  else (f9 a0 a1 z32.1.1 z32.1.2 z32.2.1 z32.2.2 z40.1.1 z40.1.2 z40.2.1 z40.2.2 false (0 : Int)))))))
noncomputable def fulcrumlaw08_BoundsAnyOrder.L9 (k : Nat) (x0 : Int) (x1 : Dt38) (x5_0 : Int) (x5_1 : Dt27) (x5_2 : Bool) (x5_3 : Dt26) (x7_0 : Int) (x7_1 : Dt27) (x7_2 : Bool) (x7_3 : Dt26) (x9 : Bool) (x10 : Int) : Option (Bool × Unit) := heads (fulcrumlaw08_BoundsAnyOrder.spec.env fulcrumlaw08_BoundsAnyOrder.cals T Try.f4) (Func.pts Try.f4) k 9 (fulcrumlaw08_BoundsAnyOrder.m9 x0 x1 x5_0 x5_1 x5_2 x5_3 x7_0 x7_1 x7_2 x7_3 x9 x10)
noncomputable def fulcrumlaw08_BoundsAnyOrder.L19 (k : Nat) (x0 : Int) (x1 : Dt38) (x5_0 : Int) (x5_1 : Dt27) (x5_2 : Bool) (x5_3 : Dt26) (x14 : Dt26) (x15 : Dt26) (x16 : Int) : Option (Bool × Unit) := heads (fulcrumlaw08_BoundsAnyOrder.spec.env fulcrumlaw08_BoundsAnyOrder.cals T Try.f4) (Func.pts Try.f4) k 19 (fulcrumlaw08_BoundsAnyOrder.m19 x0 x1 x5_0 x5_1 x5_2 x5_3 x14 x15 x16)
noncomputable def fulcrumlaw08_BoundsAnyOrder.L27 (k : Nat) (x0 : Int) (x1 : Dt38) (x5_0 : Int) (x5_1 : Dt27) (x5_2 : Bool) (x5_3 : Dt26) (x14 : Dt26) (x15 : Dt26) (x16 : Int) (x17_0 : Bool) (x17_1 : Bool) (x17_2 : Dt41) (x17_3 : Dt41) (x17_4 : Bool) (x17_5 : Dt41) (x17_6 : Dt41) (x17_7 : Int) (x17_8 : Bool) (x17_9 : Bool) (x17_10 : Dt41) (x17_11 : Dt41) (x17_12 : Bool) (x17_13 : Dt41) (x17_14 : Dt41) (x17_15 : Int) (x19 : Int) (x104 : Bool) (x107 : Bool) (x108 : Bool) (x121_0 : Bool) (x121_1 : Dt41) (x121_2 : Dt41) (x121_3 : Bool) (x121_4 : Dt41) (x121_5 : Dt41) (x124_0 : Bool) (x124_1 : Dt41) (x124_2 : Dt41) (x124_3 : Bool) (x124_4 : Dt41) (x124_5 : Dt41) (x125 : Bool) (x126 : Bool) : Option (Bool × Unit) := heads (fulcrumlaw08_BoundsAnyOrder.spec.env fulcrumlaw08_BoundsAnyOrder.cals T Try.f4) (Func.pts Try.f4) k 27 (fulcrumlaw08_BoundsAnyOrder.m27 x0 x1 x5_0 x5_1 x5_2 x5_3 x14 x15 x16 x17_0 x17_1 x17_2 x17_3 x17_4 x17_5 x17_6 x17_7 x17_8 x17_9 x17_10 x17_11 x17_12 x17_13 x17_14 x17_15 x19 x104 x107 x108 x121_0 x121_1 x121_2 x121_3 x121_4 x121_5 x124_0 x124_1 x124_2 x124_3 x124_4 x124_5 x125 x126)
theorem fulcrumlaw08_BoundsAnyOrder.L9_succ (k : Nat) (x0 : Int) (x1 : Dt38) (x5_0 : Int) (x5_1 : Dt27) (x5_2 : Bool) (x5_3 : Dt26) (x7_0 : Int) (x7_1 : Dt27) (x7_2 : Bool) (x7_3 : Dt26) (x9 : Bool) (x10 : Int) : fulcrumlaw08_BoundsAnyOrder.L9 (k + 1) x0 x1 x5_0 x5_1 x5_2 x5_3 x7_0 x7_1 x7_2 x7_3 x9 x10 = fulcrumlaw08_BoundsAnyOrder.b9 (fulcrumlaw08_BoundsAnyOrder.L9 k) (fulcrumlaw08_BoundsAnyOrder.L19 k) (fulcrumlaw08_BoundsAnyOrder.L27 k) x0 x1 x5_0 x5_1 x5_2 x5_3 x7_0 x7_1 x7_2 x7_3 x9 x10 := by kernel_rfl
theorem fulcrumlaw08_BoundsAnyOrder.L9_zero (x0 : Int) (x1 : Dt38) (x5_0 : Int) (x5_1 : Dt27) (x5_2 : Bool) (x5_3 : Dt26) (x7_0 : Int) (x7_1 : Dt27) (x7_2 : Bool) (x7_3 : Dt26) (x9 : Bool) (x10 : Int) : fulcrumlaw08_BoundsAnyOrder.L9 0 x0 x1 x5_0 x5_1 x5_2 x5_3 x7_0 x7_1 x7_2 x7_3 x9 x10 = none := by kernel_rfl
theorem fulcrumlaw08_BoundsAnyOrder.L19_succ (k : Nat) (x0 : Int) (x1 : Dt38) (x5_0 : Int) (x5_1 : Dt27) (x5_2 : Bool) (x5_3 : Dt26) (x14 : Dt26) (x15 : Dt26) (x16 : Int) : fulcrumlaw08_BoundsAnyOrder.L19 (k + 1) x0 x1 x5_0 x5_1 x5_2 x5_3 x14 x15 x16 = fulcrumlaw08_BoundsAnyOrder.b19 (fulcrumlaw08_BoundsAnyOrder.L9 k) (fulcrumlaw08_BoundsAnyOrder.L19 k) (fulcrumlaw08_BoundsAnyOrder.L27 k) x0 x1 x5_0 x5_1 x5_2 x5_3 x14 x15 x16 := by kernel_rfl
theorem fulcrumlaw08_BoundsAnyOrder.L19_zero (x0 : Int) (x1 : Dt38) (x5_0 : Int) (x5_1 : Dt27) (x5_2 : Bool) (x5_3 : Dt26) (x14 : Dt26) (x15 : Dt26) (x16 : Int) : fulcrumlaw08_BoundsAnyOrder.L19 0 x0 x1 x5_0 x5_1 x5_2 x5_3 x14 x15 x16 = none := by kernel_rfl
theorem fulcrumlaw08_BoundsAnyOrder.L27_succ (k : Nat) (x0 : Int) (x1 : Dt38) (x5_0 : Int) (x5_1 : Dt27) (x5_2 : Bool) (x5_3 : Dt26) (x14 : Dt26) (x15 : Dt26) (x16 : Int) (x17_0 : Bool) (x17_1 : Bool) (x17_2 : Dt41) (x17_3 : Dt41) (x17_4 : Bool) (x17_5 : Dt41) (x17_6 : Dt41) (x17_7 : Int) (x17_8 : Bool) (x17_9 : Bool) (x17_10 : Dt41) (x17_11 : Dt41) (x17_12 : Bool) (x17_13 : Dt41) (x17_14 : Dt41) (x17_15 : Int) (x19 : Int) (x104 : Bool) (x107 : Bool) (x108 : Bool) (x121_0 : Bool) (x121_1 : Dt41) (x121_2 : Dt41) (x121_3 : Bool) (x121_4 : Dt41) (x121_5 : Dt41) (x124_0 : Bool) (x124_1 : Dt41) (x124_2 : Dt41) (x124_3 : Bool) (x124_4 : Dt41) (x124_5 : Dt41) (x125 : Bool) (x126 : Bool) : fulcrumlaw08_BoundsAnyOrder.L27 (k + 1) x0 x1 x5_0 x5_1 x5_2 x5_3 x14 x15 x16 x17_0 x17_1 x17_2 x17_3 x17_4 x17_5 x17_6 x17_7 x17_8 x17_9 x17_10 x17_11 x17_12 x17_13 x17_14 x17_15 x19 x104 x107 x108 x121_0 x121_1 x121_2 x121_3 x121_4 x121_5 x124_0 x124_1 x124_2 x124_3 x124_4 x124_5 x125 x126 = fulcrumlaw08_BoundsAnyOrder.b27 (fulcrumlaw08_BoundsAnyOrder.L9 k) (fulcrumlaw08_BoundsAnyOrder.L19 k) (fulcrumlaw08_BoundsAnyOrder.L27 k) x0 x1 x5_0 x5_1 x5_2 x5_3 x14 x15 x16 x17_0 x17_1 x17_2 x17_3 x17_4 x17_5 x17_6 x17_7 x17_8 x17_9 x17_10 x17_11 x17_12 x17_13 x17_14 x17_15 x19 x104 x107 x108 x121_0 x121_1 x121_2 x121_3 x121_4 x121_5 x124_0 x124_1 x124_2 x124_3 x124_4 x124_5 x125 x126 := by kernel_rfl
theorem fulcrumlaw08_BoundsAnyOrder.L27_zero (x0 : Int) (x1 : Dt38) (x5_0 : Int) (x5_1 : Dt27) (x5_2 : Bool) (x5_3 : Dt26) (x14 : Dt26) (x15 : Dt26) (x16 : Int) (x17_0 : Bool) (x17_1 : Bool) (x17_2 : Dt41) (x17_3 : Dt41) (x17_4 : Bool) (x17_5 : Dt41) (x17_6 : Dt41) (x17_7 : Int) (x17_8 : Bool) (x17_9 : Bool) (x17_10 : Dt41) (x17_11 : Dt41) (x17_12 : Bool) (x17_13 : Dt41) (x17_14 : Dt41) (x17_15 : Int) (x19 : Int) (x104 : Bool) (x107 : Bool) (x108 : Bool) (x121_0 : Bool) (x121_1 : Dt41) (x121_2 : Dt41) (x121_3 : Bool) (x121_4 : Dt41) (x121_5 : Dt41) (x124_0 : Bool) (x124_1 : Dt41) (x124_2 : Dt41) (x124_3 : Bool) (x124_4 : Dt41) (x124_5 : Dt41) (x125 : Bool) (x126 : Bool) : fulcrumlaw08_BoundsAnyOrder.L27 0 x0 x1 x5_0 x5_1 x5_2 x5_3 x14 x15 x16 x17_0 x17_1 x17_2 x17_3 x17_4 x17_5 x17_6 x17_7 x17_8 x17_9 x17_10 x17_11 x17_12 x17_13 x17_14 x17_15 x19 x104 x107 x108 x121_0 x121_1 x121_2 x121_3 x121_4 x121_5 x124_0 x124_1 x124_2 x124_3 x124_4 x124_5 x125 x126 = none := by kernel_rfl
theorem fulcrumlaw08_BoundsAnyOrder.eval (k : Nat) (a0 : Int) (a1 : Dt38) : evalF fulcrumlaw08_BoundsAnyOrder.spec fulcrumlaw08_BoundsAnyOrder.cals T Try.f4 k (a0, a1, ()) = fulcrumlaw08_BoundsAnyOrder.e (fulcrumlaw08_BoundsAnyOrder.L9 k) (fulcrumlaw08_BoundsAnyOrder.L19 k) (fulcrumlaw08_BoundsAnyOrder.L27 k) a0 a1 := by kernel_rfl
theorem fulcrumlaw08_BoundsAnyOrder.F_eq (a0 : Int) (a1 : Dt38) : fulcrumlaw08_BoundsAnyOrder.F (a0, a1, ()) = limF fulcrumlaw08_BoundsAnyOrder.spec fulcrumlaw08_BoundsAnyOrder.cals T Try.f4 (a0, a1, ()) := by kernel_rfl
theorem fulcrumlaw08_BoundsAnyOrder.of (k : Nat) (a0 : Int) (a1 : Dt38) {y : Bool × Unit} (h : fulcrumlaw08_BoundsAnyOrder.e (fulcrumlaw08_BoundsAnyOrder.L9 k) (fulcrumlaw08_BoundsAnyOrder.L19 k) (fulcrumlaw08_BoundsAnyOrder.L27 k) a0 a1 = some y) : fulcrumlaw08_BoundsAnyOrder.F (a0, a1, ()) = some y := (fulcrumlaw08_BoundsAnyOrder.F_eq a0 a1).trans (limF_of (q := fulcrumlaw08_BoundsAnyOrder.spec) (C := fulcrumlaw08_BoundsAnyOrder.cals) (T := T) (f := Try.f4) (x := (a0, a1, ())) (y := y) k ((fulcrumlaw08_BoundsAnyOrder.eval k a0 a1).trans h))

/-! ### (*fulcrum/bounds.Store).Grow -/
def bounds_Store_Grow.spec : XSpec := ⟨some ⟨75, 0, Kt75, 0⟩, false, [], false, none, [(false, (.int .i64)), (false, (.int .i64))], false, fun j => match j with  | _ => []⟩
noncomputable def bounds_Store_Grow.cals : Cals := (Cals.consX 31 false bounds_Store_is.sig (Cals.base tabs))
noncomputable def bounds_Store_Grow.sig : XSig := bounds_Store_Grow.spec.sig bounds_Store_Grow.cals T Try.f10
noncomputable def bounds_Store_Grow.F (d : Dt75) (x : Unit) : Option (Unit × (Int × Int × Unit) × Dt75) := limX bounds_Store_Grow.spec bounds_Store_Grow.cals T Try.f10 d x
theorem bounds_Store_Grow.ck : CalsOk Try.prog bounds_Store_Grow.cals := (CalsOk.consX bounds_Store_is.cal (CalsOk.base tabsOk))
theorem bounds_Store_Grow.cal : XOk Try.prog tabs 10 bounds_Store_Grow.sig := xok_of tabOk bounds_Store_Grow.ck mix Try.func10 (by kernel_rfl) (by kernel_rfl) (by kernel_rfl) (by kernel_rfl)
noncomputable def bounds_Store_Grow.e  (G : Gh) (d : Dt75)  : Option ((Unit × (Int × Int × Unit) × Dt75) × Nat × List Value) :=
  (bounds_Store_is.F ((d.1.1, d.1.2), (d.2.1, d.2.2)) ()).bind fun y1 =>
  let v2 := not y1.2.1.1
  bif v2 then (some (((), ((0 : Int), (1 : Int), ()), ((y1.2.2.1.1, y1.2.2.1.2), (y1.2.2.2.1, y1.2.2.2.2))), G.b, []))
  else (let v3 := (List.length y1.2.2.2.2 : Int)
  let v4 := (v3 == (65536 : Int))
  bif v4 then (some (((), ((0 : Int), (2 : Int), ()), ((y1.2.2.1.1, y1.2.2.1.2), (y1.2.2.2.1, y1.2.2.2.2))), G.b, []))
  else (let v5 := ([zt55] : List Dt55)
  bif decide (List.length y1.2.2.2.2 + List.length v5 < 549755813888) then (let v6 := List.append y1.2.2.2.2 v5
  let v7 := (List.length v6 : Int)
  let v8 := IntKind.i64.wrap (v7 - (1 : Int))
  some (((), (v8, (0 : Int), ()), ((y1.2.2.1.1, y1.2.2.1.2), (y1.2.2.2.1, v6))), G.b, []))
  else none))
theorem bounds_Store_Grow.eval (k : Nat) (G : Gh) (d : Dt75)  : evalX bounds_Store_Grow.spec bounds_Store_Grow.cals T Try.f10 k G d () = bounds_Store_Grow.e  G d  := by kernel_rfl
theorem bounds_Store_Grow.of (d : Dt75)  (y : (Unit × (Int × Int × Unit) × Dt75)) (h : ∀ G : Gh, ∃ k : Nat, bounds_Store_Grow.e  G d  = some (y, (G.b, []))) : bounds_Store_Grow.F d () = some y := limX_of (q := bounds_Store_Grow.spec) (C := bounds_Store_Grow.cals) (T := T) (f := Try.f10) (d := d) (x := ()) y fun G => (h G).imp fun k hk => (bounds_Store_Grow.eval k G d ).trans hk

/-! ### (*fulcrum/bounds.Store).Level -/
def bounds_Store_Level.spec : XSpec := ⟨some ⟨75, 0, Kt75, 0⟩, false, [], false, none, [(false, (.int .i64))], false, fun j => match j with  | _ => []⟩
noncomputable def bounds_Store_Level.cals : Cals := (Cals.consX 31 false bounds_Store_is.sig (Cals.base tabs))
noncomputable def bounds_Store_Level.sig : XSig := bounds_Store_Level.spec.sig bounds_Store_Level.cals T Try.f13
noncomputable def bounds_Store_Level.F (d : Dt75) (x : Unit) : Option (Unit × (Int × Unit) × Dt75) := limX bounds_Store_Level.spec bounds_Store_Level.cals T Try.f13 d x
theorem bounds_Store_Level.ck : CalsOk Try.prog bounds_Store_Level.cals := (CalsOk.consX bounds_Store_is.cal (CalsOk.base tabsOk))
theorem bounds_Store_Level.cal : XOk Try.prog tabs 13 bounds_Store_Level.sig := xok_of tabOk bounds_Store_Level.ck mix Try.func13 (by kernel_rfl) (by kernel_rfl) (by kernel_rfl) (by kernel_rfl)
noncomputable def bounds_Store_Level.e  (G : Gh) (d : Dt75)  : Option ((Unit × (Int × Unit) × Dt75) × Nat × List Value) :=
  (bounds_Store_is.F ((d.1.1, d.1.2), (d.2.1, d.2.2)) ()).bind fun y1 =>
  let v2 := not y1.2.1.1
  bif v2 then (some (((), ((0 : Int), ()), ((y1.2.2.1.1, y1.2.2.1.2), (y1.2.2.2.1, y1.2.2.2.2))), G.b, []))
  else (some (((), (y1.2.2.1.1, ()), ((y1.2.2.1.1, y1.2.2.1.2), (y1.2.2.2.1, y1.2.2.2.2))), G.b, []))
theorem bounds_Store_Level.eval (k : Nat) (G : Gh) (d : Dt75)  : evalX bounds_Store_Level.spec bounds_Store_Level.cals T Try.f13 k G d () = bounds_Store_Level.e  G d  := by kernel_rfl
theorem bounds_Store_Level.of (d : Dt75)  (y : (Unit × (Int × Unit) × Dt75)) (h : ∀ G : Gh, ∃ k : Nat, bounds_Store_Level.e  G d  = some (y, (G.b, []))) : bounds_Store_Level.F d () = some y := limX_of (q := bounds_Store_Level.spec) (C := bounds_Store_Level.cals) (T := T) (f := Try.f13) (d := d) (x := ()) y fun G => (h G).imp fun k hk => (bounds_Store_Level.eval k G d ).trans hk

/-! ### fulcrum/fulcrumref08.New -/
def fulcrumref08_New.spec : Spec := ⟨[(false, (.int .i64))], [(true, Kt29), (false, (.int .i64))], .own, fun j => match j with  | _ => []⟩
noncomputable def fulcrumref08_New.cals : Cals := (Cals.base tabs)
noncomputable def fulcrumref08_New.sig : Sig := fulcrumref08_New.spec.sig fulcrumref08_New.cals T Try.f9
noncomputable def fulcrumref08_New.F (x : Int × Unit) : Option (Dt29 × Int × Unit) := limF fulcrumref08_New.spec fulcrumref08_New.cals T Try.f9 x
theorem fulcrumref08_New.ck : CalsOk Try.prog fulcrumref08_New.cals := (CalsOk.base tabsOk)
theorem fulcrumref08_New.cal : CalOk Try.prog tabs 9 fulcrumref08_New.sig := calOk_lim' tabOk fulcrumref08_New.ck mix Try.func9 (by kernel_rfl) (by kernel_rfl) (by kernel_rfl) (by kernel_rfl)
noncomputable def fulcrumref08_New.e  (a0 : Int) : Option (Dt29 × Int × Unit) :=
  let v1 := decide (a0 < (0 : Int))
  bif v1 then (some (zt29, (1 : Int), ()))
  else (let v2 := decide (a0 > (65536 : Int))
  bif v2 then (some (zt29, (1 : Int), ()))
  else (bif decide (0 ≤ a0) && (decide (a0 ≤ a0) && (decide (Int.toNat a0 * 256 ≤ 281474976710656) && Nat.blt 0 256)) then (let v3 := List.replicate (Int.toNat a0) zt55
  some ((v3, zt73), (0 : Int), ()))
  else none))
theorem fulcrumref08_New.eval (k : Nat) (a0 : Int) : evalF fulcrumref08_New.spec fulcrumref08_New.cals T Try.f9 k (a0, ()) = fulcrumref08_New.e  a0 := by kernel_rfl
theorem fulcrumref08_New.F_eq (a0 : Int) : fulcrumref08_New.F (a0, ()) = limF fulcrumref08_New.spec fulcrumref08_New.cals T Try.f9 (a0, ()) := by kernel_rfl
theorem fulcrumref08_New.of (k : Nat) (a0 : Int) {y : Dt29 × Int × Unit} (h : fulcrumref08_New.e  a0 = some y) : fulcrumref08_New.F (a0, ()) = some y := (fulcrumref08_New.F_eq a0).trans (limF_of (q := fulcrumref08_New.spec) (C := fulcrumref08_New.cals) (T := T) (f := Try.f9) (x := (a0, ())) (y := y) k ((fulcrumref08_New.eval k a0).trans h))

/-! ### fulcrum/fulcrumref05.Norm -/
def fulcrumref05_Norm.spec : Spec := ⟨[(true, Kt47)], [(true, Kt47)], .own, fun j => match j with  | _ => []⟩
noncomputable def fulcrumref05_Norm.cals : Cals := (Cals.cons 61 fulcrumref03_Norm.sig (Cals.base tabs))
noncomputable def fulcrumref05_Norm.sig : Sig := fulcrumref05_Norm.spec.sig fulcrumref05_Norm.cals T Try.f59
noncomputable def fulcrumref05_Norm.F (x : Dt47 × Unit) : Option (Dt47 × Unit) := limF fulcrumref05_Norm.spec fulcrumref05_Norm.cals T Try.f59 x
theorem fulcrumref05_Norm.ck : CalsOk Try.prog fulcrumref05_Norm.cals := (CalsOk.cons fulcrumref03_Norm.cal (CalsOk.base tabsOk))
theorem fulcrumref05_Norm.cal : CalOk Try.prog tabs 59 fulcrumref05_Norm.sig := calOk_lim' tabOk fulcrumref05_Norm.ck mix Try.func59 (by kernel_rfl) (by kernel_rfl) (by kernel_rfl) (by kernel_rfl)
noncomputable def fulcrumref05_Norm.e  (a0 : Dt47) : Option (Dt47 × Unit) :=
  (fulcrumref03_Norm.F (((a0.1.1.1, a0.1.1.2), a0.1.2), ())).bind fun y1 =>
  (fulcrumref03_Norm.F (((a0.2.1.1, a0.2.1.2), a0.2.2), ())).bind fun y2 =>
  some ((((y1.1.1.1, y1.1.1.2), y1.1.2), ((y2.1.1.1, y2.1.1.2), y2.1.2)), ())
theorem fulcrumref05_Norm.eval (k : Nat) (a0 : Dt47) : evalF fulcrumref05_Norm.spec fulcrumref05_Norm.cals T Try.f59 k (a0, ()) = fulcrumref05_Norm.e  a0 := by kernel_rfl
theorem fulcrumref05_Norm.F_eq (a0 : Dt47) : fulcrumref05_Norm.F (a0, ()) = limF fulcrumref05_Norm.spec fulcrumref05_Norm.cals T Try.f59 (a0, ()) := by kernel_rfl
theorem fulcrumref05_Norm.of (k : Nat) (a0 : Dt47) {y : Dt47 × Unit} (h : fulcrumref05_Norm.e  a0 = some y) : fulcrumref05_Norm.F (a0, ()) = some y := (fulcrumref05_Norm.F_eq a0).trans (limF_of (q := fulcrumref05_Norm.spec) (C := fulcrumref05_Norm.cals) (T := T) (f := Try.f59) (x := (a0, ())) (y := y) k ((fulcrumref05_Norm.eval k a0).trans h))

/-! ### fulcrum/fulcrumref08.Bound -/
def fulcrumref08_Bound.spec : Spec := ⟨[(true, Kt53)], [(true, Kt53)], .own, fun j => match j with  | _ => []⟩
noncomputable def fulcrumref08_Bound.cals : Cals := (Cals.cons 59 fulcrumref05_Norm.sig (Cals.base tabs))
noncomputable def fulcrumref08_Bound.sig : Sig := fulcrumref08_Bound.spec.sig fulcrumref08_Bound.cals T Try.f48
noncomputable def fulcrumref08_Bound.F (x : Dt53 × Unit) : Option (Dt53 × Unit) := limF fulcrumref08_Bound.spec fulcrumref08_Bound.cals T Try.f48 x
theorem fulcrumref08_Bound.ck : CalsOk Try.prog fulcrumref08_Bound.cals := (CalsOk.cons fulcrumref05_Norm.cal (CalsOk.base tabsOk))
theorem fulcrumref08_Bound.cal : CalOk Try.prog tabs 48 fulcrumref08_Bound.sig := calOk_lim' tabOk fulcrumref08_Bound.ck mix Try.func48 (by kernel_rfl) (by kernel_rfl) (by kernel_rfl) (by kernel_rfl)
noncomputable def fulcrumref08_Bound.e  (a0 : Dt53) : Option (Dt53 × Unit) :=
  let v1 := not a0.1
  bif v1 then (some (zt53, ()))
  else ((fulcrumref05_Norm.F ((((a0.2.1.1.1.1, a0.2.1.1.1.2), a0.2.1.1.2), ((a0.2.1.2.1.1, a0.2.1.2.1.2), a0.2.1.2.2)), ())).bind fun y2 =>
  some ((true, ((((y2.1.1.1.1, y2.1.1.1.2), y2.1.1.2), ((y2.1.2.1.1, y2.1.2.1.2), y2.1.2.2)), a0.2.2)), ()))
theorem fulcrumref08_Bound.eval (k : Nat) (a0 : Dt53) : evalF fulcrumref08_Bound.spec fulcrumref08_Bound.cals T Try.f48 k (a0, ()) = fulcrumref08_Bound.e  a0 := by kernel_rfl
theorem fulcrumref08_Bound.F_eq (a0 : Dt53) : fulcrumref08_Bound.F (a0, ()) = limF fulcrumref08_Bound.spec fulcrumref08_Bound.cals T Try.f48 (a0, ()) := by kernel_rfl
theorem fulcrumref08_Bound.of (k : Nat) (a0 : Dt53) {y : Dt53 × Unit} (h : fulcrumref08_Bound.e  a0 = some y) : fulcrumref08_Bound.F (a0, ()) = some y := (fulcrumref08_Bound.F_eq a0).trans (limF_of (q := fulcrumref08_Bound.spec) (C := fulcrumref08_Bound.cals) (T := T) (f := Try.f48) (x := (a0, ())) (y := y) k ((fulcrumref08_Bound.eval k a0).trans h))

/-! ### fulcrum/fulcrumref08.Copy -/
def fulcrumref08_Copy.spec : Spec := ⟨[(true, Kt29)], [(true, Kt29)], .own, fun j => match j with | 3 => [(1, .box 29 [.z 55 Kt55 false, .v false, .z 97 Kt97 false]), (2, .box 29 [.v true, .v true, .v true]), (3, .box 29 [.o 55 Kt55 true, .v false, .v true]), (4, .lf (.v true))] | 7 => [(1, .box 29 [.z 55 Kt55 false, .v false, .z 97 Kt97 false]), (2, .box 29 [.v true, .v true, .v true]), (3, .box 29 [.o 55 Kt55 true, .v false, .o 97 Kt97 true]), (5, .lf (.v true))] | _ => []⟩
noncomputable def fulcrumref08_Copy.cals : Cals := (Cals.cons 48 fulcrumref08_Bound.sig (Cals.base tabs))
noncomputable def fulcrumref08_Copy.sig : Sig := fulcrumref08_Copy.spec.sig fulcrumref08_Copy.cals T Try.f32
noncomputable def fulcrumref08_Copy.F (x : Dt29 × Unit) : Option (Dt29 × Unit) := limF fulcrumref08_Copy.spec fulcrumref08_Copy.cals T Try.f32 x
theorem fulcrumref08_Copy.ck : CalsOk Try.prog fulcrumref08_Copy.cals := (CalsOk.cons fulcrumref08_Bound.cal (CalsOk.base tabsOk))
theorem fulcrumref08_Copy.cal : CalOk Try.prog tabs 32 fulcrumref08_Copy.sig := calOk_lim' tabOk fulcrumref08_Copy.ck mix Try.func32 (by kernel_rfl) (by kernel_rfl) (by kernel_rfl) (by kernel_rfl)
def fulcrumref08_Copy.m3 (x1_0 : Dt26) (x1_1 : Int) (x1_2 : Dt27) (x2_1 : Int) (x3_0 : Dt26) (x3_1 : Int) (x4 : Int) : S := ⟨[(1, .box 0 0), (2, .box 1 0), (3, .box 2 0), (4, .one (.lf (.val true (.int .i64) x4)))], ⟨[some ⟨55, Kt55, true, true, x3_0⟩], [some ⟨29, [.val false Kt26 x1_0, .val false (.int .i64) x1_1, .val false Kt27 x1_2]⟩, some ⟨29, [.nil, .val true (.int .i64) x2_1, .nil]⟩, some ⟨29, [.own 0, .val false (.int .i64) x3_1, .nil]⟩]⟩⟩
def fulcrumref08_Copy.m7 (x1_0 : Dt26) (x1_1 : Int) (x1_2 : Dt27) (x2_1 : Int) (x3_0 : Dt26) (x3_1 : Int) (x3_2 : Dt27) (x5 : Int) : S := ⟨[(1, .box 0 0), (2, .box 1 0), (3, .box 2 0), (5, .one (.lf (.val true (.int .i64) x5)))], ⟨[some ⟨55, Kt55, true, true, x3_0⟩, some ⟨97, Kt97, true, true, x3_2⟩], [some ⟨29, [.val false Kt26 x1_0, .val false (.int .i64) x1_1, .val false Kt27 x1_2]⟩, some ⟨29, [.nil, .val true (.int .i64) x2_1, .nil]⟩, some ⟨29, [.own 0, .val false (.int .i64) x3_1, .own 1]⟩]⟩⟩
noncomputable def fulcrumref08_Copy.b3 (f3 : Dt26 → Int → Dt27 → Int → Dt26 → Int → Int → Option (Dt29 × Unit)) (f7 : Dt26 → Int → Dt27 → Int → Dt26 → Int → Dt27 → Int → Option (Dt29 × Unit)) (x1_0 : Dt26) (x1_1 : Int) (x1_2 : Dt27) (x2_1 : Int) (x3_0 : Dt26) (x3_1 : Int) (x4 : Int) : Option (Dt29 × Unit) :=
  let v1 := (List.length x1_0 : Int)
  let v2 := decide (x4 < v1)
  bif v2 then (bif decide (0 ≤ x4) && decide (x4 < (List.length x1_0 : Int)) then (let v3 := ((List.getD x1_0 (Int.toNat x4) zt55).1).1
  let v4 := ((((((List.getD x1_0 (Int.toNat x4) zt55).1).2).1).1).1).1
  let v5 := ((((((List.getD x1_0 (Int.toNat x4) zt55).1).2).1).1).1).2
  let v6 := (((((List.getD x1_0 (Int.toNat x4) zt55).1).2).1).1).2
  let v7 := ((((((List.getD x1_0 (Int.toNat x4) zt55).1).2).1).2).1).1
  let v8 := ((((((List.getD x1_0 (Int.toNat x4) zt55).1).2).1).2).1).2
  let v9 := (((((List.getD x1_0 (Int.toNat x4) zt55).1).2).1).2).2
  let v10 := (((List.getD x1_0 (Int.toNat x4) zt55).1).2).2
  (fulcrumref08_Bound.F ((v3, ((((v4, v5), v6), ((v7, v8), v9)), v10)), ())).bind fun y11 =>
  bif decide (0 ≤ x4) && decide (x4 < (List.length x1_0 : Int)) then (let v12 := ((List.getD x1_0 (Int.toNat x4) zt55).2).1
  let v13 := ((((((List.getD x1_0 (Int.toNat x4) zt55).2).2).1).1).1).1
  let v14 := ((((((List.getD x1_0 (Int.toNat x4) zt55).2).2).1).1).1).2
  let v15 := (((((List.getD x1_0 (Int.toNat x4) zt55).2).2).1).1).2
  let v16 := ((((((List.getD x1_0 (Int.toNat x4) zt55).2).2).1).2).1).1
  let v17 := ((((((List.getD x1_0 (Int.toNat x4) zt55).2).2).1).2).1).2
  let v18 := (((((List.getD x1_0 (Int.toNat x4) zt55).2).2).1).2).2
  let v19 := (((List.getD x1_0 (Int.toNat x4) zt55).2).2).2
  (fulcrumref08_Bound.F ((v12, ((((v13, v14), v15), ((v16, v17), v18)), v19)), ())).bind fun y20 =>
  let v21 := ([((y11.1.1, ((((y11.1.2.1.1.1.1, y11.1.2.1.1.1.2), y11.1.2.1.1.2), ((y11.1.2.1.2.1.1, y11.1.2.1.2.1.2), y11.1.2.1.2.2)), y11.1.2.2)), (y20.1.1, ((((y20.1.2.1.1.1.1, y20.1.2.1.1.1.2), y20.1.2.1.1.2), ((y20.1.2.1.2.1.1, y20.1.2.1.2.1.2), y20.1.2.1.2.2)), y20.1.2.2)))] : List Dt55)
  bif decide (List.length x3_0 + List.length v21 < 549755813888) then (let v22 := List.append x3_0 v21
  let v23 := IntKind.i64.wrap (x4 + (1 : Int))
  f3 x1_0 x1_1 x1_2 x2_1 v22 x3_1 v23)
  else none)
  else none)
  else none)
  else (f7 x1_0 x1_1 x1_2 x2_1 x3_0 x3_1 zt27 (0 : Int))
noncomputable def fulcrumref08_Copy.b7 (f3 : Dt26 → Int → Dt27 → Int → Dt26 → Int → Int → Option (Dt29 × Unit)) (f7 : Dt26 → Int → Dt27 → Int → Dt26 → Int → Dt27 → Int → Option (Dt29 × Unit)) (x1_0 : Dt26) (x1_1 : Int) (x1_2 : Dt27) (x2_1 : Int) (x3_0 : Dt26) (x3_1 : Int) (x3_2 : Dt27) (x5 : Int) : Option (Dt29 × Unit) :=
  let v1 := (List.length x1_2 : Int)
  let v2 := decide (x5 < v1)
  bif v2 then (bif decide (0 ≤ x5) && decide (x5 < (List.length x1_2 : Int)) then (let v3 := (List.getD x1_2 (Int.toNat x5) zt97).1
  let v4 := ((List.getD x1_2 (Int.toNat x5) zt97).2).1
  let v5 := (((List.getD x1_2 (Int.toNat x5) zt97).2).2).1
  let v6 := ((((List.getD x1_2 (Int.toNat x5) zt97).2).2).2).1
  let v7 := ((((((((List.getD x1_2 (Int.toNat x5) zt97).2).2).2).2).1).1).1).1
  let v8 := ((((((((List.getD x1_2 (Int.toNat x5) zt97).2).2).2).2).1).1).1).2
  let v9 := (((((((List.getD x1_2 (Int.toNat x5) zt97).2).2).2).2).1).1).2
  let v10 := ((((((((List.getD x1_2 (Int.toNat x5) zt97).2).2).2).2).1).2).1).1
  let v11 := ((((((((List.getD x1_2 (Int.toNat x5) zt97).2).2).2).2).1).2).1).2
  let v12 := (((((((List.getD x1_2 (Int.toNat x5) zt97).2).2).2).2).1).2).2
  let v13 := (((((List.getD x1_2 (Int.toNat x5) zt97).2).2).2).2).2
  (fulcrumref08_Bound.F ((v6, ((((v7, v8), v9), ((v10, v11), v12)), v13)), ())).bind fun y14 =>
  let v15 := ([(v3, (v4, (v5, (y14.1.1, ((((y14.1.2.1.1.1.1, y14.1.2.1.1.1.2), y14.1.2.1.1.2), ((y14.1.2.1.2.1.1, y14.1.2.1.2.1.2), y14.1.2.1.2.2)), y14.1.2.2)))))] : List Dt97)
  bif decide (List.length x3_2 + List.length v15 < 925904528653) then (let v16 := List.append x3_2 v15
  let v17 := IntKind.i64.wrap (x5 + (1 : Int))
  f7 x1_0 x1_1 x1_2 x2_1 x3_0 x3_1 v16 v17)
  else none)
  else none)
  else (some ((x3_0, (x3_1, x3_2)), ()))
noncomputable def fulcrumref08_Copy.e (f3 : Dt26 → Int → Dt27 → Int → Dt26 → Int → Int → Option (Dt29 × Unit)) (f7 : Dt26 → Int → Dt27 → Int → Dt26 → Int → Dt27 → Int → Option (Dt29 × Unit)) (a0 : Dt29) : Option (Dt29 × Unit) :=
  f3 a0.1 a0.2.1 a0.2.2 (0 : Int) zt26 a0.2.1 (0 : Int)
noncomputable def fulcrumref08_Copy.L3 (k : Nat) (x1_0 : Dt26) (x1_1 : Int) (x1_2 : Dt27) (x2_1 : Int) (x3_0 : Dt26) (x3_1 : Int) (x4 : Int) : Option (Dt29 × Unit) := heads (fulcrumref08_Copy.spec.env fulcrumref08_Copy.cals T Try.f32) (Func.pts Try.f32) k 3 (fulcrumref08_Copy.m3 x1_0 x1_1 x1_2 x2_1 x3_0 x3_1 x4)
noncomputable def fulcrumref08_Copy.L7 (k : Nat) (x1_0 : Dt26) (x1_1 : Int) (x1_2 : Dt27) (x2_1 : Int) (x3_0 : Dt26) (x3_1 : Int) (x3_2 : Dt27) (x5 : Int) : Option (Dt29 × Unit) := heads (fulcrumref08_Copy.spec.env fulcrumref08_Copy.cals T Try.f32) (Func.pts Try.f32) k 7 (fulcrumref08_Copy.m7 x1_0 x1_1 x1_2 x2_1 x3_0 x3_1 x3_2 x5)
theorem fulcrumref08_Copy.L3_succ (k : Nat) (x1_0 : Dt26) (x1_1 : Int) (x1_2 : Dt27) (x2_1 : Int) (x3_0 : Dt26) (x3_1 : Int) (x4 : Int) : fulcrumref08_Copy.L3 (k + 1) x1_0 x1_1 x1_2 x2_1 x3_0 x3_1 x4 = fulcrumref08_Copy.b3 (fulcrumref08_Copy.L3 k) (fulcrumref08_Copy.L7 k) x1_0 x1_1 x1_2 x2_1 x3_0 x3_1 x4 := by kernel_rfl
theorem fulcrumref08_Copy.L3_zero (x1_0 : Dt26) (x1_1 : Int) (x1_2 : Dt27) (x2_1 : Int) (x3_0 : Dt26) (x3_1 : Int) (x4 : Int) : fulcrumref08_Copy.L3 0 x1_0 x1_1 x1_2 x2_1 x3_0 x3_1 x4 = none := by kernel_rfl
theorem fulcrumref08_Copy.L7_succ (k : Nat) (x1_0 : Dt26) (x1_1 : Int) (x1_2 : Dt27) (x2_1 : Int) (x3_0 : Dt26) (x3_1 : Int) (x3_2 : Dt27) (x5 : Int) : fulcrumref08_Copy.L7 (k + 1) x1_0 x1_1 x1_2 x2_1 x3_0 x3_1 x3_2 x5 = fulcrumref08_Copy.b7 (fulcrumref08_Copy.L3 k) (fulcrumref08_Copy.L7 k) x1_0 x1_1 x1_2 x2_1 x3_0 x3_1 x3_2 x5 := by kernel_rfl
theorem fulcrumref08_Copy.L7_zero (x1_0 : Dt26) (x1_1 : Int) (x1_2 : Dt27) (x2_1 : Int) (x3_0 : Dt26) (x3_1 : Int) (x3_2 : Dt27) (x5 : Int) : fulcrumref08_Copy.L7 0 x1_0 x1_1 x1_2 x2_1 x3_0 x3_1 x3_2 x5 = none := by kernel_rfl
theorem fulcrumref08_Copy.eval (k : Nat) (a0 : Dt29) : evalF fulcrumref08_Copy.spec fulcrumref08_Copy.cals T Try.f32 k (a0, ()) = fulcrumref08_Copy.e (fulcrumref08_Copy.L3 k) (fulcrumref08_Copy.L7 k) a0 := by kernel_rfl
theorem fulcrumref08_Copy.F_eq (a0 : Dt29) : fulcrumref08_Copy.F (a0, ()) = limF fulcrumref08_Copy.spec fulcrumref08_Copy.cals T Try.f32 (a0, ()) := by kernel_rfl
theorem fulcrumref08_Copy.of (k : Nat) (a0 : Dt29) {y : Dt29 × Unit} (h : fulcrumref08_Copy.e (fulcrumref08_Copy.L3 k) (fulcrumref08_Copy.L7 k) a0 = some y) : fulcrumref08_Copy.F (a0, ()) = some y := (fulcrumref08_Copy.F_eq a0).trans (limF_of (q := fulcrumref08_Copy.spec) (C := fulcrumref08_Copy.cals) (T := T) (f := Try.f32) (x := (a0, ())) (y := y) k ((fulcrumref08_Copy.eval k a0).trans h))

/-! ### fulcrum/fulcrumref08.Grow -/
def fulcrumref08_Grow.spec : Spec := ⟨[(true, Kt29)], [(true, Kt29), (false, (.int .i64)), (false, (.int .i64))], .shared, fun j => match j with  | _ => []⟩
noncomputable def fulcrumref08_Grow.cals : Cals := (Cals.cons 32 fulcrumref08_Copy.sig (Cals.base tabs))
noncomputable def fulcrumref08_Grow.sig : Sig := fulcrumref08_Grow.spec.sig fulcrumref08_Grow.cals T Try.f11
noncomputable def fulcrumref08_Grow.F (x : Dt29 × Unit) : Option (Dt29 × Int × Int × Unit) := limF fulcrumref08_Grow.spec fulcrumref08_Grow.cals T Try.f11 x
theorem fulcrumref08_Grow.ck : CalsOk Try.prog fulcrumref08_Grow.cals := (CalsOk.cons fulcrumref08_Copy.cal (CalsOk.base tabsOk))
theorem fulcrumref08_Grow.cal : CalOk Try.prog tabs 11 fulcrumref08_Grow.sig := calOk_lim' tabOk fulcrumref08_Grow.ck mix Try.func11 (by kernel_rfl) (by kernel_rfl) (by kernel_rfl) (by kernel_rfl)
noncomputable def fulcrumref08_Grow.e  (a0 : Dt29) : Option (Dt29 × Int × Int × Unit) :=
  let v1 := (List.length a0.1 : Int)
  let v2 := decide (v1 ≥ (65536 : Int))
  bif v2 then (some ((a0.1, (a0.2.1, a0.2.2)), (0 : Int), (2 : Int), ()))
  else ((fulcrumref08_Copy.F ((a0.1, (a0.2.1, a0.2.2)), ())).bind fun y3 =>
  let v4 := ([zt55] : List Dt55)
  bif decide (List.length y3.1.1 + List.length v4 < 549755813888) then (let v5 := List.append y3.1.1 v4
  let v6 := (List.length a0.1 : Int)
  some ((v5, (y3.1.2.1, y3.1.2.2)), v6, (0 : Int), ()))
  else none)
theorem fulcrumref08_Grow.eval (k : Nat) (a0 : Dt29) : evalF fulcrumref08_Grow.spec fulcrumref08_Grow.cals T Try.f11 k (a0, ()) = fulcrumref08_Grow.e  a0 := by kernel_rfl
theorem fulcrumref08_Grow.F_eq (a0 : Dt29) : fulcrumref08_Grow.F (a0, ()) = limF fulcrumref08_Grow.spec fulcrumref08_Grow.cals T Try.f11 (a0, ()) := by kernel_rfl
theorem fulcrumref08_Grow.of (k : Nat) (a0 : Dt29) {y : Dt29 × Int × Int × Unit} (h : fulcrumref08_Grow.e  a0 = some y) : fulcrumref08_Grow.F (a0, ()) = some y := (fulcrumref08_Grow.F_eq a0).trans (limF_of (q := fulcrumref08_Grow.spec) (C := fulcrumref08_Grow.cals) (T := T) (f := Try.f11) (x := (a0, ())) (y := y) k ((fulcrumref08_Grow.eval k a0).trans h))

/-! ### (*fulcrum/bounds.Store).Push -/
def bounds_Store_Push.spec : XSpec := ⟨some ⟨75, 0, Kt75, 0⟩, false, [], false, none, [], false, fun j => match j with  | _ => []⟩
noncomputable def bounds_Store_Push.cals : Cals := (Cals.consX 31 false bounds_Store_is.sig (Cals.base tabs))
noncomputable def bounds_Store_Push.sig : XSig := bounds_Store_Push.spec.sig bounds_Store_Push.cals T Try.f21
noncomputable def bounds_Store_Push.F (d : Dt75) (x : Unit) : Option (Unit × (Unit) × Dt75) := limX bounds_Store_Push.spec bounds_Store_Push.cals T Try.f21 d x
theorem bounds_Store_Push.ck : CalsOk Try.prog bounds_Store_Push.cals := (CalsOk.consX bounds_Store_is.cal (CalsOk.base tabsOk))
theorem bounds_Store_Push.cal : XOk Try.prog tabs 21 bounds_Store_Push.sig := xok_of tabOk bounds_Store_Push.ck mix Try.func21 (by kernel_rfl) (by kernel_rfl) (by kernel_rfl) (by kernel_rfl)
noncomputable def bounds_Store_Push.e  (G : Gh) (d : Dt75)  : Option ((Unit × (Unit) × Dt75) × Nat × List Value) :=
  (bounds_Store_is.F ((d.1.1, d.1.2), (d.2.1, d.2.2)) ()).bind fun y1 =>
  bif y1.2.1.1 then (let v2 := IntKind.i64.wrap (y1.2.2.1.1 + (1 : Int))
  some (((), (), ((v2, y1.2.2.1.2), (y1.2.2.2.1, y1.2.2.2.2))), G.b, []))
  else (some (((), (), ((y1.2.2.1.1, y1.2.2.1.2), (y1.2.2.2.1, y1.2.2.2.2))), G.b, []))
theorem bounds_Store_Push.eval (k : Nat) (G : Gh) (d : Dt75)  : evalX bounds_Store_Push.spec bounds_Store_Push.cals T Try.f21 k G d () = bounds_Store_Push.e  G d  := by kernel_rfl
theorem bounds_Store_Push.of (d : Dt75)  (y : (Unit × (Unit) × Dt75)) (h : ∀ G : Gh, ∃ k : Nat, bounds_Store_Push.e  G d  = some (y, (G.b, []))) : bounds_Store_Push.F d () = some y := limX_of (q := bounds_Store_Push.spec) (C := bounds_Store_Push.cals) (T := T) (f := Try.f21) (d := d) (x := ()) y fun G => (h G).imp fun k hk => (bounds_Store_Push.eval k G d ).trans hk

/-! ### (*fulcrum/bounds.trail).last -/
def bounds_trail_last.spec : XSpec := ⟨some ⟨75, 0, Kt73, 2⟩, false, [(false, (.int .i64))], false, none, [(true, Kt97), (false, .bool)], false, fun j => match j with  | _ => []⟩
noncomputable def bounds_trail_last.cals : Cals := (Cals.base tabs)
noncomputable def bounds_trail_last.sig : XSig := bounds_trail_last.spec.sig bounds_trail_last.cals T Try.f42
noncomputable def bounds_trail_last.F (d : Dt73) (x : Int × Unit) : Option (Unit × (Dt97 × Bool × Unit) × Dt73) := limX bounds_trail_last.spec bounds_trail_last.cals T Try.f42 d x
theorem bounds_trail_last.ck : CalsOk Try.prog bounds_trail_last.cals := (CalsOk.base tabsOk)
theorem bounds_trail_last.cal : XOk Try.prog tabs 42 bounds_trail_last.sig := xok_of tabOk bounds_trail_last.ck mix Try.func42 (by kernel_rfl) (by kernel_rfl) (by kernel_rfl) (by kernel_rfl)
noncomputable def bounds_trail_last.e  (G : Gh) (d : Dt73) (a0 : Int) : Option ((Unit × (Dt97 × Bool × Unit) × Dt73) × Nat × List Value) :=
  let v1 := (List.length d.2 : Int)
  let v2 := IntKind.i64.wrap (v1 - (1 : Int))
  let v3 := decide (v2 < (0 : Int))
  bif v3 then (some (((), (zt97, false, ()), (d.1, d.2)), G.b, [G.v 0, G.v 1]))
  else (bif decide (0 ≤ v2) && decide (v2 < (List.length d.2 : Int)) then (let v4 := (((List.getD d.2 (Int.toNat v2) zt97).2).2).1
  let v5 := decide (v4 ≤ a0)
  bif v5 then (some (((), (zt97, false, ()), (d.1, d.2)), G.b, [G.v 0, G.v 1]))
  else (bif decide (0 ≤ v2) && decide (v2 < (List.length d.2 : Int)) then (let v6 := (List.getD d.2 (Int.toNat v2) zt97).1
  let v7 := ((List.getD d.2 (Int.toNat v2) zt97).2).1
  let v8 := (((List.getD d.2 (Int.toNat v2) zt97).2).2).1
  let v9 := ((((List.getD d.2 (Int.toNat v2) zt97).2).2).2).1
  let v10 := ((((((((List.getD d.2 (Int.toNat v2) zt97).2).2).2).2).1).1).1).1
  let v11 := ((((((((List.getD d.2 (Int.toNat v2) zt97).2).2).2).2).1).1).1).2
  let v12 := (((((((List.getD d.2 (Int.toNat v2) zt97).2).2).2).2).1).1).2
  let v13 := ((((((((List.getD d.2 (Int.toNat v2) zt97).2).2).2).2).1).2).1).1
  let v14 := ((((((((List.getD d.2 (Int.toNat v2) zt97).2).2).2).2).1).2).1).2
  let v15 := (((((((List.getD d.2 (Int.toNat v2) zt97).2).2).2).2).1).2).2
  let v16 := (((((List.getD d.2 (Int.toNat v2) zt97).2).2).2).2).2
  bif decide (0 ≤ v2) && decide (v2 ≤ (List.length d.2 : Int)) then (let v17 := List.take (Int.toNat v2) d.2
  some (((), ((v6, (v7, (v8, (v9, ((((v10, v11), v12), ((v13, v14), v15)), v16))))), true, ()), (d.1, v17)), G.b, [G.v 0, G.v 1]))
  else none)
  else none))
  else none)
theorem bounds_trail_last.eval (k : Nat) (G : Gh) (d : Dt73) (a0 : Int) : evalX bounds_trail_last.spec bounds_trail_last.cals T Try.f42 k G d (a0, ()) = bounds_trail_last.e  G d a0 := by kernel_rfl
theorem bounds_trail_last.of (d : Dt73) (a0 : Int) (y : (Unit × (Dt97 × Bool × Unit) × Dt73)) (h : ∀ G : Gh, ∃ k : Nat, bounds_trail_last.e  G d a0 = some (y, (G.b, [G.v 0, G.v 1]))) : bounds_trail_last.F d (a0, ()) = some y := limX_of (q := bounds_trail_last.spec) (C := bounds_trail_last.cals) (T := T) (f := Try.f42) (d := d) (x := (a0, ())) y fun G => (h G).imp fun k hk => (bounds_trail_last.eval k G d a0).trans hk

/-! ### (*fulcrum/bounds.Store).Back -/
def bounds_Store_Back.spec : XSpec := ⟨some ⟨75, 0, Kt75, 0⟩, false, [(false, (.int .i64))], false, none, [(false, (.int .i64))], false, fun j => match j with | 6 => [(0, .pbox 75 [.v true, .o 97 Kt97 true, .v true, .o 55 Kt55 true]), (1, .lf (.v true)), (5, .box 97 [.v true, .v true, .v true, .v true, .v true, .z 115 (.int .u32) true, .z 115 (.int .u32) true, .v true, .z 115 (.int .u32) true, .z 115 (.int .u32) true, .v true]), (6, .lf (.v true))] | _ => []⟩
noncomputable def bounds_Store_Back.cals : Cals := (Cals.consX 31 false bounds_Store_is.sig (Cals.consX 42 false bounds_trail_last.sig (Cals.base tabs)))
noncomputable def bounds_Store_Back.sig : XSig := bounds_Store_Back.spec.sig bounds_Store_Back.cals T Try.f23
noncomputable def bounds_Store_Back.F (d : Dt75) (x : Int × Unit) : Option (Unit × (Int × Unit) × Dt75) := limX bounds_Store_Back.spec bounds_Store_Back.cals T Try.f23 d x
theorem bounds_Store_Back.ck : CalsOk Try.prog bounds_Store_Back.cals := (CalsOk.consX bounds_Store_is.cal (CalsOk.consX bounds_trail_last.cal (CalsOk.base tabsOk)))
theorem bounds_Store_Back.cal : XOk Try.prog tabs 23 bounds_Store_Back.sig := xok_of tabOk bounds_Store_Back.ck mix Try.func23 (by kernel_rfl) (by kernel_rfl) (by kernel_rfl) (by kernel_rfl)
def bounds_Store_Back.m6 (x0_g : Nat) (x0_0 : Int) (x0_1 : Dt27) (x0_2 : Bool) (x0_3 : Dt26) (x1 : Int) (x5_0 : Int) (x5_1 : Bool) (x5_2 : Int) (x5_3 : Bool) (x5_4 : Bool) (x5_5 : Dt41) (x5_6 : Dt41) (x5_7 : Bool) (x5_8 : Dt41) (x5_9 : Dt41) (x5_10 : Int) (x6 : Bool) : S := ⟨[(0, .pbox 0 0 x0_g), (1, .one (.lf (.val true (.int .i64) x1))), (5, .box 1 0), (6, .one (.lf (.val true .bool x6)))], ⟨[some ⟨97, Kt97, true, true, x0_1⟩, some ⟨55, Kt55, true, true, x0_3⟩], [some ⟨75, [.val true (.int .i64) x0_0, .own 0, .val true .bool x0_2, .own 1]⟩, some ⟨97, [.val true (.int .i64) x5_0, .val true .bool x5_1, .val true (.int .i64) x5_2, .val true .bool x5_3, .val true .bool x5_4, .val true Kt41 x5_5, .val true Kt41 x5_6, .val true .bool x5_7, .val true Kt41 x5_8, .val true Kt41 x5_9, .val true (.int .i64) x5_10]⟩]⟩⟩
noncomputable def bounds_Store_Back.b6 (f6 : Nat → Int → Dt27 → Bool → Dt26 → Int → Int → Bool → Int → Bool → Bool → Dt41 → Dt41 → Bool → Dt41 → Dt41 → Int → Bool → Option ((Unit × (Int × Unit) × Dt75) × Nat × List Value)) (x0_g : Nat) (x0_0 : Int) (x0_1 : Dt27) (x0_2 : Bool) (x0_3 : Dt26) (x1 : Int) (x5_0 : Int) (x5_1 : Bool) (x5_2 : Int) (x5_3 : Bool) (x5_4 : Bool) (x5_5 : Dt41) (x5_6 : Dt41) (x5_7 : Bool) (x5_8 : Dt41) (x5_9 : Dt41) (x5_10 : Int) (x6 : Bool) : Option ((Unit × (Int × Unit) × Dt75) × Nat × List Value) :=
  bif x6 then (bif x5_1 then (bif decide (0 ≤ x5_0) && decide (x5_0 < (List.length x0_3 : Int)) then (let v1 := List.set x0_3 (Int.toNat x5_0) ((((List.getD x0_3 (Int.toNat x5_0) zt55).1).1, ((((((((((List.getD x0_3 (Int.toNat x5_0) zt55).1).2).1).1).1).1, ((((((List.getD x0_3 (Int.toNat x5_0) zt55).1).2).1).1).1).2), (((((List.getD x0_3 (Int.toNat x5_0) zt55).1).2).1).1).2), ((((((((List.getD x0_3 (Int.toNat x5_0) zt55).1).2).1).2).1).1, ((((((List.getD x0_3 (Int.toNat x5_0) zt55).1).2).1).2).1).2), (((((List.getD x0_3 (Int.toNat x5_0) zt55).1).2).1).2).2)), (((List.getD x0_3 (Int.toNat x5_0) zt55).1).2).2)), (x5_3, ((((x5_4, x5_5), x5_6), ((x5_7, x5_8), x5_9)), x5_10)))
  (bounds_trail_last.F (x0_0, x0_1) (x1, ())).bind fun y2 =>
  f6 x0_g y2.2.2.1 y2.2.2.2 x0_2 v1 x1 y2.2.1.1.1 y2.2.1.1.2.1 y2.2.1.1.2.2.1 y2.2.1.1.2.2.2.1 y2.2.1.1.2.2.2.2.1.1.1.1 y2.2.1.1.2.2.2.2.1.1.1.2 y2.2.1.1.2.2.2.2.1.1.2 y2.2.1.1.2.2.2.2.1.2.1.1 y2.2.1.1.2.2.2.2.1.2.1.2 y2.2.1.1.2.2.2.2.1.2.2 y2.2.1.1.2.2.2.2.2 y2.2.1.2.1)
  else none)
  else (bif decide (0 ≤ x5_0) && decide (x5_0 < (List.length x0_3 : Int)) then (let v3 := List.set x0_3 (Int.toNat x5_0) ((x5_3, ((((x5_4, x5_5), x5_6), ((x5_7, x5_8), x5_9)), x5_10)), (((List.getD x0_3 (Int.toNat x5_0) zt55).2).1, ((((((((((List.getD x0_3 (Int.toNat x5_0) zt55).2).2).1).1).1).1, ((((((List.getD x0_3 (Int.toNat x5_0) zt55).2).2).1).1).1).2), (((((List.getD x0_3 (Int.toNat x5_0) zt55).2).2).1).1).2), ((((((((List.getD x0_3 (Int.toNat x5_0) zt55).2).2).1).2).1).1, ((((((List.getD x0_3 (Int.toNat x5_0) zt55).2).2).1).2).1).2), (((((List.getD x0_3 (Int.toNat x5_0) zt55).2).2).1).2).2)), (((List.getD x0_3 (Int.toNat x5_0) zt55).2).2).2)))
  (bounds_trail_last.F (x0_0, x0_1) (x1, ())).bind fun y4 =>
  f6 x0_g y4.2.2.1 y4.2.2.2 x0_2 v3 x1 y4.2.1.1.1 y4.2.1.1.2.1 y4.2.1.1.2.2.1 y4.2.1.1.2.2.2.1 y4.2.1.1.2.2.2.2.1.1.1.1 y4.2.1.1.2.2.2.2.1.1.1.2 y4.2.1.1.2.2.2.2.1.1.2 y4.2.1.1.2.2.2.2.1.2.1.1 y4.2.1.1.2.2.2.2.1.2.1.2 y4.2.1.1.2.2.2.2.1.2.2 y4.2.1.1.2.2.2.2.2 y4.2.1.2.1)
  else none))
  else (some (((), ((0 : Int), ()), ((x1, x0_1), (x0_2, x0_3))), x0_g, []))
noncomputable def bounds_Store_Back.e (f6 : Nat → Int → Dt27 → Bool → Dt26 → Int → Int → Bool → Int → Bool → Bool → Dt41 → Dt41 → Bool → Dt41 → Dt41 → Int → Bool → Option ((Unit × (Int × Unit) × Dt75) × Nat × List Value)) (G : Gh) (d : Dt75) (a0 : Int) : Option ((Unit × (Int × Unit) × Dt75) × Nat × List Value) :=
  (bounds_Store_is.F ((d.1.1, d.1.2), (d.2.1, d.2.2)) ()).bind fun y1 =>
  let v2 := not y1.2.1.1
  bif v2 then (some (((), ((1 : Int), ()), ((y1.2.2.1.1, y1.2.2.1.2), (y1.2.2.2.1, y1.2.2.2.2))), G.b, []))
  else (let v3 := decide (a0 < (0 : Int))
  bif v3 then (some (((), ((80 : Int), ()), ((y1.2.2.1.1, y1.2.2.1.2), (y1.2.2.2.1, y1.2.2.2.2))), G.b, []))
  else (let v4 := decide (a0 > y1.2.2.1.1)
  bif v4 then (some (((), ((80 : Int), ()), ((y1.2.2.1.1, y1.2.2.1.2), (y1.2.2.2.1, y1.2.2.2.2))), G.b, []))
  else ((bounds_trail_last.F (y1.2.2.1.1, y1.2.2.1.2) (a0, ())).bind fun y5 =>
  f6 G.b y5.2.2.1 y5.2.2.2 y1.2.2.2.1 y1.2.2.2.2 a0 y5.2.1.1.1 y5.2.1.1.2.1 y5.2.1.1.2.2.1 y5.2.1.1.2.2.2.1 y5.2.1.1.2.2.2.2.1.1.1.1 y5.2.1.1.2.2.2.2.1.1.1.2 y5.2.1.1.2.2.2.2.1.1.2 y5.2.1.1.2.2.2.2.1.2.1.1 y5.2.1.1.2.2.2.2.1.2.1.2 y5.2.1.1.2.2.2.2.1.2.2 y5.2.1.1.2.2.2.2.2 y5.2.1.2.1)))
noncomputable def bounds_Store_Back.L6 (k : Nat) (x0_g : Nat) (x0_0 : Int) (x0_1 : Dt27) (x0_2 : Bool) (x0_3 : Dt26) (x1 : Int) (x5_0 : Int) (x5_1 : Bool) (x5_2 : Int) (x5_3 : Bool) (x5_4 : Bool) (x5_5 : Dt41) (x5_6 : Dt41) (x5_7 : Bool) (x5_8 : Dt41) (x5_9 : Dt41) (x5_10 : Int) (x6 : Bool) : Option ((Unit × (Int × Unit) × Dt75) × Nat × List Value) := heads (bounds_Store_Back.spec.env bounds_Store_Back.cals T Try.f23) (Func.pts Try.f23) k 6 (bounds_Store_Back.m6 x0_g x0_0 x0_1 x0_2 x0_3 x1 x5_0 x5_1 x5_2 x5_3 x5_4 x5_5 x5_6 x5_7 x5_8 x5_9 x5_10 x6)
theorem bounds_Store_Back.L6_succ (k : Nat) (x0_g : Nat) (x0_0 : Int) (x0_1 : Dt27) (x0_2 : Bool) (x0_3 : Dt26) (x1 : Int) (x5_0 : Int) (x5_1 : Bool) (x5_2 : Int) (x5_3 : Bool) (x5_4 : Bool) (x5_5 : Dt41) (x5_6 : Dt41) (x5_7 : Bool) (x5_8 : Dt41) (x5_9 : Dt41) (x5_10 : Int) (x6 : Bool) : bounds_Store_Back.L6 (k + 1) x0_g x0_0 x0_1 x0_2 x0_3 x1 x5_0 x5_1 x5_2 x5_3 x5_4 x5_5 x5_6 x5_7 x5_8 x5_9 x5_10 x6 = bounds_Store_Back.b6 (bounds_Store_Back.L6 k) x0_g x0_0 x0_1 x0_2 x0_3 x1 x5_0 x5_1 x5_2 x5_3 x5_4 x5_5 x5_6 x5_7 x5_8 x5_9 x5_10 x6 := by kernel_rfl
theorem bounds_Store_Back.L6_zero (x0_g : Nat) (x0_0 : Int) (x0_1 : Dt27) (x0_2 : Bool) (x0_3 : Dt26) (x1 : Int) (x5_0 : Int) (x5_1 : Bool) (x5_2 : Int) (x5_3 : Bool) (x5_4 : Bool) (x5_5 : Dt41) (x5_6 : Dt41) (x5_7 : Bool) (x5_8 : Dt41) (x5_9 : Dt41) (x5_10 : Int) (x6 : Bool) : bounds_Store_Back.L6 0 x0_g x0_0 x0_1 x0_2 x0_3 x1 x5_0 x5_1 x5_2 x5_3 x5_4 x5_5 x5_6 x5_7 x5_8 x5_9 x5_10 x6 = none := by kernel_rfl
theorem bounds_Store_Back.eval (k : Nat) (G : Gh) (d : Dt75) (a0 : Int) : evalX bounds_Store_Back.spec bounds_Store_Back.cals T Try.f23 k G d (a0, ()) = bounds_Store_Back.e (bounds_Store_Back.L6 k) G d a0 := by kernel_rfl
theorem bounds_Store_Back.of (d : Dt75) (a0 : Int) (y : (Unit × (Int × Unit) × Dt75)) (h : ∀ G : Gh, ∃ k : Nat, bounds_Store_Back.e (bounds_Store_Back.L6 k) G d a0 = some (y, (G.b, []))) : bounds_Store_Back.F d (a0, ()) = some y := limX_of (q := bounds_Store_Back.spec) (C := bounds_Store_Back.cals) (T := T) (f := Try.f23) (d := d) (x := (a0, ())) y fun G => (h G).imp fun k hk => (bounds_Store_Back.eval k G d a0).trans hk

/-! ### fulcrum/fulcrumref08.Is -/
def fulcrumref08_Is.spec : Spec := ⟨[(true, Kt29), (false, (.int .i64))], [(false, .bool)], .own, fun j => match j with  | _ => []⟩
noncomputable def fulcrumref08_Is.cals : Cals := (Cals.base tabs)
noncomputable def fulcrumref08_Is.sig : Sig := fulcrumref08_Is.spec.sig fulcrumref08_Is.cals T Try.f64
noncomputable def fulcrumref08_Is.F (x : Dt29 × Int × Unit) : Option (Bool × Unit) := limF fulcrumref08_Is.spec fulcrumref08_Is.cals T Try.f64 x
theorem fulcrumref08_Is.ck : CalsOk Try.prog fulcrumref08_Is.cals := (CalsOk.base tabsOk)
theorem fulcrumref08_Is.cal : CalOk Try.prog tabs 64 fulcrumref08_Is.sig := calOk_lim' tabOk fulcrumref08_Is.ck mix Try.func64 (by kernel_rfl) (by kernel_rfl) (by kernel_rfl) (by kernel_rfl)
noncomputable def fulcrumref08_Is.e  (a0 : Dt29) (a1 : Int) : Option (Bool × Unit) :=
  let v1 := decide (a1 ≥ (0 : Int))
  bif v1 then (let v2 := (List.length a0.1 : Int)
  let v3 := decide (a1 < v2)
  some (v3, ()))
  else (some (false, ()))
theorem fulcrumref08_Is.eval (k : Nat) (a0 : Dt29) (a1 : Int) : evalF fulcrumref08_Is.spec fulcrumref08_Is.cals T Try.f64 k (a0, a1, ()) = fulcrumref08_Is.e  a0 a1 := by kernel_rfl
theorem fulcrumref08_Is.F_eq (a0 : Dt29) (a1 : Int) : fulcrumref08_Is.F (a0, a1, ()) = limF fulcrumref08_Is.spec fulcrumref08_Is.cals T Try.f64 (a0, a1, ()) := by kernel_rfl
theorem fulcrumref08_Is.of (k : Nat) (a0 : Dt29) (a1 : Int) {y : Bool × Unit} (h : fulcrumref08_Is.e  a0 a1 = some y) : fulcrumref08_Is.F (a0, a1, ()) = some y := (fulcrumref08_Is.F_eq a0 a1).trans (limF_of (q := fulcrumref08_Is.spec) (C := fulcrumref08_Is.cals) (T := T) (f := Try.f64) (x := (a0, a1, ())) (y := y) k ((fulcrumref08_Is.eval k a0 a1).trans h))

/-! ### fulcrum/fulcrumref08.tighter -/
def fulcrumref08_tighter.spec : Spec := ⟨[(false, .bool), (true, Kt47), (true, Kt47)], [(false, .bool)], .own, fun j => match j with  | _ => []⟩
noncomputable def fulcrumref08_tighter.cals : Cals := (Cals.cons 17 fulcrumref05_Cmp.sig (Cals.base tabs))
noncomputable def fulcrumref08_tighter.sig : Sig := fulcrumref08_tighter.spec.sig fulcrumref08_tighter.cals T Try.f65
noncomputable def fulcrumref08_tighter.F (x : Bool × Dt47 × Dt47 × Unit) : Option (Bool × Unit) := limF fulcrumref08_tighter.spec fulcrumref08_tighter.cals T Try.f65 x
theorem fulcrumref08_tighter.ck : CalsOk Try.prog fulcrumref08_tighter.cals := (CalsOk.cons fulcrumref05_Cmp.cal (CalsOk.base tabsOk))
theorem fulcrumref08_tighter.cal : CalOk Try.prog tabs 65 fulcrumref08_tighter.sig := calOk_lim' tabOk fulcrumref08_tighter.ck mix Try.func65 (by kernel_rfl) (by kernel_rfl) (by kernel_rfl) (by kernel_rfl)
noncomputable def fulcrumref08_tighter.e  (a0 : Bool) (a1 : Dt47) (a2 : Dt47) : Option (Bool × Unit) :=
  bif a0 then ((fulcrumref05_Cmp.F ((((a1.1.1.1, a1.1.1.2), a1.1.2), ((a1.2.1.1, a1.2.1.2), a1.2.2)), (((a2.1.1.1, a2.1.1.2), a2.1.2), ((a2.2.1.1, a2.2.1.2), a2.2.2)), ())).bind fun y1 =>
  let v2 := decide (y1.1 < (0 : Int))
  some (v2, ()))
  else ((fulcrumref05_Cmp.F ((((a1.1.1.1, a1.1.1.2), a1.1.2), ((a1.2.1.1, a1.2.1.2), a1.2.2)), (((a2.1.1.1, a2.1.1.2), a2.1.2), ((a2.2.1.1, a2.2.1.2), a2.2.2)), ())).bind fun y3 =>
  let v4 := decide (y3.1 > (0 : Int))
  some (v4, ()))
theorem fulcrumref08_tighter.eval (k : Nat) (a0 : Bool) (a1 : Dt47) (a2 : Dt47) : evalF fulcrumref08_tighter.spec fulcrumref08_tighter.cals T Try.f65 k (a0, a1, a2, ()) = fulcrumref08_tighter.e  a0 a1 a2 := by kernel_rfl
theorem fulcrumref08_tighter.F_eq (a0 : Bool) (a1 : Dt47) (a2 : Dt47) : fulcrumref08_tighter.F (a0, a1, a2, ()) = limF fulcrumref08_tighter.spec fulcrumref08_tighter.cals T Try.f65 (a0, a1, a2, ()) := by kernel_rfl
theorem fulcrumref08_tighter.of (k : Nat) (a0 : Bool) (a1 : Dt47) (a2 : Dt47) {y : Bool × Unit} (h : fulcrumref08_tighter.e  a0 a1 a2 = some y) : fulcrumref08_tighter.F (a0, a1, a2, ()) = some y := (fulcrumref08_tighter.F_eq a0 a1 a2).trans (limF_of (q := fulcrumref08_tighter.spec) (C := fulcrumref08_tighter.cals) (T := T) (f := Try.f65) (x := (a0, a1, a2, ())) (y := y) k ((fulcrumref08_tighter.eval k a0 a1 a2).trans h))

/-! ### fulcrum/fulcrumref08.Assert -/
def fulcrumref08_Assert.spec : Spec := ⟨[(true, Kt29), (false, (.int .i64)), (false, .bool), (true, Kt47), (false, (.int .i64))], [(true, Kt29), (true, Kt64), (false, (.int .i64))], .shared, fun j => match j with  | _ => []⟩
noncomputable def fulcrumref08_Assert.cals : Cals := (Cals.cons 64 fulcrumref08_Is.sig (Cals.cons 65 fulcrumref08_tighter.sig (Cals.cons 32 fulcrumref08_Copy.sig (Cals.cons 59 fulcrumref05_Norm.sig (Cals.base tabs)))))
noncomputable def fulcrumref08_Assert.sig : Sig := fulcrumref08_Assert.spec.sig fulcrumref08_Assert.cals T Try.f53
noncomputable def fulcrumref08_Assert.F (x : Dt29 × Int × Bool × Dt47 × Int × Unit) : Option (Dt29 × Dt64 × Int × Unit) := limF fulcrumref08_Assert.spec fulcrumref08_Assert.cals T Try.f53 x
theorem fulcrumref08_Assert.ck : CalsOk Try.prog fulcrumref08_Assert.cals := (CalsOk.cons fulcrumref08_Is.cal (CalsOk.cons fulcrumref08_tighter.cal (CalsOk.cons fulcrumref08_Copy.cal (CalsOk.cons fulcrumref05_Norm.cal (CalsOk.base tabsOk)))))
theorem fulcrumref08_Assert.cal : CalOk Try.prog tabs 53 fulcrumref08_Assert.sig := calOk_lim' tabOk fulcrumref08_Assert.ck mix Try.func53 (by kernel_rfl) (by kernel_rfl) (by kernel_rfl) (by kernel_rfl)
noncomputable def fulcrumref08_Assert.e  (a0 : Dt29) (a1 : Int) (a2 : Bool) (a3 : Dt47) (a4 : Int) : Option (Dt29 × Dt64 × Int × Unit) :=
  (fulcrumref08_Is.F ((a0.1, (a0.2.1, a0.2.2)), a1, ())).bind fun y1 =>
  let v2 := not y1.1
  bif v2 then (some ((a0.1, (a0.2.1, a0.2.2)), zt64, (61 : Int), ()))
  else (bif decide (0 ≤ a1) && decide (a1 < (List.length a0.1 : Int)) then (let v3 := ((List.getD a0.1 (Int.toNat a1) zt55).1).1
  let v4 := ((((((List.getD a0.1 (Int.toNat a1) zt55).1).2).1).1).1).1
  let v5 := ((((((List.getD a0.1 (Int.toNat a1) zt55).1).2).1).1).1).2
  let v6 := (((((List.getD a0.1 (Int.toNat a1) zt55).1).2).1).1).2
  let v7 := ((((((List.getD a0.1 (Int.toNat a1) zt55).1).2).1).2).1).1
  let v8 := ((((((List.getD a0.1 (Int.toNat a1) zt55).1).2).1).2).1).2
  let v9 := (((((List.getD a0.1 (Int.toNat a1) zt55).1).2).1).2).2
  let v10 := (((List.getD a0.1 (Int.toNat a1) zt55).1).2).2
  bif decide (0 ≤ a1) && decide (a1 < (List.length a0.1 : Int)) then (let v11 := ((List.getD a0.1 (Int.toNat a1) zt55).2).1
  let v12 := ((((((List.getD a0.1 (Int.toNat a1) zt55).2).2).1).1).1).1
  let v13 := ((((((List.getD a0.1 (Int.toNat a1) zt55).2).2).1).1).1).2
  let v14 := (((((List.getD a0.1 (Int.toNat a1) zt55).2).2).1).1).2
  let v15 := ((((((List.getD a0.1 (Int.toNat a1) zt55).2).2).1).2).1).1
  let v16 := ((((((List.getD a0.1 (Int.toNat a1) zt55).2).2).1).2).1).2
  let v17 := (((((List.getD a0.1 (Int.toNat a1) zt55).2).2).1).2).2
  let v18 := (((List.getD a0.1 (Int.toNat a1) zt55).2).2).2
  bif a2 then (bif v11 then ((fulcrumref08_tighter.F (a2, (((a3.1.1.1, a3.1.1.2), a3.1.2), ((a3.2.1.1, a3.2.1.2), a3.2.2)), (((v12, v13), v14), ((v15, v16), v17)), ())).bind fun y19 =>
  let v20 := not y19.1
  bif v20 then (some ((a0.1, (a0.2.1, a0.2.2)), zt64, (0 : Int), ()))
  else (bif v3 then ((fulcrumref08_tighter.F (a2, (((a3.1.1.1, a3.1.1.2), a3.1.2), ((a3.2.1.1, a3.2.1.2), a3.2.2)), (((v4, v5), v6), ((v7, v8), v9)), ())).bind fun y21 =>
  bif y21.1 then (some ((a0.1, (a0.2.1, a0.2.2)), ((2 : Int), v10), (0 : Int), ()))
  else ((fulcrumref08_Copy.F ((a0.1, (a0.2.1, a0.2.2)), ())).bind fun y22 =>
  let v23 := ([(a1, (a2, (a0.2.1, (v11, ((((v12, v13), v14), ((v15, v16), v17)), v18)))))] : List Dt97)
  bif decide (List.length y22.1.2.2 + List.length v23 < 925904528653) then (let v24 := List.append y22.1.2.2 v23
  (fulcrumref05_Norm.F ((((a3.1.1.1, a3.1.1.2), a3.1.2), ((a3.2.1.1, a3.2.1.2), a3.2.2)), ())).bind fun y25 =>
  bif a2 then (bif decide (0 ≤ a1) && decide (a1 < (List.length y22.1.1 : Int)) then (let v26 := List.set y22.1.1 (Int.toNat a1) ((((List.getD y22.1.1 (Int.toNat a1) zt55).1).1, ((((((((((List.getD y22.1.1 (Int.toNat a1) zt55).1).2).1).1).1).1, ((((((List.getD y22.1.1 (Int.toNat a1) zt55).1).2).1).1).1).2), (((((List.getD y22.1.1 (Int.toNat a1) zt55).1).2).1).1).2), ((((((((List.getD y22.1.1 (Int.toNat a1) zt55).1).2).1).2).1).1, ((((((List.getD y22.1.1 (Int.toNat a1) zt55).1).2).1).2).1).2), (((((List.getD y22.1.1 (Int.toNat a1) zt55).1).2).1).2).2)), (((List.getD y22.1.1 (Int.toNat a1) zt55).1).2).2)), (true, ((((y25.1.1.1.1, y25.1.1.1.2), y25.1.1.2), ((y25.1.2.1.1, y25.1.2.1.2), y25.1.2.2)), a4)))
  some ((v26, (y22.1.2.1, v24)), ((1 : Int), (0 : Int)), (0 : Int), ()))
  else none)
  else (bif decide (0 ≤ a1) && decide (a1 < (List.length y22.1.1 : Int)) then (let v27 := List.set y22.1.1 (Int.toNat a1) ((true, ((((y25.1.1.1.1, y25.1.1.1.2), y25.1.1.2), ((y25.1.2.1.1, y25.1.2.1.2), y25.1.2.2)), a4)), (((List.getD y22.1.1 (Int.toNat a1) zt55).2).1, ((((((((((List.getD y22.1.1 (Int.toNat a1) zt55).2).2).1).1).1).1, ((((((List.getD y22.1.1 (Int.toNat a1) zt55).2).2).1).1).1).2), (((((List.getD y22.1.1 (Int.toNat a1) zt55).2).2).1).1).2), ((((((((List.getD y22.1.1 (Int.toNat a1) zt55).2).2).1).2).1).1, ((((((List.getD y22.1.1 (Int.toNat a1) zt55).2).2).1).2).1).2), (((((List.getD y22.1.1 (Int.toNat a1) zt55).2).2).1).2).2)), (((List.getD y22.1.1 (Int.toNat a1) zt55).2).2).2)))
  some ((v27, (y22.1.2.1, v24)), ((1 : Int), (0 : Int)), (0 : Int), ()))
  else none))
  else none))
  else ((fulcrumref08_Copy.F ((a0.1, (a0.2.1, a0.2.2)), ())).bind fun y28 =>
  let v29 := ([(a1, (a2, (a0.2.1, (v11, ((((v12, v13), v14), ((v15, v16), v17)), v18)))))] : List Dt97)
  bif decide (List.length y28.1.2.2 + List.length v29 < 925904528653) then (let v30 := List.append y28.1.2.2 v29
  (fulcrumref05_Norm.F ((((a3.1.1.1, a3.1.1.2), a3.1.2), ((a3.2.1.1, a3.2.1.2), a3.2.2)), ())).bind fun y31 =>
  bif a2 then (bif decide (0 ≤ a1) && decide (a1 < (List.length y28.1.1 : Int)) then (let v32 := List.set y28.1.1 (Int.toNat a1) ((((List.getD y28.1.1 (Int.toNat a1) zt55).1).1, ((((((((((List.getD y28.1.1 (Int.toNat a1) zt55).1).2).1).1).1).1, ((((((List.getD y28.1.1 (Int.toNat a1) zt55).1).2).1).1).1).2), (((((List.getD y28.1.1 (Int.toNat a1) zt55).1).2).1).1).2), ((((((((List.getD y28.1.1 (Int.toNat a1) zt55).1).2).1).2).1).1, ((((((List.getD y28.1.1 (Int.toNat a1) zt55).1).2).1).2).1).2), (((((List.getD y28.1.1 (Int.toNat a1) zt55).1).2).1).2).2)), (((List.getD y28.1.1 (Int.toNat a1) zt55).1).2).2)), (true, ((((y31.1.1.1.1, y31.1.1.1.2), y31.1.1.2), ((y31.1.2.1.1, y31.1.2.1.2), y31.1.2.2)), a4)))
  some ((v32, (y28.1.2.1, v30)), ((1 : Int), (0 : Int)), (0 : Int), ()))
  else none)
  else (bif decide (0 ≤ a1) && decide (a1 < (List.length y28.1.1 : Int)) then (let v33 := List.set y28.1.1 (Int.toNat a1) ((true, ((((y31.1.1.1.1, y31.1.1.1.2), y31.1.1.2), ((y31.1.2.1.1, y31.1.2.1.2), y31.1.2.2)), a4)), (((List.getD y28.1.1 (Int.toNat a1) zt55).2).1, ((((((((((List.getD y28.1.1 (Int.toNat a1) zt55).2).2).1).1).1).1, ((((((List.getD y28.1.1 (Int.toNat a1) zt55).2).2).1).1).1).2), (((((List.getD y28.1.1 (Int.toNat a1) zt55).2).2).1).1).2), ((((((((List.getD y28.1.1 (Int.toNat a1) zt55).2).2).1).2).1).1, ((((((List.getD y28.1.1 (Int.toNat a1) zt55).2).2).1).2).1).2), (((((List.getD y28.1.1 (Int.toNat a1) zt55).2).2).1).2).2)), (((List.getD y28.1.1 (Int.toNat a1) zt55).2).2).2)))
  some ((v33, (y28.1.2.1, v30)), ((1 : Int), (0 : Int)), (0 : Int), ()))
  else none))
  else none)))
  else (bif v3 then ((fulcrumref08_tighter.F (a2, (((a3.1.1.1, a3.1.1.2), a3.1.2), ((a3.2.1.1, a3.2.1.2), a3.2.2)), (((v4, v5), v6), ((v7, v8), v9)), ())).bind fun y34 =>
  bif y34.1 then (some ((a0.1, (a0.2.1, a0.2.2)), ((2 : Int), v10), (0 : Int), ()))
  else ((fulcrumref08_Copy.F ((a0.1, (a0.2.1, a0.2.2)), ())).bind fun y35 =>
  let v36 := ([(a1, (a2, (a0.2.1, (v11, ((((v12, v13), v14), ((v15, v16), v17)), v18)))))] : List Dt97)
  bif decide (List.length y35.1.2.2 + List.length v36 < 925904528653) then (let v37 := List.append y35.1.2.2 v36
  (fulcrumref05_Norm.F ((((a3.1.1.1, a3.1.1.2), a3.1.2), ((a3.2.1.1, a3.2.1.2), a3.2.2)), ())).bind fun y38 =>
  bif a2 then (bif decide (0 ≤ a1) && decide (a1 < (List.length y35.1.1 : Int)) then (let v39 := List.set y35.1.1 (Int.toNat a1) ((((List.getD y35.1.1 (Int.toNat a1) zt55).1).1, ((((((((((List.getD y35.1.1 (Int.toNat a1) zt55).1).2).1).1).1).1, ((((((List.getD y35.1.1 (Int.toNat a1) zt55).1).2).1).1).1).2), (((((List.getD y35.1.1 (Int.toNat a1) zt55).1).2).1).1).2), ((((((((List.getD y35.1.1 (Int.toNat a1) zt55).1).2).1).2).1).1, ((((((List.getD y35.1.1 (Int.toNat a1) zt55).1).2).1).2).1).2), (((((List.getD y35.1.1 (Int.toNat a1) zt55).1).2).1).2).2)), (((List.getD y35.1.1 (Int.toNat a1) zt55).1).2).2)), (true, ((((y38.1.1.1.1, y38.1.1.1.2), y38.1.1.2), ((y38.1.2.1.1, y38.1.2.1.2), y38.1.2.2)), a4)))
  some ((v39, (y35.1.2.1, v37)), ((1 : Int), (0 : Int)), (0 : Int), ()))
  else none)
  else (bif decide (0 ≤ a1) && decide (a1 < (List.length y35.1.1 : Int)) then (let v40 := List.set y35.1.1 (Int.toNat a1) ((true, ((((y38.1.1.1.1, y38.1.1.1.2), y38.1.1.2), ((y38.1.2.1.1, y38.1.2.1.2), y38.1.2.2)), a4)), (((List.getD y35.1.1 (Int.toNat a1) zt55).2).1, ((((((((((List.getD y35.1.1 (Int.toNat a1) zt55).2).2).1).1).1).1, ((((((List.getD y35.1.1 (Int.toNat a1) zt55).2).2).1).1).1).2), (((((List.getD y35.1.1 (Int.toNat a1) zt55).2).2).1).1).2), ((((((((List.getD y35.1.1 (Int.toNat a1) zt55).2).2).1).2).1).1, ((((((List.getD y35.1.1 (Int.toNat a1) zt55).2).2).1).2).1).2), (((((List.getD y35.1.1 (Int.toNat a1) zt55).2).2).1).2).2)), (((List.getD y35.1.1 (Int.toNat a1) zt55).2).2).2)))
  some ((v40, (y35.1.2.1, v37)), ((1 : Int), (0 : Int)), (0 : Int), ()))
  else none))
  else none))
  else ((fulcrumref08_Copy.F ((a0.1, (a0.2.1, a0.2.2)), ())).bind fun y41 =>
  let v42 := ([(a1, (a2, (a0.2.1, (v11, ((((v12, v13), v14), ((v15, v16), v17)), v18)))))] : List Dt97)
  bif decide (List.length y41.1.2.2 + List.length v42 < 925904528653) then (let v43 := List.append y41.1.2.2 v42
  (fulcrumref05_Norm.F ((((a3.1.1.1, a3.1.1.2), a3.1.2), ((a3.2.1.1, a3.2.1.2), a3.2.2)), ())).bind fun y44 =>
  bif a2 then (bif decide (0 ≤ a1) && decide (a1 < (List.length y41.1.1 : Int)) then (let v45 := List.set y41.1.1 (Int.toNat a1) ((((List.getD y41.1.1 (Int.toNat a1) zt55).1).1, ((((((((((List.getD y41.1.1 (Int.toNat a1) zt55).1).2).1).1).1).1, ((((((List.getD y41.1.1 (Int.toNat a1) zt55).1).2).1).1).1).2), (((((List.getD y41.1.1 (Int.toNat a1) zt55).1).2).1).1).2), ((((((((List.getD y41.1.1 (Int.toNat a1) zt55).1).2).1).2).1).1, ((((((List.getD y41.1.1 (Int.toNat a1) zt55).1).2).1).2).1).2), (((((List.getD y41.1.1 (Int.toNat a1) zt55).1).2).1).2).2)), (((List.getD y41.1.1 (Int.toNat a1) zt55).1).2).2)), (true, ((((y44.1.1.1.1, y44.1.1.1.2), y44.1.1.2), ((y44.1.2.1.1, y44.1.2.1.2), y44.1.2.2)), a4)))
  some ((v45, (y41.1.2.1, v43)), ((1 : Int), (0 : Int)), (0 : Int), ()))
  else none)
  else (bif decide (0 ≤ a1) && decide (a1 < (List.length y41.1.1 : Int)) then (let v46 := List.set y41.1.1 (Int.toNat a1) ((true, ((((y44.1.1.1.1, y44.1.1.1.2), y44.1.1.2), ((y44.1.2.1.1, y44.1.2.1.2), y44.1.2.2)), a4)), (((List.getD y41.1.1 (Int.toNat a1) zt55).2).1, ((((((((((List.getD y41.1.1 (Int.toNat a1) zt55).2).2).1).1).1).1, ((((((List.getD y41.1.1 (Int.toNat a1) zt55).2).2).1).1).1).2), (((((List.getD y41.1.1 (Int.toNat a1) zt55).2).2).1).1).2), ((((((((List.getD y41.1.1 (Int.toNat a1) zt55).2).2).1).2).1).1, ((((((List.getD y41.1.1 (Int.toNat a1) zt55).2).2).1).2).1).2), (((((List.getD y41.1.1 (Int.toNat a1) zt55).2).2).1).2).2)), (((List.getD y41.1.1 (Int.toNat a1) zt55).2).2).2)))
  some ((v46, (y41.1.2.1, v43)), ((1 : Int), (0 : Int)), (0 : Int), ()))
  else none))
  else none)))
  else (bif v3 then ((fulcrumref08_tighter.F (a2, (((a3.1.1.1, a3.1.1.2), a3.1.2), ((a3.2.1.1, a3.2.1.2), a3.2.2)), (((v4, v5), v6), ((v7, v8), v9)), ())).bind fun y47 =>
  let v48 := not y47.1
  bif v48 then (some ((a0.1, (a0.2.1, a0.2.2)), zt64, (0 : Int), ()))
  else (bif v11 then ((fulcrumref08_tighter.F (a2, (((a3.1.1.1, a3.1.1.2), a3.1.2), ((a3.2.1.1, a3.2.1.2), a3.2.2)), (((v12, v13), v14), ((v15, v16), v17)), ())).bind fun y49 =>
  bif y49.1 then (some ((a0.1, (a0.2.1, a0.2.2)), ((2 : Int), v18), (0 : Int), ()))
  else ((fulcrumref08_Copy.F ((a0.1, (a0.2.1, a0.2.2)), ())).bind fun y50 =>
  let v51 := ([(a1, (a2, (a0.2.1, (v3, ((((v4, v5), v6), ((v7, v8), v9)), v10)))))] : List Dt97)
  bif decide (List.length y50.1.2.2 + List.length v51 < 925904528653) then (let v52 := List.append y50.1.2.2 v51
  (fulcrumref05_Norm.F ((((a3.1.1.1, a3.1.1.2), a3.1.2), ((a3.2.1.1, a3.2.1.2), a3.2.2)), ())).bind fun y53 =>
  bif a2 then (bif decide (0 ≤ a1) && decide (a1 < (List.length y50.1.1 : Int)) then (let v54 := List.set y50.1.1 (Int.toNat a1) ((((List.getD y50.1.1 (Int.toNat a1) zt55).1).1, ((((((((((List.getD y50.1.1 (Int.toNat a1) zt55).1).2).1).1).1).1, ((((((List.getD y50.1.1 (Int.toNat a1) zt55).1).2).1).1).1).2), (((((List.getD y50.1.1 (Int.toNat a1) zt55).1).2).1).1).2), ((((((((List.getD y50.1.1 (Int.toNat a1) zt55).1).2).1).2).1).1, ((((((List.getD y50.1.1 (Int.toNat a1) zt55).1).2).1).2).1).2), (((((List.getD y50.1.1 (Int.toNat a1) zt55).1).2).1).2).2)), (((List.getD y50.1.1 (Int.toNat a1) zt55).1).2).2)), (true, ((((y53.1.1.1.1, y53.1.1.1.2), y53.1.1.2), ((y53.1.2.1.1, y53.1.2.1.2), y53.1.2.2)), a4)))
  some ((v54, (y50.1.2.1, v52)), ((1 : Int), (0 : Int)), (0 : Int), ()))
  else none)
  else (bif decide (0 ≤ a1) && decide (a1 < (List.length y50.1.1 : Int)) then (let v55 := List.set y50.1.1 (Int.toNat a1) ((true, ((((y53.1.1.1.1, y53.1.1.1.2), y53.1.1.2), ((y53.1.2.1.1, y53.1.2.1.2), y53.1.2.2)), a4)), (((List.getD y50.1.1 (Int.toNat a1) zt55).2).1, ((((((((((List.getD y50.1.1 (Int.toNat a1) zt55).2).2).1).1).1).1, ((((((List.getD y50.1.1 (Int.toNat a1) zt55).2).2).1).1).1).2), (((((List.getD y50.1.1 (Int.toNat a1) zt55).2).2).1).1).2), ((((((((List.getD y50.1.1 (Int.toNat a1) zt55).2).2).1).2).1).1, ((((((List.getD y50.1.1 (Int.toNat a1) zt55).2).2).1).2).1).2), (((((List.getD y50.1.1 (Int.toNat a1) zt55).2).2).1).2).2)), (((List.getD y50.1.1 (Int.toNat a1) zt55).2).2).2)))
  some ((v55, (y50.1.2.1, v52)), ((1 : Int), (0 : Int)), (0 : Int), ()))
  else none))
  else none))
  else ((fulcrumref08_Copy.F ((a0.1, (a0.2.1, a0.2.2)), ())).bind fun y56 =>
  let v57 := ([(a1, (a2, (a0.2.1, (v3, ((((v4, v5), v6), ((v7, v8), v9)), v10)))))] : List Dt97)
  bif decide (List.length y56.1.2.2 + List.length v57 < 925904528653) then (let v58 := List.append y56.1.2.2 v57
  (fulcrumref05_Norm.F ((((a3.1.1.1, a3.1.1.2), a3.1.2), ((a3.2.1.1, a3.2.1.2), a3.2.2)), ())).bind fun y59 =>
  bif a2 then (bif decide (0 ≤ a1) && decide (a1 < (List.length y56.1.1 : Int)) then (let v60 := List.set y56.1.1 (Int.toNat a1) ((((List.getD y56.1.1 (Int.toNat a1) zt55).1).1, ((((((((((List.getD y56.1.1 (Int.toNat a1) zt55).1).2).1).1).1).1, ((((((List.getD y56.1.1 (Int.toNat a1) zt55).1).2).1).1).1).2), (((((List.getD y56.1.1 (Int.toNat a1) zt55).1).2).1).1).2), ((((((((List.getD y56.1.1 (Int.toNat a1) zt55).1).2).1).2).1).1, ((((((List.getD y56.1.1 (Int.toNat a1) zt55).1).2).1).2).1).2), (((((List.getD y56.1.1 (Int.toNat a1) zt55).1).2).1).2).2)), (((List.getD y56.1.1 (Int.toNat a1) zt55).1).2).2)), (true, ((((y59.1.1.1.1, y59.1.1.1.2), y59.1.1.2), ((y59.1.2.1.1, y59.1.2.1.2), y59.1.2.2)), a4)))
  some ((v60, (y56.1.2.1, v58)), ((1 : Int), (0 : Int)), (0 : Int), ()))
  else none)
  else (bif decide (0 ≤ a1) && decide (a1 < (List.length y56.1.1 : Int)) then (let v61 := List.set y56.1.1 (Int.toNat a1) ((true, ((((y59.1.1.1.1, y59.1.1.1.2), y59.1.1.2), ((y59.1.2.1.1, y59.1.2.1.2), y59.1.2.2)), a4)), (((List.getD y56.1.1 (Int.toNat a1) zt55).2).1, ((((((((((List.getD y56.1.1 (Int.toNat a1) zt55).2).2).1).1).1).1, ((((((List.getD y56.1.1 (Int.toNat a1) zt55).2).2).1).1).1).2), (((((List.getD y56.1.1 (Int.toNat a1) zt55).2).2).1).1).2), ((((((((List.getD y56.1.1 (Int.toNat a1) zt55).2).2).1).2).1).1, ((((((List.getD y56.1.1 (Int.toNat a1) zt55).2).2).1).2).1).2), (((((List.getD y56.1.1 (Int.toNat a1) zt55).2).2).1).2).2)), (((List.getD y56.1.1 (Int.toNat a1) zt55).2).2).2)))
  some ((v61, (y56.1.2.1, v58)), ((1 : Int), (0 : Int)), (0 : Int), ()))
  else none))
  else none)))
  else (bif v11 then ((fulcrumref08_tighter.F (a2, (((a3.1.1.1, a3.1.1.2), a3.1.2), ((a3.2.1.1, a3.2.1.2), a3.2.2)), (((v12, v13), v14), ((v15, v16), v17)), ())).bind fun y62 =>
  bif y62.1 then (some ((a0.1, (a0.2.1, a0.2.2)), ((2 : Int), v18), (0 : Int), ()))
  else ((fulcrumref08_Copy.F ((a0.1, (a0.2.1, a0.2.2)), ())).bind fun y63 =>
  let v64 := ([(a1, (a2, (a0.2.1, (v3, ((((v4, v5), v6), ((v7, v8), v9)), v10)))))] : List Dt97)
  bif decide (List.length y63.1.2.2 + List.length v64 < 925904528653) then (let v65 := List.append y63.1.2.2 v64
  (fulcrumref05_Norm.F ((((a3.1.1.1, a3.1.1.2), a3.1.2), ((a3.2.1.1, a3.2.1.2), a3.2.2)), ())).bind fun y66 =>
  bif a2 then (bif decide (0 ≤ a1) && decide (a1 < (List.length y63.1.1 : Int)) then (let v67 := List.set y63.1.1 (Int.toNat a1) ((((List.getD y63.1.1 (Int.toNat a1) zt55).1).1, ((((((((((List.getD y63.1.1 (Int.toNat a1) zt55).1).2).1).1).1).1, ((((((List.getD y63.1.1 (Int.toNat a1) zt55).1).2).1).1).1).2), (((((List.getD y63.1.1 (Int.toNat a1) zt55).1).2).1).1).2), ((((((((List.getD y63.1.1 (Int.toNat a1) zt55).1).2).1).2).1).1, ((((((List.getD y63.1.1 (Int.toNat a1) zt55).1).2).1).2).1).2), (((((List.getD y63.1.1 (Int.toNat a1) zt55).1).2).1).2).2)), (((List.getD y63.1.1 (Int.toNat a1) zt55).1).2).2)), (true, ((((y66.1.1.1.1, y66.1.1.1.2), y66.1.1.2), ((y66.1.2.1.1, y66.1.2.1.2), y66.1.2.2)), a4)))
  some ((v67, (y63.1.2.1, v65)), ((1 : Int), (0 : Int)), (0 : Int), ()))
  else none)
  else (bif decide (0 ≤ a1) && decide (a1 < (List.length y63.1.1 : Int)) then (let v68 := List.set y63.1.1 (Int.toNat a1) ((true, ((((y66.1.1.1.1, y66.1.1.1.2), y66.1.1.2), ((y66.1.2.1.1, y66.1.2.1.2), y66.1.2.2)), a4)), (((List.getD y63.1.1 (Int.toNat a1) zt55).2).1, ((((((((((List.getD y63.1.1 (Int.toNat a1) zt55).2).2).1).1).1).1, ((((((List.getD y63.1.1 (Int.toNat a1) zt55).2).2).1).1).1).2), (((((List.getD y63.1.1 (Int.toNat a1) zt55).2).2).1).1).2), ((((((((List.getD y63.1.1 (Int.toNat a1) zt55).2).2).1).2).1).1, ((((((List.getD y63.1.1 (Int.toNat a1) zt55).2).2).1).2).1).2), (((((List.getD y63.1.1 (Int.toNat a1) zt55).2).2).1).2).2)), (((List.getD y63.1.1 (Int.toNat a1) zt55).2).2).2)))
  some ((v68, (y63.1.2.1, v65)), ((1 : Int), (0 : Int)), (0 : Int), ()))
  else none))
  else none))
  else ((fulcrumref08_Copy.F ((a0.1, (a0.2.1, a0.2.2)), ())).bind fun y69 =>
  let v70 := ([(a1, (a2, (a0.2.1, (v3, ((((v4, v5), v6), ((v7, v8), v9)), v10)))))] : List Dt97)
  bif decide (List.length y69.1.2.2 + List.length v70 < 925904528653) then (let v71 := List.append y69.1.2.2 v70
  (fulcrumref05_Norm.F ((((a3.1.1.1, a3.1.1.2), a3.1.2), ((a3.2.1.1, a3.2.1.2), a3.2.2)), ())).bind fun y72 =>
  bif a2 then (bif decide (0 ≤ a1) && decide (a1 < (List.length y69.1.1 : Int)) then (let v73 := List.set y69.1.1 (Int.toNat a1) ((((List.getD y69.1.1 (Int.toNat a1) zt55).1).1, ((((((((((List.getD y69.1.1 (Int.toNat a1) zt55).1).2).1).1).1).1, ((((((List.getD y69.1.1 (Int.toNat a1) zt55).1).2).1).1).1).2), (((((List.getD y69.1.1 (Int.toNat a1) zt55).1).2).1).1).2), ((((((((List.getD y69.1.1 (Int.toNat a1) zt55).1).2).1).2).1).1, ((((((List.getD y69.1.1 (Int.toNat a1) zt55).1).2).1).2).1).2), (((((List.getD y69.1.1 (Int.toNat a1) zt55).1).2).1).2).2)), (((List.getD y69.1.1 (Int.toNat a1) zt55).1).2).2)), (true, ((((y72.1.1.1.1, y72.1.1.1.2), y72.1.1.2), ((y72.1.2.1.1, y72.1.2.1.2), y72.1.2.2)), a4)))
  some ((v73, (y69.1.2.1, v71)), ((1 : Int), (0 : Int)), (0 : Int), ()))
  else none)
  else (bif decide (0 ≤ a1) && decide (a1 < (List.length y69.1.1 : Int)) then (let v74 := List.set y69.1.1 (Int.toNat a1) ((true, ((((y72.1.1.1.1, y72.1.1.1.2), y72.1.1.2), ((y72.1.2.1.1, y72.1.2.1.2), y72.1.2.2)), a4)), (((List.getD y69.1.1 (Int.toNat a1) zt55).2).1, ((((((((((List.getD y69.1.1 (Int.toNat a1) zt55).2).2).1).1).1).1, ((((((List.getD y69.1.1 (Int.toNat a1) zt55).2).2).1).1).1).2), (((((List.getD y69.1.1 (Int.toNat a1) zt55).2).2).1).1).2), ((((((((List.getD y69.1.1 (Int.toNat a1) zt55).2).2).1).2).1).1, ((((((List.getD y69.1.1 (Int.toNat a1) zt55).2).2).1).2).1).2), (((((List.getD y69.1.1 (Int.toNat a1) zt55).2).2).1).2).2)), (((List.getD y69.1.1 (Int.toNat a1) zt55).2).2).2)))
  some ((v74, (y69.1.2.1, v71)), ((1 : Int), (0 : Int)), (0 : Int), ()))
  else none))
  else none))))
  else none)
  else none)
theorem fulcrumref08_Assert.eval (k : Nat) (a0 : Dt29) (a1 : Int) (a2 : Bool) (a3 : Dt47) (a4 : Int) : evalF fulcrumref08_Assert.spec fulcrumref08_Assert.cals T Try.f53 k (a0, a1, a2, a3, a4, ()) = fulcrumref08_Assert.e  a0 a1 a2 a3 a4 := by kernel_rfl
theorem fulcrumref08_Assert.F_eq (a0 : Dt29) (a1 : Int) (a2 : Bool) (a3 : Dt47) (a4 : Int) : fulcrumref08_Assert.F (a0, a1, a2, a3, a4, ()) = limF fulcrumref08_Assert.spec fulcrumref08_Assert.cals T Try.f53 (a0, a1, a2, a3, a4, ()) := by kernel_rfl
theorem fulcrumref08_Assert.of (k : Nat) (a0 : Dt29) (a1 : Int) (a2 : Bool) (a3 : Dt47) (a4 : Int) {y : Dt29 × Dt64 × Int × Unit} (h : fulcrumref08_Assert.e  a0 a1 a2 a3 a4 = some y) : fulcrumref08_Assert.F (a0, a1, a2, a3, a4, ()) = some y := (fulcrumref08_Assert.F_eq a0 a1 a2 a3 a4).trans (limF_of (q := fulcrumref08_Assert.spec) (C := fulcrumref08_Assert.cals) (T := T) (f := Try.f53) (x := (a0, a1, a2, a3, a4, ())) (y := y) k ((fulcrumref08_Assert.eval k a0 a1 a2 a3 a4).trans h))

/-! ### fulcrum/fulcrumref08.Push -/
def fulcrumref08_Push.spec : Spec := ⟨[(true, Kt29)], [(true, Kt29)], .own, fun j => match j with  | _ => []⟩
noncomputable def fulcrumref08_Push.cals : Cals := (Cals.cons 32 fulcrumref08_Copy.sig (Cals.base tabs))
noncomputable def fulcrumref08_Push.sig : Sig := fulcrumref08_Push.spec.sig fulcrumref08_Push.cals T Try.f54
noncomputable def fulcrumref08_Push.F (x : Dt29 × Unit) : Option (Dt29 × Unit) := limF fulcrumref08_Push.spec fulcrumref08_Push.cals T Try.f54 x
theorem fulcrumref08_Push.ck : CalsOk Try.prog fulcrumref08_Push.cals := (CalsOk.cons fulcrumref08_Copy.cal (CalsOk.base tabsOk))
theorem fulcrumref08_Push.cal : CalOk Try.prog tabs 54 fulcrumref08_Push.sig := calOk_lim' tabOk fulcrumref08_Push.ck mix Try.func54 (by kernel_rfl) (by kernel_rfl) (by kernel_rfl) (by kernel_rfl)
noncomputable def fulcrumref08_Push.e  (a0 : Dt29) : Option (Dt29 × Unit) :=
  (fulcrumref08_Copy.F ((a0.1, (a0.2.1, a0.2.2)), ())).bind fun y1 =>
  let v2 := IntKind.i64.wrap (y1.1.2.1 + (1 : Int))
  some ((y1.1.1, (v2, y1.1.2.2)), ())
theorem fulcrumref08_Push.eval (k : Nat) (a0 : Dt29) : evalF fulcrumref08_Push.spec fulcrumref08_Push.cals T Try.f54 k (a0, ()) = fulcrumref08_Push.e  a0 := by kernel_rfl
theorem fulcrumref08_Push.F_eq (a0 : Dt29) : fulcrumref08_Push.F (a0, ()) = limF fulcrumref08_Push.spec fulcrumref08_Push.cals T Try.f54 (a0, ()) := by kernel_rfl
theorem fulcrumref08_Push.of (k : Nat) (a0 : Dt29) {y : Dt29 × Unit} (h : fulcrumref08_Push.e  a0 = some y) : fulcrumref08_Push.F (a0, ()) = some y := (fulcrumref08_Push.F_eq a0).trans (limF_of (q := fulcrumref08_Push.spec) (C := fulcrumref08_Push.cals) (T := T) (f := Try.f54) (x := (a0, ())) (y := y) k ((fulcrumref08_Push.eval k a0).trans h))

/-! ### fulcrum/fulcrumref08.undo -/
def fulcrumref08_undo.spec : XSpec := ⟨none, false, [(true, Kt29)], true, none, [(true, Kt29)], true, fun j => match j with  | _ => []⟩
noncomputable def fulcrumref08_undo.cals : Cals := (Cals.base tabs)
noncomputable def fulcrumref08_undo.sig : XSig := fulcrumref08_undo.spec.sig fulcrumref08_undo.cals T Try.f66
noncomputable def fulcrumref08_undo.F (d : Unit) (x : Dt29 × Unit) : Option (Unit × (Dt29 × Unit) × Unit) := limX fulcrumref08_undo.spec fulcrumref08_undo.cals T Try.f66 d x
theorem fulcrumref08_undo.ck : CalsOk Try.prog fulcrumref08_undo.cals := (CalsOk.base tabsOk)
theorem fulcrumref08_undo.cal : XOk Try.prog tabs 66 fulcrumref08_undo.sig := xok_of tabOk fulcrumref08_undo.ck mix Try.func66 (by kernel_rfl) (by kernel_rfl) (by kernel_rfl) (by kernel_rfl)
noncomputable def fulcrumref08_undo.e  (G : Gh) (d : Unit) (a0 : Dt29) : Option ((Unit × (Dt29 × Unit) × Unit) × Nat × List Value) :=
  let v1 := (List.length a0.2.2 : Int)
  let v2 := IntKind.i64.wrap (v1 - (1 : Int))
  bif decide (0 ≤ v2) && decide (v2 < (List.length a0.2.2 : Int)) then (let v3 := (List.getD a0.2.2 (Int.toNat v2) zt97).1
  let v4 := ((List.getD a0.2.2 (Int.toNat v2) zt97).2).1
  let v5 := (((List.getD a0.2.2 (Int.toNat v2) zt97).2).2).1
  let v6 := ((((List.getD a0.2.2 (Int.toNat v2) zt97).2).2).2).1
  let v7 := ((((((((List.getD a0.2.2 (Int.toNat v2) zt97).2).2).2).2).1).1).1).1
  let v8 := ((((((((List.getD a0.2.2 (Int.toNat v2) zt97).2).2).2).2).1).1).1).2
  let v9 := (((((((List.getD a0.2.2 (Int.toNat v2) zt97).2).2).2).2).1).1).2
  let v10 := ((((((((List.getD a0.2.2 (Int.toNat v2) zt97).2).2).2).2).1).2).1).1
  let v11 := ((((((((List.getD a0.2.2 (Int.toNat v2) zt97).2).2).2).2).1).2).1).2
  let v12 := (((((((List.getD a0.2.2 (Int.toNat v2) zt97).2).2).2).2).1).2).2
  let v13 := (((((List.getD a0.2.2 (Int.toNat v2) zt97).2).2).2).2).2
  let v14 := (List.length a0.2.2 : Int)
  let v15 := IntKind.i64.wrap (v14 - (1 : Int))
  bif decide (0 ≤ v15) && decide (v15 ≤ (List.length a0.2.2 : Int)) then (let v16 := List.take (Int.toNat v15) a0.2.2
  bif v4 then (bif decide (0 ≤ v3) && decide (v3 < (List.length a0.1 : Int)) then (let v17 := List.set a0.1 (Int.toNat v3) ((((List.getD a0.1 (Int.toNat v3) zt55).1).1, ((((((((((List.getD a0.1 (Int.toNat v3) zt55).1).2).1).1).1).1, ((((((List.getD a0.1 (Int.toNat v3) zt55).1).2).1).1).1).2), (((((List.getD a0.1 (Int.toNat v3) zt55).1).2).1).1).2), ((((((((List.getD a0.1 (Int.toNat v3) zt55).1).2).1).2).1).1, ((((((List.getD a0.1 (Int.toNat v3) zt55).1).2).1).2).1).2), (((((List.getD a0.1 (Int.toNat v3) zt55).1).2).1).2).2)), (((List.getD a0.1 (Int.toNat v3) zt55).1).2).2)), (v6, ((((v7, v8), v9), ((v10, v11), v12)), v13)))
  some (((), ((v17, (a0.2.1, v16)), ()), ()), 0, []))
  else none)
  else (bif decide (0 ≤ v3) && decide (v3 < (List.length a0.1 : Int)) then (let v18 := List.set a0.1 (Int.toNat v3) ((v6, ((((v7, v8), v9), ((v10, v11), v12)), v13)), (((List.getD a0.1 (Int.toNat v3) zt55).2).1, ((((((((((List.getD a0.1 (Int.toNat v3) zt55).2).2).1).1).1).1, ((((((List.getD a0.1 (Int.toNat v3) zt55).2).2).1).1).1).2), (((((List.getD a0.1 (Int.toNat v3) zt55).2).2).1).1).2), ((((((((List.getD a0.1 (Int.toNat v3) zt55).2).2).1).2).1).1, ((((((List.getD a0.1 (Int.toNat v3) zt55).2).2).1).2).1).2), (((((List.getD a0.1 (Int.toNat v3) zt55).2).2).1).2).2)), (((List.getD a0.1 (Int.toNat v3) zt55).2).2).2)))
  some (((), ((v18, (a0.2.1, v16)), ()), ()), 0, []))
  else none))
  else none)
  else none
theorem fulcrumref08_undo.eval (k : Nat) (G : Gh) (d : Unit) (a0 : Dt29) : evalX fulcrumref08_undo.spec fulcrumref08_undo.cals T Try.f66 k G d (a0, ()) = fulcrumref08_undo.e  G d a0 := by kernel_rfl
theorem fulcrumref08_undo.of (d : Unit) (a0 : Dt29) (y : (Unit × (Dt29 × Unit) × Unit)) (h : ∀ G : Gh, ∃ k : Nat, fulcrumref08_undo.e  G d a0 = some (y, (0, []))) : fulcrumref08_undo.F d (a0, ()) = some y := limX_of (q := fulcrumref08_undo.spec) (C := fulcrumref08_undo.cals) (T := T) (f := Try.f66) (d := d) (x := (a0, ())) y fun G => (h G).imp fun k hk => (fulcrumref08_undo.eval k G d a0).trans hk

/-! ### fulcrum/fulcrumref08.Back -/
def fulcrumref08_Back.spec : Spec := ⟨[(true, Kt29), (false, (.int .i64))], [(true, Kt29), (false, (.int .i64))], .shared, fun j => match j with | 4 => [(1, .lf (.v true)), (4, .box 29 [.v true, .v true, .v true]), (6, .box 29 [.o 55 Kt55 true, .v true, .o 97 Kt97 true])] | _ => []⟩
noncomputable def fulcrumref08_Back.cals : Cals := (Cals.consX 66 false fulcrumref08_undo.sig (Cals.cons 32 fulcrumref08_Copy.sig (Cals.base tabs)))
noncomputable def fulcrumref08_Back.sig : Sig := fulcrumref08_Back.spec.sig fulcrumref08_Back.cals T Try.f55
noncomputable def fulcrumref08_Back.F (x : Dt29 × Int × Unit) : Option (Dt29 × Int × Unit) := limF fulcrumref08_Back.spec fulcrumref08_Back.cals T Try.f55 x
theorem fulcrumref08_Back.ck : CalsOk Try.prog fulcrumref08_Back.cals := (CalsOk.consX fulcrumref08_undo.cal (CalsOk.cons fulcrumref08_Copy.cal (CalsOk.base tabsOk)))
theorem fulcrumref08_Back.cal : CalOk Try.prog tabs 55 fulcrumref08_Back.sig := calOk_lim' tabOk fulcrumref08_Back.ck mix Try.func55 (by kernel_rfl) (by kernel_rfl) (by kernel_rfl) (by kernel_rfl)
def fulcrumref08_Back.m4 (x1 : Int) (x4_1 : Int) (x6_0 : Dt26) (x6_1 : Int) (x6_2 : Dt27) : S := ⟨[(1, .one (.lf (.val true (.int .i64) x1))), (4, .box 0 0), (6, .box 1 0)], ⟨[some ⟨55, Kt55, true, true, x6_0⟩, some ⟨97, Kt97, true, true, x6_2⟩], [some ⟨29, [.nil, .val true (.int .i64) x4_1, .nil]⟩, some ⟨29, [.own 0, .val true (.int .i64) x6_1, .own 1]⟩]⟩⟩
noncomputable def fulcrumref08_Back.b4 (f4 : Int → Int → Dt26 → Int → Dt27 → Option (Dt29 × Int × Unit)) (x1 : Int) (x4_1 : Int) (x6_0 : Dt26) (x6_1 : Int) (x6_2 : Dt27) : Option (Dt29 × Int × Unit) :=
  let v1 := (List.length x6_2 : Int)
  let v2 := decide (v1 > (0 : Int))
  bif v2 then (let v3 := (List.length x6_2 : Int)
  let v4 := IntKind.i64.wrap (v3 - (1 : Int))
  bif decide (0 ≤ v4) && decide (v4 < (List.length x6_2 : Int)) then (let v5 := (((List.getD x6_2 (Int.toNat v4) zt97).2).2).1
  let v6 := decide (v5 > x1)
  bif v6 then ((fulcrumref08_undo.F () ((x6_0, (x6_1, x6_2)), ())).bind fun y7 =>
  f4 x1 x4_1 y7.2.1.1.1 y7.2.1.1.2.1 y7.2.1.1.2.2)
  else (some ((x6_0, (x1, x6_2)), (0 : Int), ())))
  else none)
  else (some ((x6_0, (x1, x6_2)), (0 : Int), ()))
noncomputable def fulcrumref08_Back.e (f4 : Int → Int → Dt26 → Int → Dt27 → Option (Dt29 × Int × Unit)) (a0 : Dt29) (a1 : Int) : Option (Dt29 × Int × Unit) :=
  let v1 := decide (a1 < (0 : Int))
  bif v1 then (some ((a0.1, (a0.2.1, a0.2.2)), (80 : Int), ()))
  else (let v2 := decide (a1 > a0.2.1)
  bif v2 then (some ((a0.1, (a0.2.1, a0.2.2)), (80 : Int), ()))
  else ((fulcrumref08_Copy.F ((a0.1, (a0.2.1, a0.2.2)), ())).bind fun y3 =>
  f4 a1 (0 : Int) y3.1.1 y3.1.2.1 y3.1.2.2))
noncomputable def fulcrumref08_Back.L4 (k : Nat) (x1 : Int) (x4_1 : Int) (x6_0 : Dt26) (x6_1 : Int) (x6_2 : Dt27) : Option (Dt29 × Int × Unit) := heads (fulcrumref08_Back.spec.env fulcrumref08_Back.cals T Try.f55) (Func.pts Try.f55) k 4 (fulcrumref08_Back.m4 x1 x4_1 x6_0 x6_1 x6_2)
theorem fulcrumref08_Back.L4_succ (k : Nat) (x1 : Int) (x4_1 : Int) (x6_0 : Dt26) (x6_1 : Int) (x6_2 : Dt27) : fulcrumref08_Back.L4 (k + 1) x1 x4_1 x6_0 x6_1 x6_2 = fulcrumref08_Back.b4 (fulcrumref08_Back.L4 k) x1 x4_1 x6_0 x6_1 x6_2 := by kernel_rfl
theorem fulcrumref08_Back.L4_zero (x1 : Int) (x4_1 : Int) (x6_0 : Dt26) (x6_1 : Int) (x6_2 : Dt27) : fulcrumref08_Back.L4 0 x1 x4_1 x6_0 x6_1 x6_2 = none := by kernel_rfl
theorem fulcrumref08_Back.eval (k : Nat) (a0 : Dt29) (a1 : Int) : evalF fulcrumref08_Back.spec fulcrumref08_Back.cals T Try.f55 k (a0, a1, ()) = fulcrumref08_Back.e (fulcrumref08_Back.L4 k) a0 a1 := by kernel_rfl
theorem fulcrumref08_Back.F_eq (a0 : Dt29) (a1 : Int) : fulcrumref08_Back.F (a0, a1, ()) = limF fulcrumref08_Back.spec fulcrumref08_Back.cals T Try.f55 (a0, a1, ()) := by kernel_rfl
theorem fulcrumref08_Back.of (k : Nat) (a0 : Dt29) (a1 : Int) {y : Dt29 × Int × Unit} (h : fulcrumref08_Back.e (fulcrumref08_Back.L4 k) a0 a1 = some y) : fulcrumref08_Back.F (a0, a1, ()) = some y := (fulcrumref08_Back.F_eq a0 a1).trans (limF_of (q := fulcrumref08_Back.spec) (C := fulcrumref08_Back.cals) (T := T) (f := Try.f55) (x := (a0, a1, ())) (y := y) k ((fulcrumref08_Back.eval k a0 a1).trans h))

/-! ### fulcrum/fulcrumlaw08.move -/
def fulcrumlaw08_move.spec : XSpec := ⟨some ⟨75, 0, Kt75, 0⟩, false, [(true, Kt29), (true, Kt50)], false, none, [(true, Kt29), (false, .bool)], false, fun j => match j with  | _ => []⟩
noncomputable def fulcrumlaw08_move.cals : Cals := (Cals.withEq 64 2 (Cals.consX 19 false bounds_Store_Lift.sig (Cals.consX 22 false bounds_Store_Press.sig (Cals.consX 21 false bounds_Store_Push.sig (Cals.consX 23 false bounds_Store_Back.sig (Cals.consX 10 false bounds_Store_Grow.sig (Cals.cons 53 fulcrumref08_Assert.sig (Cals.cons 54 fulcrumref08_Push.sig (Cals.cons 55 fulcrumref08_Back.sig (Cals.cons 11 fulcrumref08_Grow.sig (Cals.base tabs)))))))))))
noncomputable def fulcrumlaw08_move.sig : XSig := fulcrumlaw08_move.spec.sig fulcrumlaw08_move.cals T Try.f36
noncomputable def fulcrumlaw08_move.F (d : Dt75) (x : Dt29 × Dt50 × Unit) : Option (Unit × (Dt29 × Bool × Unit) × Dt75) := limX fulcrumlaw08_move.spec fulcrumlaw08_move.cals T Try.f36 d x
theorem fulcrumlaw08_move.ck : CalsOk Try.prog fulcrumlaw08_move.cals := (CalsOk.withEq eqOk64 (CalsOk.consX bounds_Store_Lift.cal (CalsOk.consX bounds_Store_Press.cal (CalsOk.consX bounds_Store_Push.cal (CalsOk.consX bounds_Store_Back.cal (CalsOk.consX bounds_Store_Grow.cal (CalsOk.cons fulcrumref08_Assert.cal (CalsOk.cons fulcrumref08_Push.cal (CalsOk.cons fulcrumref08_Back.cal (CalsOk.cons fulcrumref08_Grow.cal (CalsOk.base tabsOk)))))))))))
theorem fulcrumlaw08_move.cal : XOk Try.prog tabs 36 fulcrumlaw08_move.sig := xok_of tabOk fulcrumlaw08_move.ck mix Try.func36 (by kernel_rfl) (by kernel_rfl) (by kernel_rfl) (by kernel_rfl)
noncomputable def fulcrumlaw08_move.e  (G : Gh) (d : Dt75) (a0 : Dt29) (a1 : Dt50) : Option ((Unit × (Dt29 × Bool × Unit) × Dt75) × Nat × List Value) :=
  let v1 := (a1.1 == (0 : Int))
  bif v1 then (let v2 := (a1.1 == (0 : Int))
  bif v2 then ((bounds_Store_Lift.F ((d.1.1, d.1.2), (d.2.1, d.2.2)) (a1.2.1, (((a1.2.2.1.1.1.1, a1.2.2.1.1.1.2), a1.2.2.1.1.2), ((a1.2.2.1.2.1.1, a1.2.2.1.2.1.2), a1.2.2.1.2.2)), a1.2.2.2.1, ())).bind fun y3 =>
  let v4 := (a1.1 == (1 : Int))
  (fulcrumref08_Assert.F ((a0.1, (a0.2.1, a0.2.2)), a1.2.1, v4, (((a1.2.2.1.1.1.1, a1.2.2.1.1.1.2), a1.2.2.1.1.2), ((a1.2.2.1.2.1.1, a1.2.2.1.2.1.2), a1.2.2.1.2.2)), a1.2.2.2.1, ())).bind fun y5 =>
  let v6 := eqI y3.2.1.1.1 y5.2.1.1 && (eqI y3.2.1.1.2 y5.2.1.2 && true)
  bif v6 then (let v7 := (y3.2.1.2.1 == y5.2.2.1)
  some (((), ((y5.1.1, (y5.1.2.1, y5.1.2.2)), v7, ()), ((y3.2.2.1.1, y3.2.2.1.2), (y3.2.2.2.1, y3.2.2.2.2))), G.b, []))
  else (some (((), ((y5.1.1, (y5.1.2.1, y5.1.2.2)), false, ()), ((y3.2.2.1.1, y3.2.2.1.2), (y3.2.2.2.1, y3.2.2.2.2))), G.b, [])))
  else ((bounds_Store_Press.F ((d.1.1, d.1.2), (d.2.1, d.2.2)) (a1.2.1, (((a1.2.2.1.1.1.1, a1.2.2.1.1.1.2), a1.2.2.1.1.2), ((a1.2.2.1.2.1.1, a1.2.2.1.2.1.2), a1.2.2.1.2.2)), a1.2.2.2.1, ())).bind fun y8 =>
  let v9 := (a1.1 == (1 : Int))
  (fulcrumref08_Assert.F ((a0.1, (a0.2.1, a0.2.2)), a1.2.1, v9, (((a1.2.2.1.1.1.1, a1.2.2.1.1.1.2), a1.2.2.1.1.2), ((a1.2.2.1.2.1.1, a1.2.2.1.2.1.2), a1.2.2.1.2.2)), a1.2.2.2.1, ())).bind fun y10 =>
  let v11 := eqI y8.2.1.1.1 y10.2.1.1 && (eqI y8.2.1.1.2 y10.2.1.2 && true)
  bif v11 then (let v12 := (y8.2.1.2.1 == y10.2.2.1)
  some (((), ((y10.1.1, (y10.1.2.1, y10.1.2.2)), v12, ()), ((y8.2.2.1.1, y8.2.2.1.2), (y8.2.2.2.1, y8.2.2.2.2))), G.b, []))
  else (some (((), ((y10.1.1, (y10.1.2.1, y10.1.2.2)), false, ()), ((y8.2.2.1.1, y8.2.2.1.2), (y8.2.2.2.1, y8.2.2.2.2))), G.b, []))))
  else (let v13 := (a1.1 == (1 : Int))
  bif v13 then (let v14 := (a1.1 == (0 : Int))
  bif v14 then ((bounds_Store_Lift.F ((d.1.1, d.1.2), (d.2.1, d.2.2)) (a1.2.1, (((a1.2.2.1.1.1.1, a1.2.2.1.1.1.2), a1.2.2.1.1.2), ((a1.2.2.1.2.1.1, a1.2.2.1.2.1.2), a1.2.2.1.2.2)), a1.2.2.2.1, ())).bind fun y15 =>
  let v16 := (a1.1 == (1 : Int))
  (fulcrumref08_Assert.F ((a0.1, (a0.2.1, a0.2.2)), a1.2.1, v16, (((a1.2.2.1.1.1.1, a1.2.2.1.1.1.2), a1.2.2.1.1.2), ((a1.2.2.1.2.1.1, a1.2.2.1.2.1.2), a1.2.2.1.2.2)), a1.2.2.2.1, ())).bind fun y17 =>
  let v18 := eqI y15.2.1.1.1 y17.2.1.1 && (eqI y15.2.1.1.2 y17.2.1.2 && true)
  bif v18 then (let v19 := (y15.2.1.2.1 == y17.2.2.1)
  some (((), ((y17.1.1, (y17.1.2.1, y17.1.2.2)), v19, ()), ((y15.2.2.1.1, y15.2.2.1.2), (y15.2.2.2.1, y15.2.2.2.2))), G.b, []))
  else (some (((), ((y17.1.1, (y17.1.2.1, y17.1.2.2)), false, ()), ((y15.2.2.1.1, y15.2.2.1.2), (y15.2.2.2.1, y15.2.2.2.2))), G.b, [])))
  else ((bounds_Store_Press.F ((d.1.1, d.1.2), (d.2.1, d.2.2)) (a1.2.1, (((a1.2.2.1.1.1.1, a1.2.2.1.1.1.2), a1.2.2.1.1.2), ((a1.2.2.1.2.1.1, a1.2.2.1.2.1.2), a1.2.2.1.2.2)), a1.2.2.2.1, ())).bind fun y20 =>
  let v21 := (a1.1 == (1 : Int))
  (fulcrumref08_Assert.F ((a0.1, (a0.2.1, a0.2.2)), a1.2.1, v21, (((a1.2.2.1.1.1.1, a1.2.2.1.1.1.2), a1.2.2.1.1.2), ((a1.2.2.1.2.1.1, a1.2.2.1.2.1.2), a1.2.2.1.2.2)), a1.2.2.2.1, ())).bind fun y22 =>
  let v23 := eqI y20.2.1.1.1 y22.2.1.1 && (eqI y20.2.1.1.2 y22.2.1.2 && true)
  bif v23 then (let v24 := (y20.2.1.2.1 == y22.2.2.1)
  some (((), ((y22.1.1, (y22.1.2.1, y22.1.2.2)), v24, ()), ((y20.2.2.1.1, y20.2.2.1.2), (y20.2.2.2.1, y20.2.2.2.2))), G.b, []))
  else (some (((), ((y22.1.1, (y22.1.2.1, y22.1.2.2)), false, ()), ((y20.2.2.1.1, y20.2.2.1.2), (y20.2.2.2.1, y20.2.2.2.2))), G.b, []))))
  else (let v25 := (a1.1 == (2 : Int))
  bif v25 then ((bounds_Store_Push.F ((d.1.1, d.1.2), (d.2.1, d.2.2)) ()).bind fun y26 =>
  (fulcrumref08_Push.F ((a0.1, (a0.2.1, a0.2.2)), ())).bind fun y27 =>
  some (((), ((y27.1.1, (y27.1.2.1, y27.1.2.2)), true, ()), ((y26.2.2.1.1, y26.2.2.1.2), (y26.2.2.2.1, y26.2.2.2.2))), G.b, []))
  else (let v28 := (a1.1 == (3 : Int))
  bif v28 then ((bounds_Store_Back.F ((d.1.1, d.1.2), (d.2.1, d.2.2)) (a1.2.2.2.1, ())).bind fun y29 =>
  (fulcrumref08_Back.F ((a0.1, (a0.2.1, a0.2.2)), a1.2.2.2.1, ())).bind fun y30 =>
  let v31 := (y29.2.1.1 == y30.2.1)
  some (((), ((y30.1.1, (y30.1.2.1, y30.1.2.2)), v31, ()), ((y29.2.2.1.1, y29.2.2.1.2), (y29.2.2.2.1, y29.2.2.2.2))), G.b, []))
  else (let v32 := (a1.1 == (4 : Int))
  bif v32 then ((bounds_Store_Grow.F ((d.1.1, d.1.2), (d.2.1, d.2.2)) ()).bind fun y33 =>
  (fulcrumref08_Grow.F ((a0.1, (a0.2.1, a0.2.2)), ())).bind fun y34 =>
  let v35 := (y33.2.1.1 == y34.2.1)
  bif v35 then (let v36 := (y33.2.1.2.1 == y34.2.2.1)
  some (((), ((y34.1.1, (y34.1.2.1, y34.1.2.2)), v36, ()), ((y33.2.2.1.1, y33.2.2.1.2), (y33.2.2.2.1, y33.2.2.2.2))), G.b, []))
  else (some (((), ((y34.1.1, (y34.1.2.1, y34.1.2.2)), false, ()), ((y33.2.2.1.1, y33.2.2.1.2), (y33.2.2.2.1, y33.2.2.2.2))), G.b, [])))
  else (some (((), ((a0.1, (a0.2.1, a0.2.2)), true, ()), ((d.1.1, d.1.2), (d.2.1, d.2.2))), G.b, []))))))
theorem fulcrumlaw08_move.eval (k : Nat) (G : Gh) (d : Dt75) (a0 : Dt29) (a1 : Dt50) : evalX fulcrumlaw08_move.spec fulcrumlaw08_move.cals T Try.f36 k G d (a0, a1, ()) = fulcrumlaw08_move.e  G d a0 a1 := by kernel_rfl
theorem fulcrumlaw08_move.of (d : Dt75) (a0 : Dt29) (a1 : Dt50) (y : (Unit × (Dt29 × Bool × Unit) × Dt75)) (h : ∀ G : Gh, ∃ k : Nat, fulcrumlaw08_move.e  G d a0 a1 = some (y, (G.b, []))) : fulcrumlaw08_move.F d (a0, a1, ()) = some y := limX_of (q := fulcrumlaw08_move.spec) (C := fulcrumlaw08_move.cals) (T := T) (f := Try.f36) (d := d) (x := (a0, a1, ())) y fun G => (h G).imp fun k hk => (fulcrumlaw08_move.eval k G d a0 a1).trans hk

/-! ### fulcrum/fulcrumlaw08.played -/
def fulcrumlaw08_played.spec : XSpec := ⟨none, false, [(true, Kt60)], false, some ⟨75, Kt75⟩, [(true, Kt29)], false, fun j => match j with | 6 => [(1, .box 60 [.v true, .z 50 Kt50 true]), (3, .box 29 [.v true, .v true, .v true]), (4, .box 75 [.v true, .o 97 Kt97 true, .v true, .o 55 Kt55 true]), (6, .box 29 [.z 55 Kt55 true, .v true, .z 97 Kt97 true]), (8, .lf (.v true))] | _ => []⟩
noncomputable def fulcrumlaw08_played.cals : Cals := (Cals.consX 8 false bounds_New.sig (Cals.consX 36 false fulcrumlaw08_move.sig (Cals.cons 9 fulcrumref08_New.sig (Cals.base tabs))))
noncomputable def fulcrumlaw08_played.sig : XSig := fulcrumlaw08_played.spec.sig fulcrumlaw08_played.cals T Try.f18
noncomputable def fulcrumlaw08_played.F (d : Unit) (x : Dt60 × Unit) : Option ((Option Dt75) × (Dt29 × Unit) × Unit) := limX fulcrumlaw08_played.spec fulcrumlaw08_played.cals T Try.f18 d x
theorem fulcrumlaw08_played.ck : CalsOk Try.prog fulcrumlaw08_played.cals := (CalsOk.consX bounds_New.cal (CalsOk.consX fulcrumlaw08_move.cal (CalsOk.cons fulcrumref08_New.cal (CalsOk.base tabsOk))))
theorem fulcrumlaw08_played.cal : XOk Try.prog tabs 18 fulcrumlaw08_played.sig := xok_of tabOk fulcrumlaw08_played.ck mix Try.func18 (by kernel_rfl) (by kernel_rfl) (by kernel_rfl) (by kernel_rfl)
def fulcrumlaw08_played.m6 (x1_0 : Int) (x1_1 : Dt38) (x3_1 : Int) (x4_0 : Int) (x4_1 : Dt27) (x4_2 : Bool) (x4_3 : Dt26) (x6_0 : Dt26) (x6_1 : Int) (x6_2 : Dt27) (x8 : Int) : S := ⟨[(1, .box 0 0), (3, .box 1 0), (4, .box 2 0), (6, .box 3 0), (8, .one (.lf (.val true (.int .i64) x8)))], ⟨[some ⟨97, Kt97, true, true, x4_1⟩, some ⟨55, Kt55, true, true, x4_3⟩], [some ⟨60, [.val true (.int .i64) x1_0, .val true Kt38 x1_1]⟩, some ⟨29, [.nil, .val true (.int .i64) x3_1, .nil]⟩, some ⟨75, [.val true (.int .i64) x4_0, .own 0, .val true .bool x4_2, .own 1]⟩, some ⟨29, [.val true Kt26 x6_0, .val true (.int .i64) x6_1, .val true Kt27 x6_2]⟩]⟩⟩
noncomputable def fulcrumlaw08_played.b6 (f6 : Int → Dt38 → Int → Int → Dt27 → Bool → Dt26 → Dt26 → Int → Dt27 → Int → Option (((Option Dt75) × (Dt29 × Unit) × Unit) × Nat × List Value)) (x1_0 : Int) (x1_1 : Dt38) (x3_1 : Int) (x4_0 : Int) (x4_1 : Dt27) (x4_2 : Bool) (x4_3 : Dt26) (x6_0 : Dt26) (x6_1 : Int) (x6_2 : Dt27) (x8 : Int) : Option (((Option Dt75) × (Dt29 × Unit) × Unit) × Nat × List Value) :=
  let v1 := (List.length x1_1 : Int)
  let v2 := decide (x8 < v1)
  bif v2 then (bif decide (0 ≤ x8) && decide (x8 < (List.length x1_1 : Int)) then (let v3 := (List.getD x1_1 (Int.toNat x8) zt50).1
  let v4 := ((List.getD x1_1 (Int.toNat x8) zt50).2).1
  let v5 := ((((((List.getD x1_1 (Int.toNat x8) zt50).2).2).1).1).1).1
  let v6 := ((((((List.getD x1_1 (Int.toNat x8) zt50).2).2).1).1).1).2
  let v7 := (((((List.getD x1_1 (Int.toNat x8) zt50).2).2).1).1).2
  let v8 := ((((((List.getD x1_1 (Int.toNat x8) zt50).2).2).1).2).1).1
  let v9 := ((((((List.getD x1_1 (Int.toNat x8) zt50).2).2).1).2).1).2
  let v10 := (((((List.getD x1_1 (Int.toNat x8) zt50).2).2).1).2).2
  let v11 := ((((List.getD x1_1 (Int.toNat x8) zt50).2).2).2).1
  let v12 := ((((List.getD x1_1 (Int.toNat x8) zt50).2).2).2).2
  (fulcrumlaw08_move.F ((x4_0, x4_1), (x4_2, x4_3)) ((x6_0, (x6_1, x6_2)), (v3, (v4, ((((v5, v6), v7), ((v8, v9), v10)), (v11, v12)))), ())).bind fun y13 =>
  let v14 := IntKind.i64.wrap (x8 + (1 : Int))
  f6 x1_0 x1_1 x3_1 y13.2.2.1.1 y13.2.2.1.2 y13.2.2.2.1 y13.2.2.2.2 y13.2.1.1.1 y13.2.1.1.2.1 y13.2.1.1.2.2 v14)
  else none)
  else (some ((some ((x4_0, x4_1), (x4_2, x4_3)), ((x6_0, (x6_1, x6_2)), ()), ()), 0, []))
noncomputable def fulcrumlaw08_played.e (f6 : Int → Dt38 → Int → Int → Dt27 → Bool → Dt26 → Dt26 → Int → Dt27 → Int → Option (((Option Dt75) × (Dt29 × Unit) × Unit) × Nat × List Value)) (G : Gh) (d : Unit) (a0 : Dt60) : Option (((Option Dt75) × (Dt29 × Unit) × Unit) × Nat × List Value) :=
  (bounds_New.F () (a0.1, ())).bind fun y1 =>
  match y1.1 with
  | none => ((fulcrumref08_New.F (a0.1, ())).bind fun y3 =>
  some ((none, ((y3.1.1, (y3.1.2.1, y3.1.2.2)), ()), ()), 0, []))
  | some z2 => ((fulcrumref08_New.F (a0.1, ())).bind fun y4 =>
  let v5 := (y4.2.1 != (0 : Int))
  bif v5 then (some ((none, ((y4.1.1, (y4.1.2.1, y4.1.2.2)), ()), ()), 0, []))
  else (f6 a0.1 a0.2 (0 : Int) z2.1.1 z2.1.2 z2.2.1 z2.2.2 y4.1.1 y4.1.2.1 y4.1.2.2 (0 : Int)))
noncomputable def fulcrumlaw08_played.L6 (k : Nat) (x1_0 : Int) (x1_1 : Dt38) (x3_1 : Int) (x4_0 : Int) (x4_1 : Dt27) (x4_2 : Bool) (x4_3 : Dt26) (x6_0 : Dt26) (x6_1 : Int) (x6_2 : Dt27) (x8 : Int) : Option (((Option Dt75) × (Dt29 × Unit) × Unit) × Nat × List Value) := heads (fulcrumlaw08_played.spec.env fulcrumlaw08_played.cals T Try.f18) (Func.pts Try.f18) k 6 (fulcrumlaw08_played.m6 x1_0 x1_1 x3_1 x4_0 x4_1 x4_2 x4_3 x6_0 x6_1 x6_2 x8)
theorem fulcrumlaw08_played.L6_succ (k : Nat) (x1_0 : Int) (x1_1 : Dt38) (x3_1 : Int) (x4_0 : Int) (x4_1 : Dt27) (x4_2 : Bool) (x4_3 : Dt26) (x6_0 : Dt26) (x6_1 : Int) (x6_2 : Dt27) (x8 : Int) : fulcrumlaw08_played.L6 (k + 1) x1_0 x1_1 x3_1 x4_0 x4_1 x4_2 x4_3 x6_0 x6_1 x6_2 x8 = fulcrumlaw08_played.b6 (fulcrumlaw08_played.L6 k) x1_0 x1_1 x3_1 x4_0 x4_1 x4_2 x4_3 x6_0 x6_1 x6_2 x8 := by kernel_rfl
theorem fulcrumlaw08_played.L6_zero (x1_0 : Int) (x1_1 : Dt38) (x3_1 : Int) (x4_0 : Int) (x4_1 : Dt27) (x4_2 : Bool) (x4_3 : Dt26) (x6_0 : Dt26) (x6_1 : Int) (x6_2 : Dt27) (x8 : Int) : fulcrumlaw08_played.L6 0 x1_0 x1_1 x3_1 x4_0 x4_1 x4_2 x4_3 x6_0 x6_1 x6_2 x8 = none := by kernel_rfl
theorem fulcrumlaw08_played.eval (k : Nat) (G : Gh) (d : Unit) (a0 : Dt60) : evalX fulcrumlaw08_played.spec fulcrumlaw08_played.cals T Try.f18 k G d (a0, ()) = fulcrumlaw08_played.e (fulcrumlaw08_played.L6 k) G d a0 := by kernel_rfl
theorem fulcrumlaw08_played.of (d : Unit) (a0 : Dt60) (y : ((Option Dt75) × (Dt29 × Unit) × Unit)) (h : ∀ G : Gh, ∃ k : Nat, fulcrumlaw08_played.e (fulcrumlaw08_played.L6 k) G d a0 = some (y, (0, []))) : fulcrumlaw08_played.F d (a0, ()) = some y := limX_of (q := fulcrumlaw08_played.spec) (C := fulcrumlaw08_played.cals) (T := T) (f := Try.f18) (d := d) (x := (a0, ())) y fun G => (h G).imp fun k hk => (fulcrumlaw08_played.eval k G d a0).trans hk

/-! ### fulcrum/fulcrumlaw08.sameBound -/
def fulcrumlaw08_sameBound.spec : Spec := ⟨[(true, Kt53), (true, Kt53)], [(false, .bool)], .own, fun j => match j with  | _ => []⟩
noncomputable def fulcrumlaw08_sameBound.cals : Cals := (Cals.cons 16 fulcrummem_SameDelta.sig (Cals.base tabs))
noncomputable def fulcrumlaw08_sameBound.sig : Sig := fulcrumlaw08_sameBound.spec.sig fulcrumlaw08_sameBound.cals T Try.f20
noncomputable def fulcrumlaw08_sameBound.F (x : Dt53 × Dt53 × Unit) : Option (Bool × Unit) := limF fulcrumlaw08_sameBound.spec fulcrumlaw08_sameBound.cals T Try.f20 x
theorem fulcrumlaw08_sameBound.ck : CalsOk Try.prog fulcrumlaw08_sameBound.cals := (CalsOk.cons fulcrummem_SameDelta.cal (CalsOk.base tabsOk))
theorem fulcrumlaw08_sameBound.cal : CalOk Try.prog tabs 20 fulcrumlaw08_sameBound.sig := calOk_lim' tabOk fulcrumlaw08_sameBound.ck mix Try.func20 (by kernel_rfl) (by kernel_rfl) (by kernel_rfl) (by kernel_rfl)
noncomputable def fulcrumlaw08_sameBound.e  (a0 : Dt53) (a1 : Dt53) : Option (Bool × Unit) :=
  let v1 := (a0.1 == a1.1)
  bif v1 then (let v2 := (a0.2.2 == a1.2.2)
  bif v2 then ((fulcrummem_SameDelta.F ((((a0.2.1.1.1.1, a0.2.1.1.1.2), a0.2.1.1.2), ((a0.2.1.2.1.1, a0.2.1.2.1.2), a0.2.1.2.2)), (((a1.2.1.1.1.1, a1.2.1.1.1.2), a1.2.1.1.2), ((a1.2.1.2.1.1, a1.2.1.2.1.2), a1.2.1.2.2)), ())).bind fun y3 =>
  some (y3.1, ()))
  else (some (false, ())))
  else (some (false, ()))
theorem fulcrumlaw08_sameBound.eval (k : Nat) (a0 : Dt53) (a1 : Dt53) : evalF fulcrumlaw08_sameBound.spec fulcrumlaw08_sameBound.cals T Try.f20 k (a0, a1, ()) = fulcrumlaw08_sameBound.e  a0 a1 := by kernel_rfl
theorem fulcrumlaw08_sameBound.F_eq (a0 : Dt53) (a1 : Dt53) : fulcrumlaw08_sameBound.F (a0, a1, ()) = limF fulcrumlaw08_sameBound.spec fulcrumlaw08_sameBound.cals T Try.f20 (a0, a1, ()) := by kernel_rfl
theorem fulcrumlaw08_sameBound.of (k : Nat) (a0 : Dt53) (a1 : Dt53) {y : Bool × Unit} (h : fulcrumlaw08_sameBound.e  a0 a1 = some y) : fulcrumlaw08_sameBound.F (a0, a1, ()) = some y := (fulcrumlaw08_sameBound.F_eq a0 a1).trans (limF_of (q := fulcrumlaw08_sameBound.spec) (C := fulcrumlaw08_sameBound.cals) (T := T) (f := Try.f20) (x := (a0, a1, ())) (y := y) k ((fulcrumlaw08_sameBound.eval k a0 a1).trans h))

/-! ### fulcrum/fulcrumlaw08.sameLimit -/
def fulcrumlaw08_sameLimit.spec : Spec := ⟨[(true, Kt55), (true, Kt55)], [(false, .bool)], .own, fun j => match j with  | _ => []⟩
noncomputable def fulcrumlaw08_sameLimit.cals : Cals := (Cals.cons 20 fulcrumlaw08_sameBound.sig (Cals.base tabs))
noncomputable def fulcrumlaw08_sameLimit.sig : Sig := fulcrumlaw08_sameLimit.spec.sig fulcrumlaw08_sameLimit.cals T Try.f43
noncomputable def fulcrumlaw08_sameLimit.F (x : Dt55 × Dt55 × Unit) : Option (Bool × Unit) := limF fulcrumlaw08_sameLimit.spec fulcrumlaw08_sameLimit.cals T Try.f43 x
theorem fulcrumlaw08_sameLimit.ck : CalsOk Try.prog fulcrumlaw08_sameLimit.cals := (CalsOk.cons fulcrumlaw08_sameBound.cal (CalsOk.base tabsOk))
theorem fulcrumlaw08_sameLimit.cal : CalOk Try.prog tabs 43 fulcrumlaw08_sameLimit.sig := calOk_lim' tabOk fulcrumlaw08_sameLimit.ck mix Try.func43 (by kernel_rfl) (by kernel_rfl) (by kernel_rfl) (by kernel_rfl)
noncomputable def fulcrumlaw08_sameLimit.e  (a0 : Dt55) (a1 : Dt55) : Option (Bool × Unit) :=
  (fulcrumlaw08_sameBound.F ((a0.1.1, ((((a0.1.2.1.1.1.1, a0.1.2.1.1.1.2), a0.1.2.1.1.2), ((a0.1.2.1.2.1.1, a0.1.2.1.2.1.2), a0.1.2.1.2.2)), a0.1.2.2)), (a1.1.1, ((((a1.1.2.1.1.1.1, a1.1.2.1.1.1.2), a1.1.2.1.1.2), ((a1.1.2.1.2.1.1, a1.1.2.1.2.1.2), a1.1.2.1.2.2)), a1.1.2.2)), ())).bind fun y1 =>
  bif y1.1 then ((fulcrumlaw08_sameBound.F ((a0.2.1, ((((a0.2.2.1.1.1.1, a0.2.2.1.1.1.2), a0.2.2.1.1.2), ((a0.2.2.1.2.1.1, a0.2.2.1.2.1.2), a0.2.2.1.2.2)), a0.2.2.2)), (a1.2.1, ((((a1.2.2.1.1.1.1, a1.2.2.1.1.1.2), a1.2.2.1.1.2), ((a1.2.2.1.2.1.1, a1.2.2.1.2.1.2), a1.2.2.1.2.2)), a1.2.2.2)), ())).bind fun y2 =>
  some (y2.1, ()))
  else (some (false, ()))
theorem fulcrumlaw08_sameLimit.eval (k : Nat) (a0 : Dt55) (a1 : Dt55) : evalF fulcrumlaw08_sameLimit.spec fulcrumlaw08_sameLimit.cals T Try.f43 k (a0, a1, ()) = fulcrumlaw08_sameLimit.e  a0 a1 := by kernel_rfl
theorem fulcrumlaw08_sameLimit.F_eq (a0 : Dt55) (a1 : Dt55) : fulcrumlaw08_sameLimit.F (a0, a1, ()) = limF fulcrumlaw08_sameLimit.spec fulcrumlaw08_sameLimit.cals T Try.f43 (a0, a1, ()) := by kernel_rfl
theorem fulcrumlaw08_sameLimit.of (k : Nat) (a0 : Dt55) (a1 : Dt55) {y : Bool × Unit} (h : fulcrumlaw08_sameLimit.e  a0 a1 = some y) : fulcrumlaw08_sameLimit.F (a0, a1, ()) = some y := (fulcrumlaw08_sameLimit.F_eq a0 a1).trans (limF_of (q := fulcrumlaw08_sameLimit.spec) (C := fulcrumlaw08_sameLimit.cals) (T := T) (f := Try.f43) (x := (a0, a1, ())) (y := y) k ((fulcrumlaw08_sameLimit.eval k a0 a1).trans h))

/-! ### fulcrum/fulcrumlaw08.sameLimits -/
def fulcrumlaw08_sameLimits.spec : Spec := ⟨[(false, Kt26), (false, Kt26)], [(false, .bool)], .own, fun j => match j with | 4 => [(0, .lf (.z 55 Kt55 false)), (1, .lf (.z 55 Kt55 false)), (5, .lf (.v true))] | _ => []⟩
noncomputable def fulcrumlaw08_sameLimits.cals : Cals := (Cals.cons 43 fulcrumlaw08_sameLimit.sig (Cals.base tabs))
noncomputable def fulcrumlaw08_sameLimits.sig : Sig := fulcrumlaw08_sameLimits.spec.sig fulcrumlaw08_sameLimits.cals T Try.f24
noncomputable def fulcrumlaw08_sameLimits.F (x : Dt26 × Dt26 × Unit) : Option (Bool × Unit) := limF fulcrumlaw08_sameLimits.spec fulcrumlaw08_sameLimits.cals T Try.f24 x
theorem fulcrumlaw08_sameLimits.ck : CalsOk Try.prog fulcrumlaw08_sameLimits.cals := (CalsOk.cons fulcrumlaw08_sameLimit.cal (CalsOk.base tabsOk))
theorem fulcrumlaw08_sameLimits.cal : CalOk Try.prog tabs 24 fulcrumlaw08_sameLimits.sig := calOk_lim' tabOk fulcrumlaw08_sameLimits.ck mix Try.func24 (by kernel_rfl) (by kernel_rfl) (by kernel_rfl) (by kernel_rfl)
def fulcrumlaw08_sameLimits.m4 (x0 : Dt26) (x1 : Dt26) (x5 : Int) : S := ⟨[(0, .one (.lf (.val false Kt26 x0))), (1, .one (.lf (.val false Kt26 x1))), (5, .one (.lf (.val true (.int .i64) x5)))], ⟨[], []⟩⟩
noncomputable def fulcrumlaw08_sameLimits.b4 (f4 : Dt26 → Dt26 → Int → Option (Bool × Unit)) (x0 : Dt26) (x1 : Dt26) (x5 : Int) : Option (Bool × Unit) :=
  let v1 := (List.length x0 : Int)
  let v2 := decide (x5 < v1)
  bif v2 then (bif decide (0 ≤ x5) && decide (x5 < (List.length x0 : Int)) then (let v3 := ((List.getD x0 (Int.toNat x5) zt55).1).1
  let v4 := ((((((List.getD x0 (Int.toNat x5) zt55).1).2).1).1).1).1
  let v5 := ((((((List.getD x0 (Int.toNat x5) zt55).1).2).1).1).1).2
  let v6 := (((((List.getD x0 (Int.toNat x5) zt55).1).2).1).1).2
  let v7 := ((((((List.getD x0 (Int.toNat x5) zt55).1).2).1).2).1).1
  let v8 := ((((((List.getD x0 (Int.toNat x5) zt55).1).2).1).2).1).2
  let v9 := (((((List.getD x0 (Int.toNat x5) zt55).1).2).1).2).2
  let v10 := (((List.getD x0 (Int.toNat x5) zt55).1).2).2
  let v11 := ((List.getD x0 (Int.toNat x5) zt55).2).1
  let v12 := ((((((List.getD x0 (Int.toNat x5) zt55).2).2).1).1).1).1
  let v13 := ((((((List.getD x0 (Int.toNat x5) zt55).2).2).1).1).1).2
  let v14 := (((((List.getD x0 (Int.toNat x5) zt55).2).2).1).1).2
  let v15 := ((((((List.getD x0 (Int.toNat x5) zt55).2).2).1).2).1).1
  let v16 := ((((((List.getD x0 (Int.toNat x5) zt55).2).2).1).2).1).2
  let v17 := (((((List.getD x0 (Int.toNat x5) zt55).2).2).1).2).2
  let v18 := (((List.getD x0 (Int.toNat x5) zt55).2).2).2
  bif decide (0 ≤ x5) && decide (x5 < (List.length x1 : Int)) then (let v19 := ((List.getD x1 (Int.toNat x5) zt55).1).1
  let v20 := ((((((List.getD x1 (Int.toNat x5) zt55).1).2).1).1).1).1
  let v21 := ((((((List.getD x1 (Int.toNat x5) zt55).1).2).1).1).1).2
  let v22 := (((((List.getD x1 (Int.toNat x5) zt55).1).2).1).1).2
  let v23 := ((((((List.getD x1 (Int.toNat x5) zt55).1).2).1).2).1).1
  let v24 := ((((((List.getD x1 (Int.toNat x5) zt55).1).2).1).2).1).2
  let v25 := (((((List.getD x1 (Int.toNat x5) zt55).1).2).1).2).2
  let v26 := (((List.getD x1 (Int.toNat x5) zt55).1).2).2
  let v27 := ((List.getD x1 (Int.toNat x5) zt55).2).1
  let v28 := ((((((List.getD x1 (Int.toNat x5) zt55).2).2).1).1).1).1
  let v29 := ((((((List.getD x1 (Int.toNat x5) zt55).2).2).1).1).1).2
  let v30 := (((((List.getD x1 (Int.toNat x5) zt55).2).2).1).1).2
  let v31 := ((((((List.getD x1 (Int.toNat x5) zt55).2).2).1).2).1).1
  let v32 := ((((((List.getD x1 (Int.toNat x5) zt55).2).2).1).2).1).2
  let v33 := (((((List.getD x1 (Int.toNat x5) zt55).2).2).1).2).2
  let v34 := (((List.getD x1 (Int.toNat x5) zt55).2).2).2
  (fulcrumlaw08_sameLimit.F (((v3, ((((v4, v5), v6), ((v7, v8), v9)), v10)), (v11, ((((v12, v13), v14), ((v15, v16), v17)), v18))), ((v19, ((((v20, v21), v22), ((v23, v24), v25)), v26)), (v27, ((((v28, v29), v30), ((v31, v32), v33)), v34))), ())).bind fun y35 =>
  let v36 := not y35.1
  bif v36 then (some (false, ()))
  else (let v37 := IntKind.i64.wrap (x5 + (1 : Int))
  f4 x0 x1 v37))
  else none)
  else none)
  else (some (true, ()))
noncomputable def fulcrumlaw08_sameLimits.e (f4 : Dt26 → Dt26 → Int → Option (Bool × Unit)) (a0 : Dt26) (a1 : Dt26) : Option (Bool × Unit) :=
  let v1 := (List.length a0 : Int)
  let v2 := (List.length a1 : Int)
  let v3 := (v1 != v2)
  bif v3 then (some (false, ()))
  else (f4 a0 a1 (0 : Int))
noncomputable def fulcrumlaw08_sameLimits.L4 (k : Nat) (x0 : Dt26) (x1 : Dt26) (x5 : Int) : Option (Bool × Unit) := heads (fulcrumlaw08_sameLimits.spec.env fulcrumlaw08_sameLimits.cals T Try.f24) (Func.pts Try.f24) k 4 (fulcrumlaw08_sameLimits.m4 x0 x1 x5)
theorem fulcrumlaw08_sameLimits.L4_succ (k : Nat) (x0 : Dt26) (x1 : Dt26) (x5 : Int) : fulcrumlaw08_sameLimits.L4 (k + 1) x0 x1 x5 = fulcrumlaw08_sameLimits.b4 (fulcrumlaw08_sameLimits.L4 k) x0 x1 x5 := by kernel_rfl
theorem fulcrumlaw08_sameLimits.L4_zero (x0 : Dt26) (x1 : Dt26) (x5 : Int) : fulcrumlaw08_sameLimits.L4 0 x0 x1 x5 = none := by kernel_rfl
theorem fulcrumlaw08_sameLimits.eval (k : Nat) (a0 : Dt26) (a1 : Dt26) : evalF fulcrumlaw08_sameLimits.spec fulcrumlaw08_sameLimits.cals T Try.f24 k (a0, a1, ()) = fulcrumlaw08_sameLimits.e (fulcrumlaw08_sameLimits.L4 k) a0 a1 := by kernel_rfl
theorem fulcrumlaw08_sameLimits.F_eq (a0 : Dt26) (a1 : Dt26) : fulcrumlaw08_sameLimits.F (a0, a1, ()) = limF fulcrumlaw08_sameLimits.spec fulcrumlaw08_sameLimits.cals T Try.f24 (a0, a1, ()) := by kernel_rfl
theorem fulcrumlaw08_sameLimits.of (k : Nat) (a0 : Dt26) (a1 : Dt26) {y : Bool × Unit} (h : fulcrumlaw08_sameLimits.e (fulcrumlaw08_sameLimits.L4 k) a0 a1 = some y) : fulcrumlaw08_sameLimits.F (a0, a1, ()) = some y := (fulcrumlaw08_sameLimits.F_eq a0 a1).trans (limF_of (q := fulcrumlaw08_sameLimits.spec) (C := fulcrumlaw08_sameLimits.cals) (T := T) (f := Try.f24) (x := (a0, a1, ())) (y := y) k ((fulcrumlaw08_sameLimits.eval k a0 a1).trans h))

end Go.Fx.Try
