import Derived.Test.YthmdbafinpmojaaW08a
namespace Go.Fx.Try
open Go Go.Proofs Go.Fx
set_option linter.unusedVariables false
set_option maxRecDepth 100000


def fulcrumref08_Grow.spec : Spec := ⟨[(true, Kt29)], [(true, Kt29), (false, (.int .i64)), (false, (.int .i64))], .shared, fun j => match j with  | _ => []⟩
noncomputable def fulcrumref08_Grow.cals : Cals := (Cals.cons 32 fulcrumref08_Copy.sig (Cals.base tabs))
noncomputable def fulcrumref08_Grow.sig : Sig := fulcrumref08_Grow.spec.sig fulcrumref08_Grow.cals T Try.f11
noncomputable def fulcrumref08_Grow.F (x : Dt29 × Unit) : Option (Dt29 × Int × Int × Unit) := limF fulcrumref08_Grow.spec fulcrumref08_Grow.cals T Try.f11 x
theorem fulcrumref08_Grow.ck : CalsOk Try.prog fulcrumref08_Grow.cals := (CalsOk.cons fulcrumref08_Copy.cal (CalsOk.base tabsOk))
theorem fulcrumref08_Grow.cal : CalOk Try.prog tabs 11 fulcrumref08_Grow.sig := calOk_lim' tabOk fulcrumref08_Grow.ck mix Try.func11 (by kernel_rfl) (by kernel_rfl) (by kernel_rfl) (by kernel_rfl)
noncomputable def fulcrumref08_Grow.e  (a0 : Dt29) : Option (Dt29 × Int × Int × Unit) :=
  let v1 := (List.length a0.1 : Int)
  let v2 := decide (v1 ≥ (65536 : Int))
  bif v2 then (some ((a0.1, (a0.2.1, a0.2.2)), (0 : Int), (2 : Int), ()))
  else ((fulcrumref08_Copy.F ((a0.1, (a0.2.1, a0.2.2)), ())).bind fun y3 =>
  let v4 := ([zt55] : List Dt55)
  bif decide (List.length y3.1.1 + List.length v4 < 549755813888) then (let v5 := List.append y3.1.1 v4
  let v6 := (List.length a0.1 : Int)
  some ((v5, (y3.1.2.1, y3.1.2.2)), v6, (0 : Int), ()))
  else none)
theorem fulcrumref08_Grow.eval (k : Nat) (a0 : Dt29) : evalF fulcrumref08_Grow.spec fulcrumref08_Grow.cals T Try.f11 k (a0, ()) = fulcrumref08_Grow.e  a0 := by kernel_rfl
theorem fulcrumref08_Grow.F_eq (a0 : Dt29) : fulcrumref08_Grow.F (a0, ()) = limF fulcrumref08_Grow.spec fulcrumref08_Grow.cals T Try.f11 (a0, ()) := by kernel_rfl
theorem fulcrumref08_Grow.of (k : Nat) (a0 : Dt29) {y : Dt29 × Int × Int × Unit} (h : fulcrumref08_Grow.e  a0 = some y) : fulcrumref08_Grow.F (a0, ()) = some y := (fulcrumref08_Grow.F_eq a0).trans (limF_of (q := fulcrumref08_Grow.spec) (C := fulcrumref08_Grow.cals) (T := T) (f := Try.f11) (x := (a0, ())) (y := y) k ((fulcrumref08_Grow.eval k a0).trans h))

def nat_Add.spec : Spec := ⟨[(false, Kt41), (false, Kt41)], [(false, Kt41)], .own, fun j => match j with | 6 => [(0, .lf (.z 115 (.int .u32) false)), (1, .lf (.z 115 (.int .u32) false)), (5, .lf (.o 115 (.int .u32) true)), (6, .lf (.v true)), (21, .lf (.v true)), (22, .lf (.v true))] | _ => []⟩
noncomputable def nat_Add.cals : Cals := (Cals.cons 112 bits_Add32.sig (Cals.cons 96 nat_own.sig (Cals.base tabs)))
noncomputable def nat_Add.sig : Sig := nat_Add.spec.sig nat_Add.cals T Try.f109
noncomputable def nat_Add.F (x : Dt41 × Dt41 × Unit) : Option (Dt41 × Unit) := limF nat_Add.spec nat_Add.cals T Try.f109 x
theorem nat_Add.ck : CalsOk Try.prog nat_Add.cals := (CalsOk.cons bits_Add32.cal (CalsOk.cons nat_own.cal (CalsOk.base tabsOk)))
theorem nat_Add.cal : CalOk Try.prog tabs 109 nat_Add.sig := calOk_lim' tabOk nat_Add.ck mix Try.func109 (by kernel_rfl) (by kernel_rfl) (by kernel_rfl) (by kernel_rfl)
def nat_Add.m6 (x0 : Dt41) (x1 : Dt41) (x5 : Dt41) (x6 : Int) (x21 : Int) (x22 : Int) : S := ⟨[(0, .one (.lf (.val false Kt41 x0))), (1, .one (.lf (.val false Kt41 x1))), (5, .one (.lf (.own 0))), (6, .one (.lf (.val true (.int .u32) x6))), (21, .one (.lf (.val true (.int .i64) x21))), (22, .one (.lf (.val true (.int .i64) x22)))], ⟨[some ⟨115, (.int .u32), true, true, x5⟩], []⟩⟩
noncomputable def nat_Add.b6 (f6 : Dt41 → Dt41 → Dt41 → Int → Int → Int → Option (Dt41 × Unit)) (x0 : Dt41) (x1 : Dt41) (x5 : Dt41) (x6 : Int) (x21 : Int) (x22 : Int) : Option (Dt41 × Unit) :=
  let v1 := decide (x22 < x21)
  bif v1 then (let v2 := (List.length x1 : Int)
  let v3 := decide (x22 < v2)
  bif v3 then (bif decide (0 ≤ x22) && decide (x22 < (List.length x1 : Int)) then (let v4 := List.getD x1 (Int.toNat x22) (0 : Int)
  bif decide (0 ≤ x22) && decide (x22 < (List.length x0 : Int)) then (let v5 := List.getD x0 (Int.toNat x22) (0 : Int)
  (bits_Add32.F (v5, v4, x6, ())).bind fun y6 =>
  bif decide (0 ≤ x22) && decide (x22 < (List.length x5 : Int)) then (let v7 := List.set x5 (Int.toNat x22) y6.1
  let v8 := IntKind.i64.wrap (x22 + (1 : Int))
  f6 x0 x1 v7 y6.2.1 x21 v8)
  else none)
  else none)
  else none)
  else (bif decide (0 ≤ x22) && decide (x22 < (List.length x0 : Int)) then (let v9 := List.getD x0 (Int.toNat x22) (0 : Int)
  (bits_Add32.F (v9, (0 : Int), x6, ())).bind fun y10 =>
  bif decide (0 ≤ x22) && decide (x22 < (List.length x5 : Int)) then (let v11 := List.set x5 (Int.toNat x22) y10.1
  let v12 := IntKind.i64.wrap (x22 + (1 : Int))
  f6 x0 x1 v11 y10.2.1 x21 v12)
  else none)
  else none))
  else (let v13 := (List.length x0 : Int)
  bif decide (0 ≤ v13) && decide (v13 < (List.length x5 : Int)) then (let v14 := List.set x5 (Int.toNat v13) x6
  (nat_own.F (v14, ())).bind fun y15 =>
  some (y15.1, ()))
  else none)
noncomputable def nat_Add.e (f6 : Dt41 → Dt41 → Dt41 → Int → Int → Int → Option (Dt41 × Unit)) (a0 : Dt41) (a1 : Dt41) : Option (Dt41 × Unit) :=
  let v1 := (List.length a0 : Int)
  let v2 := (List.length a1 : Int)
  let v3 := decide (v1 < v2)
  bif v3 then (let v4 := (List.length a1 : Int)
  let v5 := IntKind.i64.wrap (v4 + (1 : Int))
  bif decide (0 ≤ v5) && (decide (v5 ≤ v5) && (decide (Int.toNat v5 * 4 ≤ 281474976710656) && Nat.blt 0 4)) then (let v6 := List.replicate (Int.toNat v5) (0 : Int)
  let v7 := (List.length a1 : Int)
  f6 a1 a0 v6 (0 : Int) v7 (0 : Int))
  else none)
  else (let v8 := (List.length a0 : Int)
  let v9 := IntKind.i64.wrap (v8 + (1 : Int))
  bif decide (0 ≤ v9) && (decide (v9 ≤ v9) && (decide (Int.toNat v9 * 4 ≤ 281474976710656) && Nat.blt 0 4)) then (let v10 := List.replicate (Int.toNat v9) (0 : Int)
  let v11 := (List.length a0 : Int)
  f6 a0 a1 v10 (0 : Int) v11 (0 : Int))
  else none)
noncomputable def nat_Add.L6 (k : Nat) (x0 : Dt41) (x1 : Dt41) (x5 : Dt41) (x6 : Int) (x21 : Int) (x22 : Int) : Option (Dt41 × Unit) := heads (nat_Add.spec.env nat_Add.cals T Try.f109) (Func.pts Try.f109) k 6 (nat_Add.m6 x0 x1 x5 x6 x21 x22)
theorem nat_Add.L6_succ (k : Nat) (x0 : Dt41) (x1 : Dt41) (x5 : Dt41) (x6 : Int) (x21 : Int) (x22 : Int) : nat_Add.L6 (k + 1) x0 x1 x5 x6 x21 x22 = nat_Add.b6 (nat_Add.L6 k) x0 x1 x5 x6 x21 x22 := by kernel_rfl
theorem nat_Add.eval (k : Nat) (a0 : Dt41) (a1 : Dt41) : evalF nat_Add.spec nat_Add.cals T Try.f109 k (a0, a1, ()) = nat_Add.e (nat_Add.L6 k) a0 a1 := by kernel_rfl
theorem nat_Add.F_eq (a0 : Dt41) (a1 : Dt41) : nat_Add.F (a0, a1, ()) = limF nat_Add.spec nat_Add.cals T Try.f109 (a0, a1, ()) := by kernel_rfl
theorem nat_Add.of (k : Nat) (a0 : Dt41) (a1 : Dt41) {y : Dt41 × Unit} (h : nat_Add.e (nat_Add.L6 k) a0 a1 = some y) : nat_Add.F (a0, a1, ()) = some y := (nat_Add.F_eq a0 a1).trans (limF_of (q := nat_Add.spec) (C := nat_Add.cals) (T := T) (f := Try.f109) (x := (a0, a1, ())) (y := y) k ((nat_Add.eval k a0 a1).trans h))

def nat_Sub.spec : Spec := ⟨[(false, Kt41), (false, Kt41)], [(false, Kt41), (false, (.int .i64))], .own, fun j => match j with | 7 => [(0, .lf (.z 115 (.int .u32) false)), (1, .lf (.z 115 (.int .u32) false)), (6, .lf (.o 115 (.int .u32) true)), (7, .lf (.v true)), (20, .lf (.v true)), (21, .lf (.v true))] | _ => []⟩
noncomputable def nat_Sub.cals : Cals := (Cals.cons 97 nat_Cmp.sig (Cals.cons 80 nat_trim.sig (Cals.cons 111 bits_Sub32.sig (Cals.cons 96 nat_own.sig (Cals.base tabs)))))
noncomputable def nat_Sub.sig : Sig := nat_Sub.spec.sig nat_Sub.cals T Try.f110
noncomputable def nat_Sub.F (x : Dt41 × Dt41 × Unit) : Option (Dt41 × Int × Unit) := limF nat_Sub.spec nat_Sub.cals T Try.f110 x
theorem nat_Sub.ck : CalsOk Try.prog nat_Sub.cals := (CalsOk.cons nat_Cmp.cal (CalsOk.cons nat_trim.cal (CalsOk.cons bits_Sub32.cal (CalsOk.cons nat_own.cal (CalsOk.base tabsOk)))))
theorem nat_Sub.cal : CalOk Try.prog tabs 110 nat_Sub.sig := calOk_lim' tabOk nat_Sub.ck mix Try.func110 (by kernel_rfl) (by kernel_rfl) (by kernel_rfl) (by kernel_rfl)
def nat_Sub.m7 (x0 : Dt41) (x1 : Dt41) (x6 : Dt41) (x7 : Int) (x20 : Int) (x21 : Int) : S := ⟨[(0, .one (.lf (.val false Kt41 x0))), (1, .one (.lf (.val false Kt41 x1))), (6, .one (.lf (.own 0))), (7, .one (.lf (.val true (.int .u32) x7))), (20, .one (.lf (.val true (.int .i64) x20))), (21, .one (.lf (.val true (.int .i64) x21)))], ⟨[some ⟨115, (.int .u32), true, true, x6⟩], []⟩⟩
noncomputable def nat_Sub.b7 (f7 : Dt41 → Dt41 → Dt41 → Int → Int → Int → Option (Dt41 × Int × Unit)) (x0 : Dt41) (x1 : Dt41) (x6 : Dt41) (x7 : Int) (x20 : Int) (x21 : Int) : Option (Dt41 × Int × Unit) :=
  let v1 := decide (x21 < x20)
  bif v1 then (let v2 := (List.length x1 : Int)
  let v3 := decide (x21 < v2)
  bif v3 then (bif decide (0 ≤ x21) && decide (x21 < (List.length x1 : Int)) then (let v4 := List.getD x1 (Int.toNat x21) (0 : Int)
  bif decide (0 ≤ x21) && decide (x21 < (List.length x0 : Int)) then (let v5 := List.getD x0 (Int.toNat x21) (0 : Int)
  (bits_Sub32.F (v5, v4, x7, ())).bind fun y6 =>
  bif decide (0 ≤ x21) && decide (x21 < (List.length x6 : Int)) then (let v7 := List.set x6 (Int.toNat x21) y6.1
  let v8 := IntKind.i64.wrap (x21 + (1 : Int))
  f7 x0 x1 v7 y6.2.1 x20 v8)
  else none)
  else none)
  else none)
  else (bif decide (0 ≤ x21) && decide (x21 < (List.length x0 : Int)) then (let v9 := List.getD x0 (Int.toNat x21) (0 : Int)
  (bits_Sub32.F (v9, (0 : Int), x7, ())).bind fun y10 =>
  bif decide (0 ≤ x21) && decide (x21 < (List.length x6 : Int)) then (let v11 := List.set x6 (Int.toNat x21) y10.1
  let v12 := IntKind.i64.wrap (x21 + (1 : Int))
  f7 x0 x1 v11 y10.2.1 x20 v12)
  else none)
  else none))
  else ((nat_own.F (x6, ())).bind fun y13 =>
  some (y13.1, (0 : Int), ()))
noncomputable def nat_Sub.e (f7 : Dt41 → Dt41 → Dt41 → Int → Int → Int → Option (Dt41 × Int × Unit)) (a0 : Dt41) (a1 : Dt41) : Option (Dt41 × Int × Unit) :=
  (nat_Cmp.F (a0, a1, ())).bind fun y1 =>
  let v2 := decide (y1.1 < (0 : Int))
  bif v2 then (some (zt41, (10 : Int), ()))
  else ((nat_trim.F (a1, ())).bind fun y3 =>
  let v4 := (List.length a0 : Int)
  bif decide (0 ≤ v4) && (decide (v4 ≤ v4) && (decide (Int.toNat v4 * 4 ≤ 281474976710656) && Nat.blt 0 4)) then (let v5 := List.replicate (Int.toNat v4) (0 : Int)
  let v6 := (List.length a0 : Int)
  f7 a0 y3.1 v5 (0 : Int) v6 (0 : Int))
  else none)
noncomputable def nat_Sub.L7 (k : Nat) (x0 : Dt41) (x1 : Dt41) (x6 : Dt41) (x7 : Int) (x20 : Int) (x21 : Int) : Option (Dt41 × Int × Unit) := heads (nat_Sub.spec.env nat_Sub.cals T Try.f110) (Func.pts Try.f110) k 7 (nat_Sub.m7 x0 x1 x6 x7 x20 x21)
theorem nat_Sub.L7_succ (k : Nat) (x0 : Dt41) (x1 : Dt41) (x6 : Dt41) (x7 : Int) (x20 : Int) (x21 : Int) : nat_Sub.L7 (k + 1) x0 x1 x6 x7 x20 x21 = nat_Sub.b7 (nat_Sub.L7 k) x0 x1 x6 x7 x20 x21 := by kernel_rfl
theorem nat_Sub.eval (k : Nat) (a0 : Dt41) (a1 : Dt41) : evalF nat_Sub.spec nat_Sub.cals T Try.f110 k (a0, a1, ()) = nat_Sub.e (nat_Sub.L7 k) a0 a1 := by kernel_rfl
theorem nat_Sub.F_eq (a0 : Dt41) (a1 : Dt41) : nat_Sub.F (a0, a1, ()) = limF nat_Sub.spec nat_Sub.cals T Try.f110 (a0, a1, ()) := by kernel_rfl
theorem nat_Sub.of (k : Nat) (a0 : Dt41) (a1 : Dt41) {y : Dt41 × Int × Unit} (h : nat_Sub.e (nat_Sub.L7 k) a0 a1 = some y) : nat_Sub.F (a0, a1, ()) = some y := (nat_Sub.F_eq a0 a1).trans (limF_of (q := nat_Sub.spec) (C := nat_Sub.cals) (T := T) (f := Try.f110) (x := (a0, a1, ())) (y := y) k ((nat_Sub.eval k a0 a1).trans h))

def whole_Add.spec : Spec := ⟨[(true, Kt43), (true, Kt43)], [(true, Kt43)], .own, fun j => match j with  | _ => []⟩
noncomputable def whole_Add.cals : Cals := (Cals.cons 85 whole_Sign.sig (Cals.cons 109 nat_Add.sig (Cals.cons 87 whole_signed.sig (Cals.cons 97 nat_Cmp.sig (Cals.cons 110 nat_Sub.sig (Cals.base tabs))))))
noncomputable def whole_Add.sig : Sig := whole_Add.spec.sig whole_Add.cals T Try.f101
noncomputable def whole_Add.F (x : Dt43 × Dt43 × Unit) : Option (Dt43 × Unit) := limF whole_Add.spec whole_Add.cals T Try.f101 x
theorem whole_Add.ck : CalsOk Try.prog whole_Add.cals := (CalsOk.cons whole_Sign.cal (CalsOk.cons nat_Add.cal (CalsOk.cons whole_signed.cal (CalsOk.cons nat_Cmp.cal (CalsOk.cons nat_Sub.cal (CalsOk.base tabsOk))))))
theorem whole_Add.cal : CalOk Try.prog tabs 101 whole_Add.sig := calOk_lim' tabOk whole_Add.ck mix Try.func101 (by kernel_rfl) (by kernel_rfl) (by kernel_rfl) (by kernel_rfl)
noncomputable def whole_Add.e  (a0 : Dt43) (a1 : Dt43) : Option (Dt43 × Unit) :=
  (whole_Sign.F ((a0.1, a0.2), ())).bind fun y1 =>
  (whole_Sign.F ((a1.1, a1.2), ())).bind fun y2 =>
  let v3 := IntKind.i64.wrap (y1.1 * y2.1)
  let v4 := decide (v3 ≥ (0 : Int))
  bif v4 then ((nat_Add.F (a0.2, a1.2, ())).bind fun y5 =>
  let v6 := bitsOp .or .i64 y1.1 y2.1
  let v7 := bitsOp .or .i64 v6 (1 : Int)
  let v8 := ([v7] : List Int)
  (whole_signed.F (y5.1, v8, ())).bind fun y9 =>
  some ((y9.1.1, y9.1.2), ()))
  else ((nat_Cmp.F (a0.2, a1.2, ())).bind fun y10 =>
  let v11 := decide (y10.1 ≥ (0 : Int))
  bif v11 then ((nat_Sub.F (a0.2, a1.2, ())).bind fun y12 =>
  let v13 := ([y1.1] : List Int)
  (whole_signed.F (y12.1, v13, ())).bind fun y14 =>
  some ((y14.1.1, y14.1.2), ()))
  else ((nat_Sub.F (a1.2, a0.2, ())).bind fun y15 =>
  let v16 := ([y2.1] : List Int)
  (whole_signed.F (y15.1, v16, ())).bind fun y17 =>
  some ((y17.1.1, y17.1.2), ())))
theorem whole_Add.eval (k : Nat) (a0 : Dt43) (a1 : Dt43) : evalF whole_Add.spec whole_Add.cals T Try.f101 k (a0, a1, ()) = whole_Add.e  a0 a1 := by kernel_rfl
theorem whole_Add.F_eq (a0 : Dt43) (a1 : Dt43) : whole_Add.F (a0, a1, ()) = limF whole_Add.spec whole_Add.cals T Try.f101 (a0, a1, ()) := by kernel_rfl
theorem whole_Add.of (k : Nat) (a0 : Dt43) (a1 : Dt43) {y : Dt43 × Unit} (h : whole_Add.e  a0 a1 = some y) : whole_Add.F (a0, a1, ()) = some y := (whole_Add.F_eq a0 a1).trans (limF_of (q := whole_Add.spec) (C := whole_Add.cals) (T := T) (f := Try.f101) (x := (a0, a1, ())) (y := y) k ((whole_Add.eval k a0 a1).trans h))

def whole_Neg.spec : Spec := ⟨[(true, Kt43)], [(true, Kt43)], .own, fun j => match j with  | _ => []⟩
noncomputable def whole_Neg.cals : Cals := (Cals.cons 85 whole_Sign.sig (Cals.cons 87 whole_signed.sig (Cals.base tabs)))
noncomputable def whole_Neg.sig : Sig := whole_Neg.spec.sig whole_Neg.cals T Try.f102
noncomputable def whole_Neg.F (x : Dt43 × Unit) : Option (Dt43 × Unit) := limF whole_Neg.spec whole_Neg.cals T Try.f102 x
theorem whole_Neg.ck : CalsOk Try.prog whole_Neg.cals := (CalsOk.cons whole_Sign.cal (CalsOk.cons whole_signed.cal (CalsOk.base tabsOk)))
theorem whole_Neg.cal : CalOk Try.prog tabs 102 whole_Neg.sig := calOk_lim' tabOk whole_Neg.ck mix Try.func102 (by kernel_rfl) (by kernel_rfl) (by kernel_rfl) (by kernel_rfl)
noncomputable def whole_Neg.e  (a0 : Dt43) : Option (Dt43 × Unit) :=
  (whole_Sign.F ((a0.1, a0.2), ())).bind fun y1 =>
  let v2 := ([(-1 : Int), y1.1] : List Int)
  (whole_signed.F (a0.2, v2, ())).bind fun y3 =>
  some ((y3.1.1, y3.1.2), ())
theorem whole_Neg.eval (k : Nat) (a0 : Dt43) : evalF whole_Neg.spec whole_Neg.cals T Try.f102 k (a0, ()) = whole_Neg.e  a0 := by kernel_rfl
theorem whole_Neg.F_eq (a0 : Dt43) : whole_Neg.F (a0, ()) = limF whole_Neg.spec whole_Neg.cals T Try.f102 (a0, ()) := by kernel_rfl
theorem whole_Neg.of (k : Nat) (a0 : Dt43) {y : Dt43 × Unit} (h : whole_Neg.e  a0 = some y) : whole_Neg.F (a0, ()) = some y := (whole_Neg.F_eq a0).trans (limF_of (q := whole_Neg.spec) (C := whole_Neg.cals) (T := T) (f := Try.f102) (x := (a0, ())) (y := y) k ((whole_Neg.eval k a0).trans h))

def whole_Sub.spec : Spec := ⟨[(true, Kt43), (true, Kt43)], [(true, Kt43)], .own, fun j => match j with  | _ => []⟩
noncomputable def whole_Sub.cals : Cals := (Cals.cons 102 whole_Neg.sig (Cals.cons 101 whole_Add.sig (Cals.base tabs)))
noncomputable def whole_Sub.sig : Sig := whole_Sub.spec.sig whole_Sub.cals T Try.f86
noncomputable def whole_Sub.F (x : Dt43 × Dt43 × Unit) : Option (Dt43 × Unit) := limF whole_Sub.spec whole_Sub.cals T Try.f86 x
theorem whole_Sub.ck : CalsOk Try.prog whole_Sub.cals := (CalsOk.cons whole_Neg.cal (CalsOk.cons whole_Add.cal (CalsOk.base tabsOk)))
theorem whole_Sub.cal : CalOk Try.prog tabs 86 whole_Sub.sig := calOk_lim' tabOk whole_Sub.ck mix Try.func86 (by kernel_rfl) (by kernel_rfl) (by kernel_rfl) (by kernel_rfl)
noncomputable def whole_Sub.e  (a0 : Dt43) (a1 : Dt43) : Option (Dt43 × Unit) :=
  (whole_Neg.F ((a1.1, a1.2), ())).bind fun y1 =>
  (whole_Add.F ((a0.1, a0.2), (y1.1.1, y1.1.2), ())).bind fun y2 =>
  some ((y2.1.1, y2.1.2), ())
theorem whole_Sub.eval (k : Nat) (a0 : Dt43) (a1 : Dt43) : evalF whole_Sub.spec whole_Sub.cals T Try.f86 k (a0, a1, ()) = whole_Sub.e  a0 a1 := by kernel_rfl
theorem whole_Sub.F_eq (a0 : Dt43) (a1 : Dt43) : whole_Sub.F (a0, a1, ()) = limF whole_Sub.spec whole_Sub.cals T Try.f86 (a0, a1, ()) := by kernel_rfl
theorem whole_Sub.of (k : Nat) (a0 : Dt43) (a1 : Dt43) {y : Dt43 × Unit} (h : whole_Sub.e  a0 a1 = some y) : whole_Sub.F (a0, a1, ()) = some y := (whole_Sub.F_eq a0 a1).trans (limF_of (q := whole_Sub.spec) (C := whole_Sub.cals) (T := T) (f := Try.f86) (x := (a0, a1, ())) (y := y) k ((whole_Sub.eval k a0 a1).trans h))

def whole_Cmp.spec : Spec := ⟨[(true, Kt43), (true, Kt43)], [(false, (.int .i64))], .own, fun j => match j with  | _ => []⟩
noncomputable def whole_Cmp.cals : Cals := (Cals.cons 86 whole_Sub.sig (Cals.cons 85 whole_Sign.sig (Cals.base tabs)))
noncomputable def whole_Cmp.sig : Sig := whole_Cmp.spec.sig whole_Cmp.cals T Try.f69
noncomputable def whole_Cmp.F (x : Dt43 × Dt43 × Unit) : Option (Int × Unit) := limF whole_Cmp.spec whole_Cmp.cals T Try.f69 x
theorem whole_Cmp.ck : CalsOk Try.prog whole_Cmp.cals := (CalsOk.cons whole_Sub.cal (CalsOk.cons whole_Sign.cal (CalsOk.base tabsOk)))
theorem whole_Cmp.cal : CalOk Try.prog tabs 69 whole_Cmp.sig := calOk_lim' tabOk whole_Cmp.ck mix Try.func69 (by kernel_rfl) (by kernel_rfl) (by kernel_rfl) (by kernel_rfl)
noncomputable def whole_Cmp.e  (a0 : Dt43) (a1 : Dt43) : Option (Int × Unit) :=
  (whole_Sub.F ((a0.1, a0.2), (a1.1, a1.2), ())).bind fun y1 =>
  (whole_Sign.F ((y1.1.1, y1.1.2), ())).bind fun y2 =>
  some (y2.1, ())
theorem whole_Cmp.eval (k : Nat) (a0 : Dt43) (a1 : Dt43) : evalF whole_Cmp.spec whole_Cmp.cals T Try.f69 k (a0, a1, ()) = whole_Cmp.e  a0 a1 := by kernel_rfl
theorem whole_Cmp.F_eq (a0 : Dt43) (a1 : Dt43) : whole_Cmp.F (a0, a1, ()) = limF whole_Cmp.spec whole_Cmp.cals T Try.f69 (a0, a1, ()) := by kernel_rfl
theorem whole_Cmp.of (k : Nat) (a0 : Dt43) (a1 : Dt43) {y : Int × Unit} (h : whole_Cmp.e  a0 a1 = some y) : whole_Cmp.F (a0, a1, ()) = some y := (whole_Cmp.F_eq a0 a1).trans (limF_of (q := whole_Cmp.spec) (C := whole_Cmp.cals) (T := T) (f := Try.f69) (x := (a0, a1, ())) (y := y) k ((whole_Cmp.eval k a0 a1).trans h))

def nat_Mul.spec : Spec := ⟨[(false, Kt41), (false, Kt41)], [(false, Kt41)], .own, fun j => match j with | 4 => [(0, .lf (.z 115 (.int .u32) false)), (1, .lf (.z 115 (.int .u32) false)), (5, .lf (.o 115 (.int .u32) true)), (21, .lf (.v true)), (22, .lf (.v true))] | 8 => [(0, .lf (.z 115 (.int .u32) false)), (1, .lf (.z 115 (.int .u32) false)), (5, .lf (.o 115 (.int .u32) true)), (6, .lf (.v true)), (7, .lf (.v true)), (21, .lf (.v true)), (22, .lf (.v true)), (26, .lf (.v true)), (27, .lf (.v true))] | _ => []⟩
noncomputable def nat_Mul.cals : Cals := (Cals.cons 80 nat_trim.sig (Cals.cons 96 nat_own.sig (Cals.base tabs)))
noncomputable def nat_Mul.sig : Sig := nat_Mul.spec.sig nat_Mul.cals T Try.f88
noncomputable def nat_Mul.F (x : Dt41 × Dt41 × Unit) : Option (Dt41 × Unit) := limF nat_Mul.spec nat_Mul.cals T Try.f88 x
theorem nat_Mul.ck : CalsOk Try.prog nat_Mul.cals := (CalsOk.cons nat_trim.cal (CalsOk.cons nat_own.cal (CalsOk.base tabsOk)))
theorem nat_Mul.cal : CalOk Try.prog tabs 88 nat_Mul.sig := calOk_lim' tabOk nat_Mul.ck mix Try.func88 (by kernel_rfl) (by kernel_rfl) (by kernel_rfl) (by kernel_rfl)
def nat_Mul.m4 (x0 : Dt41) (x1 : Dt41) (x5 : Dt41) (x21 : Int) (x22 : Int) : S := ⟨[(0, .one (.lf (.val false Kt41 x0))), (1, .one (.lf (.val false Kt41 x1))), (5, .one (.lf (.own 0))), (21, .one (.lf (.val true (.int .i64) x21))), (22, .one (.lf (.val true (.int .i64) x22)))], ⟨[some ⟨115, (.int .u32), true, true, x5⟩], []⟩⟩
def nat_Mul.m8 (x0 : Dt41) (x1 : Dt41) (x5 : Dt41) (x6 : Int) (x7 : Int) (x21 : Int) (x22 : Int) (x26 : Int) (x27 : Int) : S := ⟨[(0, .one (.lf (.val false Kt41 x0))), (1, .one (.lf (.val false Kt41 x1))), (5, .one (.lf (.own 0))), (6, .one (.lf (.val true (.int .i64) x6))), (7, .one (.lf (.val true (.int .u64) x7))), (21, .one (.lf (.val true (.int .i64) x21))), (22, .one (.lf (.val true (.int .i64) x22))), (26, .one (.lf (.val true (.int .i64) x26))), (27, .one (.lf (.val true (.int .i64) x27)))], ⟨[some ⟨115, (.int .u32), true, true, x5⟩], []⟩⟩
noncomputable def nat_Mul.b4 (f4 : Dt41 → Dt41 → Dt41 → Int → Int → Option (Dt41 × Unit)) (f8 : Dt41 → Dt41 → Dt41 → Int → Int → Int → Int → Int → Int → Option (Dt41 × Unit)) (x0 : Dt41) (x1 : Dt41) (x5 : Dt41) (x21 : Int) (x22 : Int) : Option (Dt41 × Unit) :=
  let v1 := decide (x22 < x21)
  bif v1 then (let v2 := (List.length x1 : Int)
  f8 x0 x1 x5 x22 (0 : Int) x21 x22 v2 (0 : Int))
  else ((nat_own.F (x5, ())).bind fun y3 =>
  some (y3.1, ()))
noncomputable def nat_Mul.b8 (f4 : Dt41 → Dt41 → Dt41 → Int → Int → Option (Dt41 × Unit)) (f8 : Dt41 → Dt41 → Dt41 → Int → Int → Int → Int → Int → Int → Option (Dt41 × Unit)) (x0 : Dt41) (x1 : Dt41) (x5 : Dt41) (x6 : Int) (x7 : Int) (x21 : Int) (x22 : Int) (x26 : Int) (x27 : Int) : Option (Dt41 × Unit) :=
  let v1 := decide (x27 < x26)
  bif v1 then (bif decide (0 ≤ x6) && decide (x6 < (List.length x0 : Int)) then (let v2 := List.getD x0 (Int.toNat x6) (0 : Int)
  let v3 := IntKind.u64.wrap v2
  bif decide (0 ≤ x27) && decide (x27 < (List.length x1 : Int)) then (let v4 := List.getD x1 (Int.toNat x27) (0 : Int)
  let v5 := IntKind.u64.wrap v4
  let v6 := IntKind.u64.wrap (v3 * v5)
  let v7 := IntKind.i64.wrap (x6 + x27)
  bif decide (0 ≤ v7) && decide (v7 < (List.length x5 : Int)) then (let v8 := List.getD x5 (Int.toNat v7) (0 : Int)
  let v9 := IntKind.u64.wrap v8
  let v10 := IntKind.u64.wrap (v6 + v9)
  let v11 := IntKind.u64.wrap (v10 + x7)
  let v12 := IntKind.i64.wrap (x6 + x27)
  let v13 := IntKind.u32.wrap v11
  bif decide (0 ≤ v12) && decide (v12 < (List.length x5 : Int)) then (let v14 := List.set x5 (Int.toNat v12) v13
  bif decide ((32 : Int) < 0) then none
  else (let v15 := shrI .u64 v11 (32 : Int)
  let v16 := IntKind.i64.wrap (x27 + (1 : Int))
  f8 x0 x1 v14 x6 v15 x21 x22 x26 v16))
  else none)
  else none)
  else none)
  else none)
  else (let v17 := (List.length x1 : Int)
  let v18 := IntKind.i64.wrap (x6 + v17)
  let v19 := IntKind.u32.wrap x7
  bif decide (0 ≤ v18) && decide (v18 < (List.length x5 : Int)) then (let v20 := List.set x5 (Int.toNat v18) v19
  let v21 := IntKind.i64.wrap (x22 + (1 : Int))
  f4 x0 x1 v20 x21 v21)
  else none)
noncomputable def nat_Mul.e (f4 : Dt41 → Dt41 → Dt41 → Int → Int → Option (Dt41 × Unit)) (f8 : Dt41 → Dt41 → Dt41 → Int → Int → Int → Int → Int → Int → Option (Dt41 × Unit)) (a0 : Dt41) (a1 : Dt41) : Option (Dt41 × Unit) :=
  (nat_trim.F (a0, ())).bind fun y1 =>
  (nat_trim.F (a1, ())).bind fun y2 =>
  let v3 := (List.length y1.1 : Int)
  let v4 := (List.length y2.1 : Int)
  let v5 := IntKind.i64.wrap (v3 + v4)
  bif decide (0 ≤ v5) && (decide (v5 ≤ v5) && (decide (Int.toNat v5 * 4 ≤ 281474976710656) && Nat.blt 0 4)) then (let v6 := List.replicate (Int.toNat v5) (0 : Int)
  let v7 := (List.length y1.1 : Int)
  f4 y1.1 y2.1 v6 v7 (0 : Int))
  else none
noncomputable def nat_Mul.L4 (k : Nat) (x0 : Dt41) (x1 : Dt41) (x5 : Dt41) (x21 : Int) (x22 : Int) : Option (Dt41 × Unit) := heads (nat_Mul.spec.env nat_Mul.cals T Try.f88) (Func.pts Try.f88) k 4 (nat_Mul.m4 x0 x1 x5 x21 x22)
noncomputable def nat_Mul.L8 (k : Nat) (x0 : Dt41) (x1 : Dt41) (x5 : Dt41) (x6 : Int) (x7 : Int) (x21 : Int) (x22 : Int) (x26 : Int) (x27 : Int) : Option (Dt41 × Unit) := heads (nat_Mul.spec.env nat_Mul.cals T Try.f88) (Func.pts Try.f88) k 8 (nat_Mul.m8 x0 x1 x5 x6 x7 x21 x22 x26 x27)
theorem nat_Mul.L4_succ (k : Nat) (x0 : Dt41) (x1 : Dt41) (x5 : Dt41) (x21 : Int) (x22 : Int) : nat_Mul.L4 (k + 1) x0 x1 x5 x21 x22 = nat_Mul.b4 (nat_Mul.L4 k) (nat_Mul.L8 k) x0 x1 x5 x21 x22 := by kernel_rfl
theorem nat_Mul.L8_succ (k : Nat) (x0 : Dt41) (x1 : Dt41) (x5 : Dt41) (x6 : Int) (x7 : Int) (x21 : Int) (x22 : Int) (x26 : Int) (x27 : Int) : nat_Mul.L8 (k + 1) x0 x1 x5 x6 x7 x21 x22 x26 x27 = nat_Mul.b8 (nat_Mul.L4 k) (nat_Mul.L8 k) x0 x1 x5 x6 x7 x21 x22 x26 x27 := by kernel_rfl
theorem nat_Mul.eval (k : Nat) (a0 : Dt41) (a1 : Dt41) : evalF nat_Mul.spec nat_Mul.cals T Try.f88 k (a0, a1, ()) = nat_Mul.e (nat_Mul.L4 k) (nat_Mul.L8 k) a0 a1 := by kernel_rfl
theorem nat_Mul.F_eq (a0 : Dt41) (a1 : Dt41) : nat_Mul.F (a0, a1, ()) = limF nat_Mul.spec nat_Mul.cals T Try.f88 (a0, a1, ()) := by kernel_rfl
theorem nat_Mul.of (k : Nat) (a0 : Dt41) (a1 : Dt41) {y : Dt41 × Unit} (h : nat_Mul.e (nat_Mul.L4 k) (nat_Mul.L8 k) a0 a1 = some y) : nat_Mul.F (a0, a1, ()) = some y := (nat_Mul.F_eq a0 a1).trans (limF_of (q := nat_Mul.spec) (C := nat_Mul.cals) (T := T) (f := Try.f88) (x := (a0, a1, ())) (y := y) k ((nat_Mul.eval k a0 a1).trans h))

def whole_Mul.spec : Spec := ⟨[(true, Kt43), (true, Kt43)], [(true, Kt43)], .own, fun j => match j with  | _ => []⟩
noncomputable def whole_Mul.cals : Cals := (Cals.cons 88 nat_Mul.sig (Cals.cons 85 whole_Sign.sig (Cals.cons 87 whole_signed.sig (Cals.base tabs))))
noncomputable def whole_Mul.sig : Sig := whole_Mul.spec.sig whole_Mul.cals T Try.f70
noncomputable def whole_Mul.F (x : Dt43 × Dt43 × Unit) : Option (Dt43 × Unit) := limF whole_Mul.spec whole_Mul.cals T Try.f70 x
theorem whole_Mul.ck : CalsOk Try.prog whole_Mul.cals := (CalsOk.cons nat_Mul.cal (CalsOk.cons whole_Sign.cal (CalsOk.cons whole_signed.cal (CalsOk.base tabsOk))))
theorem whole_Mul.cal : CalOk Try.prog tabs 70 whole_Mul.sig := calOk_lim' tabOk whole_Mul.ck mix Try.func70 (by kernel_rfl) (by kernel_rfl) (by kernel_rfl) (by kernel_rfl)
noncomputable def whole_Mul.e  (a0 : Dt43) (a1 : Dt43) : Option (Dt43 × Unit) :=
  (nat_Mul.F (a0.2, a1.2, ())).bind fun y1 =>
  (whole_Sign.F ((a0.1, a0.2), ())).bind fun y2 =>
  (whole_Sign.F ((a1.1, a1.2), ())).bind fun y3 =>
  let v4 := ([y2.1, y3.1] : List Int)
  (whole_signed.F (y1.1, v4, ())).bind fun y5 =>
  some ((y5.1.1, y5.1.2), ())
theorem whole_Mul.eval (k : Nat) (a0 : Dt43) (a1 : Dt43) : evalF whole_Mul.spec whole_Mul.cals T Try.f70 k (a0, a1, ()) = whole_Mul.e  a0 a1 := by kernel_rfl
theorem whole_Mul.F_eq (a0 : Dt43) (a1 : Dt43) : whole_Mul.F (a0, a1, ()) = limF whole_Mul.spec whole_Mul.cals T Try.f70 (a0, a1, ()) := by kernel_rfl
theorem whole_Mul.of (k : Nat) (a0 : Dt43) (a1 : Dt43) {y : Dt43 × Unit} (h : whole_Mul.e  a0 a1 = some y) : whole_Mul.F (a0, a1, ()) = some y := (whole_Mul.F_eq a0 a1).trans (limF_of (q := whole_Mul.spec) (C := whole_Mul.cals) (T := T) (f := Try.f70) (x := (a0, a1, ())) (y := y) k ((whole_Mul.eval k a0 a1).trans h))

def ratio_Cmp.spec : Spec := ⟨[(true, Kt45), (true, Kt45)], [(false, (.int .i64))], .own, fun j => match j with  | _ => []⟩
noncomputable def ratio_Cmp.cals : Cals := (Cals.cons 56 ratio_Norm.sig (Cals.cons 70 whole_Mul.sig (Cals.cons 69 whole_Cmp.sig (Cals.base tabs))))
noncomputable def ratio_Cmp.sig : Sig := ratio_Cmp.spec.sig ratio_Cmp.cals T Try.f58
noncomputable def ratio_Cmp.F (x : Dt45 × Dt45 × Unit) : Option (Int × Unit) := limF ratio_Cmp.spec ratio_Cmp.cals T Try.f58 x
theorem ratio_Cmp.ck : CalsOk Try.prog ratio_Cmp.cals := (CalsOk.cons ratio_Norm.cal (CalsOk.cons whole_Mul.cal (CalsOk.cons whole_Cmp.cal (CalsOk.base tabsOk))))
theorem ratio_Cmp.cal : CalOk Try.prog tabs 58 ratio_Cmp.sig := calOk_lim' tabOk ratio_Cmp.ck mix Try.func58 (by kernel_rfl) (by kernel_rfl) (by kernel_rfl) (by kernel_rfl)
noncomputable def ratio_Cmp.e  (a0 : Dt45) (a1 : Dt45) : Option (Int × Unit) :=
  (ratio_Norm.F (((a0.1.1, a0.1.2), a0.2), ())).bind fun y1 =>
  (ratio_Norm.F (((a1.1.1, a1.1.2), a1.2), ())).bind fun y2 =>
  (whole_Mul.F ((y1.1.1.1, y1.1.1.2), (false, y2.1.2), ())).bind fun y3 =>
  (whole_Mul.F ((y2.1.1.1, y2.1.1.2), (false, y1.1.2), ())).bind fun y4 =>
  (whole_Cmp.F ((y3.1.1, y3.1.2), (y4.1.1, y4.1.2), ())).bind fun y5 =>
  some (y5.1, ())
theorem ratio_Cmp.eval (k : Nat) (a0 : Dt45) (a1 : Dt45) : evalF ratio_Cmp.spec ratio_Cmp.cals T Try.f58 k (a0, a1, ()) = ratio_Cmp.e  a0 a1 := by kernel_rfl
theorem ratio_Cmp.F_eq (a0 : Dt45) (a1 : Dt45) : ratio_Cmp.F (a0, a1, ()) = limF ratio_Cmp.spec ratio_Cmp.cals T Try.f58 (a0, a1, ()) := by kernel_rfl
theorem ratio_Cmp.of (k : Nat) (a0 : Dt45) (a1 : Dt45) {y : Int × Unit} (h : ratio_Cmp.e  a0 a1 = some y) : ratio_Cmp.F (a0, a1, ()) = some y := (ratio_Cmp.F_eq a0 a1).trans (limF_of (q := ratio_Cmp.spec) (C := ratio_Cmp.cals) (T := T) (f := Try.f58) (x := (a0, a1, ())) (y := y) k ((ratio_Cmp.eval k a0 a1).trans h))

def delta_Cmp.spec : Spec := ⟨[(true, Kt47), (true, Kt47)], [(false, (.int .i64))], .own, fun j => match j with  | _ => []⟩
noncomputable def delta_Cmp.cals : Cals := (Cals.cons 58 ratio_Cmp.sig (Cals.base tabs))
noncomputable def delta_Cmp.sig : Sig := delta_Cmp.spec.sig delta_Cmp.cals T Try.f45
noncomputable def delta_Cmp.F (x : Dt47 × Dt47 × Unit) : Option (Int × Unit) := limF delta_Cmp.spec delta_Cmp.cals T Try.f45 x
theorem delta_Cmp.ck : CalsOk Try.prog delta_Cmp.cals := (CalsOk.cons ratio_Cmp.cal (CalsOk.base tabsOk))
theorem delta_Cmp.cal : CalOk Try.prog tabs 45 delta_Cmp.sig := calOk_lim' tabOk delta_Cmp.ck mix Try.func45 (by kernel_rfl) (by kernel_rfl) (by kernel_rfl) (by kernel_rfl)
noncomputable def delta_Cmp.e  (a0 : Dt47) (a1 : Dt47) : Option (Int × Unit) :=
  (ratio_Cmp.F (((a0.1.1.1, a0.1.1.2), a0.1.2), ((a1.1.1.1, a1.1.1.2), a1.1.2), ())).bind fun y1 =>
  let v2 := (y1.1 != (0 : Int))
  bif v2 then (some (y1.1, ()))
  else ((ratio_Cmp.F (((a0.2.1.1, a0.2.1.2), a0.2.2), ((a1.2.1.1, a1.2.1.2), a1.2.2), ())).bind fun y3 =>
  some (y3.1, ()))
theorem delta_Cmp.eval (k : Nat) (a0 : Dt47) (a1 : Dt47) : evalF delta_Cmp.spec delta_Cmp.cals T Try.f45 k (a0, a1, ()) = delta_Cmp.e  a0 a1 := by kernel_rfl
theorem delta_Cmp.F_eq (a0 : Dt47) (a1 : Dt47) : delta_Cmp.F (a0, a1, ()) = limF delta_Cmp.spec delta_Cmp.cals T Try.f45 (a0, a1, ()) := by kernel_rfl
theorem delta_Cmp.of (k : Nat) (a0 : Dt47) (a1 : Dt47) {y : Int × Unit} (h : delta_Cmp.e  a0 a1 = some y) : delta_Cmp.F (a0, a1, ()) = some y := (delta_Cmp.F_eq a0 a1).trans (limF_of (q := delta_Cmp.spec) (C := delta_Cmp.cals) (T := T) (f := Try.f45) (x := (a0, a1, ())) (y := y) k ((delta_Cmp.eval k a0 a1).trans h))

def bounds_below.spec : Spec := ⟨[(true, Kt53), (true, Kt47)], [(false, .bool)], .own, fun j => match j with  | _ => []⟩
noncomputable def bounds_below.cals : Cals := (Cals.cons 45 delta_Cmp.sig (Cals.base tabs))
noncomputable def bounds_below.sig : Sig := bounds_below.spec.sig bounds_below.cals T Try.f38
noncomputable def bounds_below.F (x : Dt53 × Dt47 × Unit) : Option (Bool × Unit) := limF bounds_below.spec bounds_below.cals T Try.f38 x
theorem bounds_below.ck : CalsOk Try.prog bounds_below.cals := (CalsOk.cons delta_Cmp.cal (CalsOk.base tabsOk))
theorem bounds_below.cal : CalOk Try.prog tabs 38 bounds_below.sig := calOk_lim' tabOk bounds_below.ck mix Try.func38 (by kernel_rfl) (by kernel_rfl) (by kernel_rfl) (by kernel_rfl)
noncomputable def bounds_below.e  (a0 : Dt53) (a1 : Dt47) : Option (Bool × Unit) :=
  bif a0.1 then ((delta_Cmp.F ((((a0.2.1.1.1.1, a0.2.1.1.1.2), a0.2.1.1.2), ((a0.2.1.2.1.1, a0.2.1.2.1.2), a0.2.1.2.2)), (((a1.1.1.1, a1.1.1.2), a1.1.2), ((a1.2.1.1, a1.2.1.2), a1.2.2)), ())).bind fun y1 =>
  let v2 := decide (y1.1 < (0 : Int))
  some (v2, ()))
  else (some (false, ()))
theorem bounds_below.eval (k : Nat) (a0 : Dt53) (a1 : Dt47) : evalF bounds_below.spec bounds_below.cals T Try.f38 k (a0, a1, ()) = bounds_below.e  a0 a1 := by kernel_rfl
theorem bounds_below.F_eq (a0 : Dt53) (a1 : Dt47) : bounds_below.F (a0, a1, ()) = limF bounds_below.spec bounds_below.cals T Try.f38 (a0, a1, ()) := by kernel_rfl
theorem bounds_below.of (k : Nat) (a0 : Dt53) (a1 : Dt47) {y : Bool × Unit} (h : bounds_below.e  a0 a1 = some y) : bounds_below.F (a0, a1, ()) = some y := (bounds_below.F_eq a0 a1).trans (limF_of (q := bounds_below.spec) (C := bounds_below.cals) (T := T) (f := Try.f38) (x := (a0, a1, ())) (y := y) k ((bounds_below.eval k a0 a1).trans h))

def bounds_trail_note.spec : XSpec := ⟨some ⟨75, 0, Kt73, 2⟩, false, [(false, (.int .i64)), (false, .bool), (true, Kt53)], false, none, [], false, fun j => match j with  | _ => []⟩
noncomputable def bounds_trail_note.cals : Cals := (Cals.base tabs)
noncomputable def bounds_trail_note.sig : XSig := bounds_trail_note.spec.sig bounds_trail_note.cals T Try.f39
noncomputable def bounds_trail_note.F (d : Dt73) (x : Int × Bool × Dt53 × Unit) : Option (Unit × (Unit) × Dt73) := limX bounds_trail_note.spec bounds_trail_note.cals T Try.f39 d x
theorem bounds_trail_note.ck : CalsOk Try.prog bounds_trail_note.cals := (CalsOk.base tabsOk)
theorem bounds_trail_note.cal : XOk Try.prog tabs 39 bounds_trail_note.sig := xok_of tabOk bounds_trail_note.ck mix Try.func39 (by kernel_rfl) (by kernel_rfl) (by kernel_rfl) (by kernel_rfl)
noncomputable def bounds_trail_note.e  (G : Gh) (d : Dt73) (a0 : Int) (a1 : Bool) (a2 : Dt53) : Option ((Unit × (Unit) × Dt73) × Nat × List Value) :=
  let v1 := ([(a0, (a1, (d.1, (a2.1, ((((a2.2.1.1.1.1, a2.2.1.1.1.2), a2.2.1.1.2), ((a2.2.1.2.1.1, a2.2.1.2.1.2), a2.2.1.2.2)), a2.2.2)))))] : List Dt97)
  bif decide (List.length d.2 + List.length v1 < 925904528653) then (let v2 := List.append d.2 v1
  some (((), (), (d.1, v2)), G.b, [G.v 0, G.v 1]))
  else none
theorem bounds_trail_note.eval (k : Nat) (G : Gh) (d : Dt73) (a0 : Int) (a1 : Bool) (a2 : Dt53) : evalX bounds_trail_note.spec bounds_trail_note.cals T Try.f39 k G d (a0, a1, a2, ()) = bounds_trail_note.e  G d a0 a1 a2 := by kernel_rfl
theorem bounds_trail_note.of (d : Dt73) (a0 : Int) (a1 : Bool) (a2 : Dt53) (y : (Unit × (Unit) × Dt73)) (h : ∀ G : Gh, ∃ k : Nat, bounds_trail_note.e  G d a0 a1 a2 = some (y, (G.b, [G.v 0, G.v 1]))) : bounds_trail_note.F d (a0, a1, a2, ()) = some y := limX_of (q := bounds_trail_note.spec) (C := bounds_trail_note.cals) (T := T) (f := Try.f39) (d := d) (x := (a0, a1, a2, ())) y fun G => (h G).imp fun k hk => (bounds_trail_note.eval k G d a0 a1 a2).trans hk

def bounds_Store_Lift.spec : XSpec := ⟨some ⟨75, 0, Kt75, 0⟩, false, [(false, (.int .i64)), (true, Kt47), (false, (.int .i64))], false, none, [(true, Kt64), (false, (.int .i64))], false, fun j => match j with  | _ => []⟩
noncomputable def bounds_Store_Lift.cals : Cals := (Cals.consX 37 false bounds_Store_wrong.sig (Cals.consX 39 false bounds_trail_note.sig (Cals.cons 38 bounds_below.sig (Cals.cons 40 delta_Norm.sig (Cals.base tabs)))))
noncomputable def bounds_Store_Lift.sig : XSig := bounds_Store_Lift.spec.sig bounds_Store_Lift.cals T Try.f19
noncomputable def bounds_Store_Lift.F (d : Dt75) (x : Int × Dt47 × Int × Unit) : Option (Unit × (Dt64 × Int × Unit) × Dt75) := limX bounds_Store_Lift.spec bounds_Store_Lift.cals T Try.f19 d x
theorem bounds_Store_Lift.ck : CalsOk Try.prog bounds_Store_Lift.cals := (CalsOk.consX bounds_Store_wrong.cal (CalsOk.consX bounds_trail_note.cal (CalsOk.cons bounds_below.cal (CalsOk.cons delta_Norm.cal (CalsOk.base tabsOk)))))
theorem bounds_Store_Lift.cal : XOk Try.prog tabs 19 bounds_Store_Lift.sig := xok_of tabOk bounds_Store_Lift.ck mix Try.func19 (by kernel_rfl) (by kernel_rfl) (by kernel_rfl) (by kernel_rfl)
noncomputable def bounds_Store_Lift.e  (G : Gh) (d : Dt75) (a0 : Int) (a1 : Dt47) (a2 : Int) : Option ((Unit × (Dt64 × Int × Unit) × Dt75) × Nat × List Value) :=
  (bounds_Store_wrong.F ((d.1.1, d.1.2), (d.2.1, d.2.2)) (a0, ())).bind fun y1 =>
  let v2 := (y1.2.1.1 != (0 : Int))
  bif v2 then (some (((), (zt64, y1.2.1.1, ()), ((y1.2.2.1.1, y1.2.2.1.2), (y1.2.2.2.1, y1.2.2.2.2))), G.b, []))
  else (bif decide (0 ≤ a0) && decide (a0 < (List.length y1.2.2.2.2 : Int)) then (let v3 := ((List.getD y1.2.2.2.2 (Int.toNat a0) zt55).1).1
  bif v3 then (let v4 := ((List.getD y1.2.2.2.2 (Int.toNat a0) zt55).1).1
  let v5 := ((((((List.getD y1.2.2.2.2 (Int.toNat a0) zt55).1).2).1).1).1).1
  let v6 := ((((((List.getD y1.2.2.2.2 (Int.toNat a0) zt55).1).2).1).1).1).2
  let v7 := (((((List.getD y1.2.2.2.2 (Int.toNat a0) zt55).1).2).1).1).2
  let v8 := ((((((List.getD y1.2.2.2.2 (Int.toNat a0) zt55).1).2).1).2).1).1
  let v9 := ((((((List.getD y1.2.2.2.2 (Int.toNat a0) zt55).1).2).1).2).1).2
  let v10 := (((((List.getD y1.2.2.2.2 (Int.toNat a0) zt55).1).2).1).2).2
  let v11 := (((List.getD y1.2.2.2.2 (Int.toNat a0) zt55).1).2).2
  (bounds_below.F ((v4, ((((v5, v6), v7), ((v8, v9), v10)), v11)), (((a1.1.1.1, a1.1.1.2), a1.1.2), ((a1.2.1.1, a1.2.1.2), a1.2.2)), ())).bind fun y12 =>
  let v13 := not y12.1
  bif v13 then (some (((), (zt64, (0 : Int), ()), ((y1.2.2.1.1, y1.2.2.1.2), (y1.2.2.2.1, y1.2.2.2.2))), G.b, []))
  else (let v14 := ((List.getD y1.2.2.2.2 (Int.toNat a0) zt55).2).1
  let v15 := ((((((List.getD y1.2.2.2.2 (Int.toNat a0) zt55).2).2).1).1).1).1
  let v16 := ((((((List.getD y1.2.2.2.2 (Int.toNat a0) zt55).2).2).1).1).1).2
  let v17 := (((((List.getD y1.2.2.2.2 (Int.toNat a0) zt55).2).2).1).1).2
  let v18 := ((((((List.getD y1.2.2.2.2 (Int.toNat a0) zt55).2).2).1).2).1).1
  let v19 := ((((((List.getD y1.2.2.2.2 (Int.toNat a0) zt55).2).2).1).2).1).2
  let v20 := (((((List.getD y1.2.2.2.2 (Int.toNat a0) zt55).2).2).1).2).2
  let v21 := (((List.getD y1.2.2.2.2 (Int.toNat a0) zt55).2).2).2
  (bounds_below.F ((v14, ((((v15, v16), v17), ((v18, v19), v20)), v21)), (((a1.1.1.1, a1.1.1.2), a1.1.2), ((a1.2.1.1, a1.2.1.2), a1.2.2)), ())).bind fun y22 =>
  bif y22.1 then (let v23 := (((List.getD y1.2.2.2.2 (Int.toNat a0) zt55).2).2).2
  some (((), (((2 : Int), v23), (0 : Int), ()), ((y1.2.2.1.1, y1.2.2.1.2), (y1.2.2.2.1, y1.2.2.2.2))), G.b, []))
  else (let v24 := ((List.getD y1.2.2.2.2 (Int.toNat a0) zt55).1).1
  let v25 := ((((((List.getD y1.2.2.2.2 (Int.toNat a0) zt55).1).2).1).1).1).1
  let v26 := ((((((List.getD y1.2.2.2.2 (Int.toNat a0) zt55).1).2).1).1).1).2
  let v27 := (((((List.getD y1.2.2.2.2 (Int.toNat a0) zt55).1).2).1).1).2
  let v28 := ((((((List.getD y1.2.2.2.2 (Int.toNat a0) zt55).1).2).1).2).1).1
  let v29 := ((((((List.getD y1.2.2.2.2 (Int.toNat a0) zt55).1).2).1).2).1).2
  let v30 := (((((List.getD y1.2.2.2.2 (Int.toNat a0) zt55).1).2).1).2).2
  let v31 := (((List.getD y1.2.2.2.2 (Int.toNat a0) zt55).1).2).2
  (bounds_trail_note.F (y1.2.2.1.1, y1.2.2.1.2) (a0, false, (v24, ((((v25, v26), v27), ((v28, v29), v30)), v31)), ())).bind fun y32 =>
  (delta_Norm.F ((((a1.1.1.1, a1.1.1.2), a1.1.2), ((a1.2.1.1, a1.2.1.2), a1.2.2)), ())).bind fun y33 =>
  let v34 := List.set y1.2.2.2.2 (Int.toNat a0) ((true, ((((y33.1.1.1.1, y33.1.1.1.2), y33.1.1.2), ((y33.1.2.1.1, y33.1.2.1.2), y33.1.2.2)), a2)), (((List.getD y1.2.2.2.2 (Int.toNat a0) zt55).2).1, ((((((((((List.getD y1.2.2.2.2 (Int.toNat a0) zt55).2).2).1).1).1).1, ((((((List.getD y1.2.2.2.2 (Int.toNat a0) zt55).2).2).1).1).1).2), (((((List.getD y1.2.2.2.2 (Int.toNat a0) zt55).2).2).1).1).2), ((((((((List.getD y1.2.2.2.2 (Int.toNat a0) zt55).2).2).1).2).1).1, ((((((List.getD y1.2.2.2.2 (Int.toNat a0) zt55).2).2).1).2).1).2), (((((List.getD y1.2.2.2.2 (Int.toNat a0) zt55).2).2).1).2).2)), (((List.getD y1.2.2.2.2 (Int.toNat a0) zt55).2).2).2)))
  some (((), (((1 : Int), (0 : Int)), (0 : Int), ()), ((y32.2.2.1, y32.2.2.2), (y1.2.2.2.1, v34))), G.b, []))))
  else (let v35 := ((List.getD y1.2.2.2.2 (Int.toNat a0) zt55).2).1
  let v36 := ((((((List.getD y1.2.2.2.2 (Int.toNat a0) zt55).2).2).1).1).1).1
  let v37 := ((((((List.getD y1.2.2.2.2 (Int.toNat a0) zt55).2).2).1).1).1).2
  let v38 := (((((List.getD y1.2.2.2.2 (Int.toNat a0) zt55).2).2).1).1).2
  let v39 := ((((((List.getD y1.2.2.2.2 (Int.toNat a0) zt55).2).2).1).2).1).1
  let v40 := ((((((List.getD y1.2.2.2.2 (Int.toNat a0) zt55).2).2).1).2).1).2
  let v41 := (((((List.getD y1.2.2.2.2 (Int.toNat a0) zt55).2).2).1).2).2
  let v42 := (((List.getD y1.2.2.2.2 (Int.toNat a0) zt55).2).2).2
  (bounds_below.F ((v35, ((((v36, v37), v38), ((v39, v40), v41)), v42)), (((a1.1.1.1, a1.1.1.2), a1.1.2), ((a1.2.1.1, a1.2.1.2), a1.2.2)), ())).bind fun y43 =>
  bif y43.1 then (let v44 := (((List.getD y1.2.2.2.2 (Int.toNat a0) zt55).2).2).2
  some (((), (((2 : Int), v44), (0 : Int), ()), ((y1.2.2.1.1, y1.2.2.1.2), (y1.2.2.2.1, y1.2.2.2.2))), G.b, []))
  else (let v45 := ((List.getD y1.2.2.2.2 (Int.toNat a0) zt55).1).1
  let v46 := ((((((List.getD y1.2.2.2.2 (Int.toNat a0) zt55).1).2).1).1).1).1
  let v47 := ((((((List.getD y1.2.2.2.2 (Int.toNat a0) zt55).1).2).1).1).1).2
  let v48 := (((((List.getD y1.2.2.2.2 (Int.toNat a0) zt55).1).2).1).1).2
  let v49 := ((((((List.getD y1.2.2.2.2 (Int.toNat a0) zt55).1).2).1).2).1).1
  let v50 := ((((((List.getD y1.2.2.2.2 (Int.toNat a0) zt55).1).2).1).2).1).2
  let v51 := (((((List.getD y1.2.2.2.2 (Int.toNat a0) zt55).1).2).1).2).2
  let v52 := (((List.getD y1.2.2.2.2 (Int.toNat a0) zt55).1).2).2
  (bounds_trail_note.F (y1.2.2.1.1, y1.2.2.1.2) (a0, false, (v45, ((((v46, v47), v48), ((v49, v50), v51)), v52)), ())).bind fun y53 =>
  (delta_Norm.F ((((a1.1.1.1, a1.1.1.2), a1.1.2), ((a1.2.1.1, a1.2.1.2), a1.2.2)), ())).bind fun y54 =>
  let v55 := List.set y1.2.2.2.2 (Int.toNat a0) ((true, ((((y54.1.1.1.1, y54.1.1.1.2), y54.1.1.2), ((y54.1.2.1.1, y54.1.2.1.2), y54.1.2.2)), a2)), (((List.getD y1.2.2.2.2 (Int.toNat a0) zt55).2).1, ((((((((((List.getD y1.2.2.2.2 (Int.toNat a0) zt55).2).2).1).1).1).1, ((((((List.getD y1.2.2.2.2 (Int.toNat a0) zt55).2).2).1).1).1).2), (((((List.getD y1.2.2.2.2 (Int.toNat a0) zt55).2).2).1).1).2), ((((((((List.getD y1.2.2.2.2 (Int.toNat a0) zt55).2).2).1).2).1).1, ((((((List.getD y1.2.2.2.2 (Int.toNat a0) zt55).2).2).1).2).1).2), (((((List.getD y1.2.2.2.2 (Int.toNat a0) zt55).2).2).1).2).2)), (((List.getD y1.2.2.2.2 (Int.toNat a0) zt55).2).2).2)))
  some (((), (((1 : Int), (0 : Int)), (0 : Int), ()), ((y53.2.2.1, y53.2.2.2), (y1.2.2.2.1, v55))), G.b, []))))
  else none)
theorem bounds_Store_Lift.eval (k : Nat) (G : Gh) (d : Dt75) (a0 : Int) (a1 : Dt47) (a2 : Int) : evalX bounds_Store_Lift.spec bounds_Store_Lift.cals T Try.f19 k G d (a0, a1, a2, ()) = bounds_Store_Lift.e  G d a0 a1 a2 := by kernel_rfl
theorem bounds_Store_Lift.of (d : Dt75) (a0 : Int) (a1 : Dt47) (a2 : Int) (y : (Unit × (Dt64 × Int × Unit) × Dt75)) (h : ∀ G : Gh, ∃ k : Nat, bounds_Store_Lift.e  G d a0 a1 a2 = some (y, (G.b, []))) : bounds_Store_Lift.F d (a0, a1, a2, ()) = some y := limX_of (q := bounds_Store_Lift.spec) (C := bounds_Store_Lift.cals) (T := T) (f := Try.f19) (d := d) (x := (a0, a1, a2, ())) y fun G => (h G).imp fun k hk => (bounds_Store_Lift.eval k G d a0 a1 a2).trans hk

def bounds_Store_Push.spec : XSpec := ⟨some ⟨75, 0, Kt75, 0⟩, false, [], false, none, [], false, fun j => match j with  | _ => []⟩
noncomputable def bounds_Store_Push.cals : Cals := (Cals.consX 31 false bounds_Store_is.sig (Cals.base tabs))
noncomputable def bounds_Store_Push.sig : XSig := bounds_Store_Push.spec.sig bounds_Store_Push.cals T Try.f21
noncomputable def bounds_Store_Push.F (d : Dt75) (x : Unit) : Option (Unit × (Unit) × Dt75) := limX bounds_Store_Push.spec bounds_Store_Push.cals T Try.f21 d x
theorem bounds_Store_Push.ck : CalsOk Try.prog bounds_Store_Push.cals := (CalsOk.consX bounds_Store_is.cal (CalsOk.base tabsOk))
theorem bounds_Store_Push.cal : XOk Try.prog tabs 21 bounds_Store_Push.sig := xok_of tabOk bounds_Store_Push.ck mix Try.func21 (by kernel_rfl) (by kernel_rfl) (by kernel_rfl) (by kernel_rfl)
noncomputable def bounds_Store_Push.e  (G : Gh) (d : Dt75)  : Option ((Unit × (Unit) × Dt75) × Nat × List Value) :=
  (bounds_Store_is.F ((d.1.1, d.1.2), (d.2.1, d.2.2)) ()).bind fun y1 =>
  bif y1.2.1.1 then (let v2 := IntKind.i64.wrap (y1.2.2.1.1 + (1 : Int))
  some (((), (), ((v2, y1.2.2.1.2), (y1.2.2.2.1, y1.2.2.2.2))), G.b, []))
  else (some (((), (), ((y1.2.2.1.1, y1.2.2.1.2), (y1.2.2.2.1, y1.2.2.2.2))), G.b, []))
theorem bounds_Store_Push.eval (k : Nat) (G : Gh) (d : Dt75)  : evalX bounds_Store_Push.spec bounds_Store_Push.cals T Try.f21 k G d () = bounds_Store_Push.e  G d  := by kernel_rfl
theorem bounds_Store_Push.of (d : Dt75)  (y : (Unit × (Unit) × Dt75)) (h : ∀ G : Gh, ∃ k : Nat, bounds_Store_Push.e  G d  = some (y, (G.b, []))) : bounds_Store_Push.F d () = some y := limX_of (q := bounds_Store_Push.spec) (C := bounds_Store_Push.cals) (T := T) (f := Try.f21) (d := d) (x := ()) y fun G => (h G).imp fun k hk => (bounds_Store_Push.eval k G d ).trans hk

def bounds_above.spec : Spec := ⟨[(true, Kt53), (true, Kt47)], [(false, .bool)], .own, fun j => match j with  | _ => []⟩
noncomputable def bounds_above.cals : Cals := (Cals.cons 45 delta_Cmp.sig (Cals.base tabs))
noncomputable def bounds_above.sig : Sig := bounds_above.spec.sig bounds_above.cals T Try.f41
noncomputable def bounds_above.F (x : Dt53 × Dt47 × Unit) : Option (Bool × Unit) := limF bounds_above.spec bounds_above.cals T Try.f41 x
theorem bounds_above.ck : CalsOk Try.prog bounds_above.cals := (CalsOk.cons delta_Cmp.cal (CalsOk.base tabsOk))
theorem bounds_above.cal : CalOk Try.prog tabs 41 bounds_above.sig := calOk_lim' tabOk bounds_above.ck mix Try.func41 (by kernel_rfl) (by kernel_rfl) (by kernel_rfl) (by kernel_rfl)
noncomputable def bounds_above.e  (a0 : Dt53) (a1 : Dt47) : Option (Bool × Unit) :=
  bif a0.1 then ((delta_Cmp.F ((((a0.2.1.1.1.1, a0.2.1.1.1.2), a0.2.1.1.2), ((a0.2.1.2.1.1, a0.2.1.2.1.2), a0.2.1.2.2)), (((a1.1.1.1, a1.1.1.2), a1.1.2), ((a1.2.1.1, a1.2.1.2), a1.2.2)), ())).bind fun y1 =>
  let v2 := decide (y1.1 > (0 : Int))
  some (v2, ()))
  else (some (false, ()))
theorem bounds_above.eval (k : Nat) (a0 : Dt53) (a1 : Dt47) : evalF bounds_above.spec bounds_above.cals T Try.f41 k (a0, a1, ()) = bounds_above.e  a0 a1 := by kernel_rfl
theorem bounds_above.F_eq (a0 : Dt53) (a1 : Dt47) : bounds_above.F (a0, a1, ()) = limF bounds_above.spec bounds_above.cals T Try.f41 (a0, a1, ()) := by kernel_rfl
theorem bounds_above.of (k : Nat) (a0 : Dt53) (a1 : Dt47) {y : Bool × Unit} (h : bounds_above.e  a0 a1 = some y) : bounds_above.F (a0, a1, ()) = some y := (bounds_above.F_eq a0 a1).trans (limF_of (q := bounds_above.spec) (C := bounds_above.cals) (T := T) (f := Try.f41) (x := (a0, a1, ())) (y := y) k ((bounds_above.eval k a0 a1).trans h))

def bounds_Store_Press.spec : XSpec := ⟨some ⟨75, 0, Kt75, 0⟩, false, [(false, (.int .i64)), (true, Kt47), (false, (.int .i64))], false, none, [(true, Kt64), (false, (.int .i64))], false, fun j => match j with  | _ => []⟩
noncomputable def bounds_Store_Press.cals : Cals := (Cals.consX 37 false bounds_Store_wrong.sig (Cals.consX 39 false bounds_trail_note.sig (Cals.cons 41 bounds_above.sig (Cals.cons 40 delta_Norm.sig (Cals.base tabs)))))
noncomputable def bounds_Store_Press.sig : XSig := bounds_Store_Press.spec.sig bounds_Store_Press.cals T Try.f22
noncomputable def bounds_Store_Press.F (d : Dt75) (x : Int × Dt47 × Int × Unit) : Option (Unit × (Dt64 × Int × Unit) × Dt75) := limX bounds_Store_Press.spec bounds_Store_Press.cals T Try.f22 d x
theorem bounds_Store_Press.ck : CalsOk Try.prog bounds_Store_Press.cals := (CalsOk.consX bounds_Store_wrong.cal (CalsOk.consX bounds_trail_note.cal (CalsOk.cons bounds_above.cal (CalsOk.cons delta_Norm.cal (CalsOk.base tabsOk)))))
theorem bounds_Store_Press.cal : XOk Try.prog tabs 22 bounds_Store_Press.sig := xok_of tabOk bounds_Store_Press.ck mix Try.func22 (by kernel_rfl) (by kernel_rfl) (by kernel_rfl) (by kernel_rfl)
noncomputable def bounds_Store_Press.e  (G : Gh) (d : Dt75) (a0 : Int) (a1 : Dt47) (a2 : Int) : Option ((Unit × (Dt64 × Int × Unit) × Dt75) × Nat × List Value) :=
  (bounds_Store_wrong.F ((d.1.1, d.1.2), (d.2.1, d.2.2)) (a0, ())).bind fun y1 =>
  let v2 := (y1.2.1.1 != (0 : Int))
  bif v2 then (some (((), (zt64, y1.2.1.1, ()), ((y1.2.2.1.1, y1.2.2.1.2), (y1.2.2.2.1, y1.2.2.2.2))), G.b, []))
  else (bif decide (0 ≤ a0) && decide (a0 < (List.length y1.2.2.2.2 : Int)) then (let v3 := ((List.getD y1.2.2.2.2 (Int.toNat a0) zt55).2).1
  bif v3 then (let v4 := ((List.getD y1.2.2.2.2 (Int.toNat a0) zt55).2).1
  let v5 := ((((((List.getD y1.2.2.2.2 (Int.toNat a0) zt55).2).2).1).1).1).1
  let v6 := ((((((List.getD y1.2.2.2.2 (Int.toNat a0) zt55).2).2).1).1).1).2
  let v7 := (((((List.getD y1.2.2.2.2 (Int.toNat a0) zt55).2).2).1).1).2
  let v8 := ((((((List.getD y1.2.2.2.2 (Int.toNat a0) zt55).2).2).1).2).1).1
  let v9 := ((((((List.getD y1.2.2.2.2 (Int.toNat a0) zt55).2).2).1).2).1).2
  let v10 := (((((List.getD y1.2.2.2.2 (Int.toNat a0) zt55).2).2).1).2).2
  let v11 := (((List.getD y1.2.2.2.2 (Int.toNat a0) zt55).2).2).2
  (bounds_above.F ((v4, ((((v5, v6), v7), ((v8, v9), v10)), v11)), (((a1.1.1.1, a1.1.1.2), a1.1.2), ((a1.2.1.1, a1.2.1.2), a1.2.2)), ())).bind fun y12 =>
  let v13 := not y12.1
  bif v13 then (some (((), (zt64, (0 : Int), ()), ((y1.2.2.1.1, y1.2.2.1.2), (y1.2.2.2.1, y1.2.2.2.2))), G.b, []))
  else (let v14 := ((List.getD y1.2.2.2.2 (Int.toNat a0) zt55).1).1
  let v15 := ((((((List.getD y1.2.2.2.2 (Int.toNat a0) zt55).1).2).1).1).1).1
  let v16 := ((((((List.getD y1.2.2.2.2 (Int.toNat a0) zt55).1).2).1).1).1).2
  let v17 := (((((List.getD y1.2.2.2.2 (Int.toNat a0) zt55).1).2).1).1).2
  let v18 := ((((((List.getD y1.2.2.2.2 (Int.toNat a0) zt55).1).2).1).2).1).1
  let v19 := ((((((List.getD y1.2.2.2.2 (Int.toNat a0) zt55).1).2).1).2).1).2
  let v20 := (((((List.getD y1.2.2.2.2 (Int.toNat a0) zt55).1).2).1).2).2
  let v21 := (((List.getD y1.2.2.2.2 (Int.toNat a0) zt55).1).2).2
  (bounds_above.F ((v14, ((((v15, v16), v17), ((v18, v19), v20)), v21)), (((a1.1.1.1, a1.1.1.2), a1.1.2), ((a1.2.1.1, a1.2.1.2), a1.2.2)), ())).bind fun y22 =>
  bif y22.1 then (let v23 := (((List.getD y1.2.2.2.2 (Int.toNat a0) zt55).1).2).2
  some (((), (((2 : Int), v23), (0 : Int), ()), ((y1.2.2.1.1, y1.2.2.1.2), (y1.2.2.2.1, y1.2.2.2.2))), G.b, []))
  else (let v24 := ((List.getD y1.2.2.2.2 (Int.toNat a0) zt55).2).1
  let v25 := ((((((List.getD y1.2.2.2.2 (Int.toNat a0) zt55).2).2).1).1).1).1
  let v26 := ((((((List.getD y1.2.2.2.2 (Int.toNat a0) zt55).2).2).1).1).1).2
  let v27 := (((((List.getD y1.2.2.2.2 (Int.toNat a0) zt55).2).2).1).1).2
  let v28 := ((((((List.getD y1.2.2.2.2 (Int.toNat a0) zt55).2).2).1).2).1).1
  let v29 := ((((((List.getD y1.2.2.2.2 (Int.toNat a0) zt55).2).2).1).2).1).2
  let v30 := (((((List.getD y1.2.2.2.2 (Int.toNat a0) zt55).2).2).1).2).2
  let v31 := (((List.getD y1.2.2.2.2 (Int.toNat a0) zt55).2).2).2
  (bounds_trail_note.F (y1.2.2.1.1, y1.2.2.1.2) (a0, true, (v24, ((((v25, v26), v27), ((v28, v29), v30)), v31)), ())).bind fun y32 =>
  (delta_Norm.F ((((a1.1.1.1, a1.1.1.2), a1.1.2), ((a1.2.1.1, a1.2.1.2), a1.2.2)), ())).bind fun y33 =>
  let v34 := List.set y1.2.2.2.2 (Int.toNat a0) ((((List.getD y1.2.2.2.2 (Int.toNat a0) zt55).1).1, ((((((((((List.getD y1.2.2.2.2 (Int.toNat a0) zt55).1).2).1).1).1).1, ((((((List.getD y1.2.2.2.2 (Int.toNat a0) zt55).1).2).1).1).1).2), (((((List.getD y1.2.2.2.2 (Int.toNat a0) zt55).1).2).1).1).2), ((((((((List.getD y1.2.2.2.2 (Int.toNat a0) zt55).1).2).1).2).1).1, ((((((List.getD y1.2.2.2.2 (Int.toNat a0) zt55).1).2).1).2).1).2), (((((List.getD y1.2.2.2.2 (Int.toNat a0) zt55).1).2).1).2).2)), (((List.getD y1.2.2.2.2 (Int.toNat a0) zt55).1).2).2)), (true, ((((y33.1.1.1.1, y33.1.1.1.2), y33.1.1.2), ((y33.1.2.1.1, y33.1.2.1.2), y33.1.2.2)), a2)))
  some (((), (((1 : Int), (0 : Int)), (0 : Int), ()), ((y32.2.2.1, y32.2.2.2), (y1.2.2.2.1, v34))), G.b, []))))
  else (let v35 := ((List.getD y1.2.2.2.2 (Int.toNat a0) zt55).1).1
  let v36 := ((((((List.getD y1.2.2.2.2 (Int.toNat a0) zt55).1).2).1).1).1).1
  let v37 := ((((((List.getD y1.2.2.2.2 (Int.toNat a0) zt55).1).2).1).1).1).2
  let v38 := (((((List.getD y1.2.2.2.2 (Int.toNat a0) zt55).1).2).1).1).2
  let v39 := ((((((List.getD y1.2.2.2.2 (Int.toNat a0) zt55).1).2).1).2).1).1
  let v40 := ((((((List.getD y1.2.2.2.2 (Int.toNat a0) zt55).1).2).1).2).1).2
  let v41 := (((((List.getD y1.2.2.2.2 (Int.toNat a0) zt55).1).2).1).2).2
  let v42 := (((List.getD y1.2.2.2.2 (Int.toNat a0) zt55).1).2).2
  (bounds_above.F ((v35, ((((v36, v37), v38), ((v39, v40), v41)), v42)), (((a1.1.1.1, a1.1.1.2), a1.1.2), ((a1.2.1.1, a1.2.1.2), a1.2.2)), ())).bind fun y43 =>
  bif y43.1 then (let v44 := (((List.getD y1.2.2.2.2 (Int.toNat a0) zt55).1).2).2
  some (((), (((2 : Int), v44), (0 : Int), ()), ((y1.2.2.1.1, y1.2.2.1.2), (y1.2.2.2.1, y1.2.2.2.2))), G.b, []))
  else (let v45 := ((List.getD y1.2.2.2.2 (Int.toNat a0) zt55).2).1
  let v46 := ((((((List.getD y1.2.2.2.2 (Int.toNat a0) zt55).2).2).1).1).1).1
  let v47 := ((((((List.getD y1.2.2.2.2 (Int.toNat a0) zt55).2).2).1).1).1).2
  let v48 := (((((List.getD y1.2.2.2.2 (Int.toNat a0) zt55).2).2).1).1).2
  let v49 := ((((((List.getD y1.2.2.2.2 (Int.toNat a0) zt55).2).2).1).2).1).1
  let v50 := ((((((List.getD y1.2.2.2.2 (Int.toNat a0) zt55).2).2).1).2).1).2
  let v51 := (((((List.getD y1.2.2.2.2 (Int.toNat a0) zt55).2).2).1).2).2
  let v52 := (((List.getD y1.2.2.2.2 (Int.toNat a0) zt55).2).2).2
  (bounds_trail_note.F (y1.2.2.1.1, y1.2.2.1.2) (a0, true, (v45, ((((v46, v47), v48), ((v49, v50), v51)), v52)), ())).bind fun y53 =>
  (delta_Norm.F ((((a1.1.1.1, a1.1.1.2), a1.1.2), ((a1.2.1.1, a1.2.1.2), a1.2.2)), ())).bind fun y54 =>
  let v55 := List.set y1.2.2.2.2 (Int.toNat a0) ((((List.getD y1.2.2.2.2 (Int.toNat a0) zt55).1).1, ((((((((((List.getD y1.2.2.2.2 (Int.toNat a0) zt55).1).2).1).1).1).1, ((((((List.getD y1.2.2.2.2 (Int.toNat a0) zt55).1).2).1).1).1).2), (((((List.getD y1.2.2.2.2 (Int.toNat a0) zt55).1).2).1).1).2), ((((((((List.getD y1.2.2.2.2 (Int.toNat a0) zt55).1).2).1).2).1).1, ((((((List.getD y1.2.2.2.2 (Int.toNat a0) zt55).1).2).1).2).1).2), (((((List.getD y1.2.2.2.2 (Int.toNat a0) zt55).1).2).1).2).2)), (((List.getD y1.2.2.2.2 (Int.toNat a0) zt55).1).2).2)), (true, ((((y54.1.1.1.1, y54.1.1.1.2), y54.1.1.2), ((y54.1.2.1.1, y54.1.2.1.2), y54.1.2.2)), a2)))
  some (((), (((1 : Int), (0 : Int)), (0 : Int), ()), ((y53.2.2.1, y53.2.2.2), (y1.2.2.2.1, v55))), G.b, []))))
  else none)
theorem bounds_Store_Press.eval (k : Nat) (G : Gh) (d : Dt75) (a0 : Int) (a1 : Dt47) (a2 : Int) : evalX bounds_Store_Press.spec bounds_Store_Press.cals T Try.f22 k G d (a0, a1, a2, ()) = bounds_Store_Press.e  G d a0 a1 a2 := by kernel_rfl
theorem bounds_Store_Press.of (d : Dt75) (a0 : Int) (a1 : Dt47) (a2 : Int) (y : (Unit × (Dt64 × Int × Unit) × Dt75)) (h : ∀ G : Gh, ∃ k : Nat, bounds_Store_Press.e  G d a0 a1 a2 = some (y, (G.b, []))) : bounds_Store_Press.F d (a0, a1, a2, ()) = some y := limX_of (q := bounds_Store_Press.spec) (C := bounds_Store_Press.cals) (T := T) (f := Try.f22) (d := d) (x := (a0, a1, a2, ())) y fun G => (h G).imp fun k hk => (bounds_Store_Press.eval k G d a0 a1 a2).trans hk

def bounds_trail_last.spec : XSpec := ⟨some ⟨75, 0, Kt73, 2⟩, false, [(false, (.int .i64))], false, none, [(true, Kt97), (false, .bool)], false, fun j => match j with  | _ => []⟩
noncomputable def bounds_trail_last.cals : Cals := (Cals.base tabs)
noncomputable def bounds_trail_last.sig : XSig := bounds_trail_last.spec.sig bounds_trail_last.cals T Try.f42
noncomputable def bounds_trail_last.F (d : Dt73) (x : Int × Unit) : Option (Unit × (Dt97 × Bool × Unit) × Dt73) := limX bounds_trail_last.spec bounds_trail_last.cals T Try.f42 d x
theorem bounds_trail_last.ck : CalsOk Try.prog bounds_trail_last.cals := (CalsOk.base tabsOk)
theorem bounds_trail_last.cal : XOk Try.prog tabs 42 bounds_trail_last.sig := xok_of tabOk bounds_trail_last.ck mix Try.func42 (by kernel_rfl) (by kernel_rfl) (by kernel_rfl) (by kernel_rfl)
noncomputable def bounds_trail_last.e  (G : Gh) (d : Dt73) (a0 : Int) : Option ((Unit × (Dt97 × Bool × Unit) × Dt73) × Nat × List Value) :=
  let v1 := (List.length d.2 : Int)
  let v2 := IntKind.i64.wrap (v1 - (1 : Int))
  let v3 := decide (v2 < (0 : Int))
  bif v3 then (some (((), (zt97, false, ()), (d.1, d.2)), G.b, [G.v 0, G.v 1]))
  else (bif decide (0 ≤ v2) && decide (v2 < (List.length d.2 : Int)) then (let v4 := (((List.getD d.2 (Int.toNat v2) zt97).2).2).1
  let v5 := decide (v4 ≤ a0)
  bif v5 then (some (((), (zt97, false, ()), (d.1, d.2)), G.b, [G.v 0, G.v 1]))
  else (bif decide (0 ≤ v2) && decide (v2 < (List.length d.2 : Int)) then (let v6 := (List.getD d.2 (Int.toNat v2) zt97).1
  let v7 := ((List.getD d.2 (Int.toNat v2) zt97).2).1
  let v8 := (((List.getD d.2 (Int.toNat v2) zt97).2).2).1
  let v9 := ((((List.getD d.2 (Int.toNat v2) zt97).2).2).2).1
  let v10 := ((((((((List.getD d.2 (Int.toNat v2) zt97).2).2).2).2).1).1).1).1
  let v11 := ((((((((List.getD d.2 (Int.toNat v2) zt97).2).2).2).2).1).1).1).2
  let v12 := (((((((List.getD d.2 (Int.toNat v2) zt97).2).2).2).2).1).1).2
  let v13 := ((((((((List.getD d.2 (Int.toNat v2) zt97).2).2).2).2).1).2).1).1
  let v14 := ((((((((List.getD d.2 (Int.toNat v2) zt97).2).2).2).2).1).2).1).2
  let v15 := (((((((List.getD d.2 (Int.toNat v2) zt97).2).2).2).2).1).2).2
  let v16 := (((((List.getD d.2 (Int.toNat v2) zt97).2).2).2).2).2
  bif decide (0 ≤ v2) && decide (v2 ≤ (List.length d.2 : Int)) then (let v17 := List.take (Int.toNat v2) d.2
  some (((), ((v6, (v7, (v8, (v9, ((((v10, v11), v12), ((v13, v14), v15)), v16))))), true, ()), (d.1, v17)), G.b, [G.v 0, G.v 1]))
  else none)
  else none))
  else none)
theorem bounds_trail_last.eval (k : Nat) (G : Gh) (d : Dt73) (a0 : Int) : evalX bounds_trail_last.spec bounds_trail_last.cals T Try.f42 k G d (a0, ()) = bounds_trail_last.e  G d a0 := by kernel_rfl
theorem bounds_trail_last.of (d : Dt73) (a0 : Int) (y : (Unit × (Dt97 × Bool × Unit) × Dt73)) (h : ∀ G : Gh, ∃ k : Nat, bounds_trail_last.e  G d a0 = some (y, (G.b, [G.v 0, G.v 1]))) : bounds_trail_last.F d (a0, ()) = some y := limX_of (q := bounds_trail_last.spec) (C := bounds_trail_last.cals) (T := T) (f := Try.f42) (d := d) (x := (a0, ())) y fun G => (h G).imp fun k hk => (bounds_trail_last.eval k G d a0).trans hk

def bounds_Store_Back.spec : XSpec := ⟨some ⟨75, 0, Kt75, 0⟩, false, [(false, (.int .i64))], false, none, [(false, (.int .i64))], false, fun j => match j with | 6 => [(0, .pbox 75 [.v true, .o 97 Kt97 true, .v true, .o 55 Kt55 true]), (1, .lf (.v true)), (5, .box 97 [.v true, .v true, .v true, .v true, .v true, .z 115 (.int .u32) true, .z 115 (.int .u32) true, .v true, .z 115 (.int .u32) true, .z 115 (.int .u32) true, .v true]), (6, .lf (.v true))] | _ => []⟩
noncomputable def bounds_Store_Back.cals : Cals := (Cals.consX 31 false bounds_Store_is.sig (Cals.consX 42 false bounds_trail_last.sig (Cals.base tabs)))
noncomputable def bounds_Store_Back.sig : XSig := bounds_Store_Back.spec.sig bounds_Store_Back.cals T Try.f23
noncomputable def bounds_Store_Back.F (d : Dt75) (x : Int × Unit) : Option (Unit × (Int × Unit) × Dt75) := limX bounds_Store_Back.spec bounds_Store_Back.cals T Try.f23 d x
theorem bounds_Store_Back.ck : CalsOk Try.prog bounds_Store_Back.cals := (CalsOk.consX bounds_Store_is.cal (CalsOk.consX bounds_trail_last.cal (CalsOk.base tabsOk)))
theorem bounds_Store_Back.cal : XOk Try.prog tabs 23 bounds_Store_Back.sig := xok_of tabOk bounds_Store_Back.ck mix Try.func23 (by kernel_rfl) (by kernel_rfl) (by kernel_rfl) (by kernel_rfl)
def bounds_Store_Back.m6 (x0_g : Nat) (x0_0 : Int) (x0_1 : Dt27) (x0_2 : Bool) (x0_3 : Dt26) (x1 : Int) (x5_0 : Int) (x5_1 : Bool) (x5_2 : Int) (x5_3 : Bool) (x5_4 : Bool) (x5_5 : Dt41) (x5_6 : Dt41) (x5_7 : Bool) (x5_8 : Dt41) (x5_9 : Dt41) (x5_10 : Int) (x6 : Bool) : S := ⟨[(0, .pbox 0 0 x0_g), (1, .one (.lf (.val true (.int .i64) x1))), (5, .box 1 0), (6, .one (.lf (.val true .bool x6)))], ⟨[some ⟨97, Kt97, true, true, x0_1⟩, some ⟨55, Kt55, true, true, x0_3⟩], [some ⟨75, [.val true (.int .i64) x0_0, .own 0, .val true .bool x0_2, .own 1]⟩, some ⟨97, [.val true (.int .i64) x5_0, .val true .bool x5_1, .val true (.int .i64) x5_2, .val true .bool x5_3, .val true .bool x5_4, .val true Kt41 x5_5, .val true Kt41 x5_6, .val true .bool x5_7, .val true Kt41 x5_8, .val true Kt41 x5_9, .val true (.int .i64) x5_10]⟩]⟩⟩
noncomputable def bounds_Store_Back.b6 (f6 : Nat → Int → Dt27 → Bool → Dt26 → Int → Int → Bool → Int → Bool → Bool → Dt41 → Dt41 → Bool → Dt41 → Dt41 → Int → Bool → Option ((Unit × (Int × Unit) × Dt75) × Nat × List Value)) (x0_g : Nat) (x0_0 : Int) (x0_1 : Dt27) (x0_2 : Bool) (x0_3 : Dt26) (x1 : Int) (x5_0 : Int) (x5_1 : Bool) (x5_2 : Int) (x5_3 : Bool) (x5_4 : Bool) (x5_5 : Dt41) (x5_6 : Dt41) (x5_7 : Bool) (x5_8 : Dt41) (x5_9 : Dt41) (x5_10 : Int) (x6 : Bool) : Option ((Unit × (Int × Unit) × Dt75) × Nat × List Value) :=
  bif x6 then (bif x5_1 then (bif decide (0 ≤ x5_0) && decide (x5_0 < (List.length x0_3 : Int)) then (let v1 := List.set x0_3 (Int.toNat x5_0) ((((List.getD x0_3 (Int.toNat x5_0) zt55).1).1, ((((((((((List.getD x0_3 (Int.toNat x5_0) zt55).1).2).1).1).1).1, ((((((List.getD x0_3 (Int.toNat x5_0) zt55).1).2).1).1).1).2), (((((List.getD x0_3 (Int.toNat x5_0) zt55).1).2).1).1).2), ((((((((List.getD x0_3 (Int.toNat x5_0) zt55).1).2).1).2).1).1, ((((((List.getD x0_3 (Int.toNat x5_0) zt55).1).2).1).2).1).2), (((((List.getD x0_3 (Int.toNat x5_0) zt55).1).2).1).2).2)), (((List.getD x0_3 (Int.toNat x5_0) zt55).1).2).2)), (x5_3, ((((x5_4, x5_5), x5_6), ((x5_7, x5_8), x5_9)), x5_10)))
  (bounds_trail_last.F (x0_0, x0_1) (x1, ())).bind fun y2 =>
  f6 x0_g y2.2.2.1 y2.2.2.2 x0_2 v1 x1 y2.2.1.1.1 y2.2.1.1.2.1 y2.2.1.1.2.2.1 y2.2.1.1.2.2.2.1 y2.2.1.1.2.2.2.2.1.1.1.1 y2.2.1.1.2.2.2.2.1.1.1.2 y2.2.1.1.2.2.2.2.1.1.2 y2.2.1.1.2.2.2.2.1.2.1.1 y2.2.1.1.2.2.2.2.1.2.1.2 y2.2.1.1.2.2.2.2.1.2.2 y2.2.1.1.2.2.2.2.2 y2.2.1.2.1)
  else none)
  else (bif decide (0 ≤ x5_0) && decide (x5_0 < (List.length x0_3 : Int)) then (let v3 := List.set x0_3 (Int.toNat x5_0) ((x5_3, ((((x5_4, x5_5), x5_6), ((x5_7, x5_8), x5_9)), x5_10)), (((List.getD x0_3 (Int.toNat x5_0) zt55).2).1, ((((((((((List.getD x0_3 (Int.toNat x5_0) zt55).2).2).1).1).1).1, ((((((List.getD x0_3 (Int.toNat x5_0) zt55).2).2).1).1).1).2), (((((List.getD x0_3 (Int.toNat x5_0) zt55).2).2).1).1).2), ((((((((List.getD x0_3 (Int.toNat x5_0) zt55).2).2).1).2).1).1, ((((((List.getD x0_3 (Int.toNat x5_0) zt55).2).2).1).2).1).2), (((((List.getD x0_3 (Int.toNat x5_0) zt55).2).2).1).2).2)), (((List.getD x0_3 (Int.toNat x5_0) zt55).2).2).2)))
  (bounds_trail_last.F (x0_0, x0_1) (x1, ())).bind fun y4 =>
  f6 x0_g y4.2.2.1 y4.2.2.2 x0_2 v3 x1 y4.2.1.1.1 y4.2.1.1.2.1 y4.2.1.1.2.2.1 y4.2.1.1.2.2.2.1 y4.2.1.1.2.2.2.2.1.1.1.1 y4.2.1.1.2.2.2.2.1.1.1.2 y4.2.1.1.2.2.2.2.1.1.2 y4.2.1.1.2.2.2.2.1.2.1.1 y4.2.1.1.2.2.2.2.1.2.1.2 y4.2.1.1.2.2.2.2.1.2.2 y4.2.1.1.2.2.2.2.2 y4.2.1.2.1)
  else none))
  else (some (((), ((0 : Int), ()), ((x1, x0_1), (x0_2, x0_3))), x0_g, []))
noncomputable def bounds_Store_Back.e (f6 : Nat → Int → Dt27 → Bool → Dt26 → Int → Int → Bool → Int → Bool → Bool → Dt41 → Dt41 → Bool → Dt41 → Dt41 → Int → Bool → Option ((Unit × (Int × Unit) × Dt75) × Nat × List Value)) (G : Gh) (d : Dt75) (a0 : Int) : Option ((Unit × (Int × Unit) × Dt75) × Nat × List Value) :=
  (bounds_Store_is.F ((d.1.1, d.1.2), (d.2.1, d.2.2)) ()).bind fun y1 =>
  let v2 := not y1.2.1.1
  bif v2 then (some (((), ((1 : Int), ()), ((y1.2.2.1.1, y1.2.2.1.2), (y1.2.2.2.1, y1.2.2.2.2))), G.b, []))
  else (let v3 := decide (a0 < (0 : Int))
  bif v3 then (some (((), ((80 : Int), ()), ((y1.2.2.1.1, y1.2.2.1.2), (y1.2.2.2.1, y1.2.2.2.2))), G.b, []))
  else (let v4 := decide (a0 > y1.2.2.1.1)
  bif v4 then (some (((), ((80 : Int), ()), ((y1.2.2.1.1, y1.2.2.1.2), (y1.2.2.2.1, y1.2.2.2.2))), G.b, []))
  else ((bounds_trail_last.F (y1.2.2.1.1, y1.2.2.1.2) (a0, ())).bind fun y5 =>
  f6 G.b y5.2.2.1 y5.2.2.2 y1.2.2.2.1 y1.2.2.2.2 a0 y5.2.1.1.1 y5.2.1.1.2.1 y5.2.1.1.2.2.1 y5.2.1.1.2.2.2.1 y5.2.1.1.2.2.2.2.1.1.1.1 y5.2.1.1.2.2.2.2.1.1.1.2 y5.2.1.1.2.2.2.2.1.1.2 y5.2.1.1.2.2.2.2.1.2.1.1 y5.2.1.1.2.2.2.2.1.2.1.2 y5.2.1.1.2.2.2.2.1.2.2 y5.2.1.1.2.2.2.2.2 y5.2.1.2.1)))
noncomputable def bounds_Store_Back.L6 (k : Nat) (x0_g : Nat) (x0_0 : Int) (x0_1 : Dt27) (x0_2 : Bool) (x0_3 : Dt26) (x1 : Int) (x5_0 : Int) (x5_1 : Bool) (x5_2 : Int) (x5_3 : Bool) (x5_4 : Bool) (x5_5 : Dt41) (x5_6 : Dt41) (x5_7 : Bool) (x5_8 : Dt41) (x5_9 : Dt41) (x5_10 : Int) (x6 : Bool) : Option ((Unit × (Int × Unit) × Dt75) × Nat × List Value) := heads (bounds_Store_Back.spec.env bounds_Store_Back.cals T Try.f23) (Func.pts Try.f23) k 6 (bounds_Store_Back.m6 x0_g x0_0 x0_1 x0_2 x0_3 x1 x5_0 x5_1 x5_2 x5_3 x5_4 x5_5 x5_6 x5_7 x5_8 x5_9 x5_10 x6)
theorem bounds_Store_Back.L6_succ (k : Nat) (x0_g : Nat) (x0_0 : Int) (x0_1 : Dt27) (x0_2 : Bool) (x0_3 : Dt26) (x1 : Int) (x5_0 : Int) (x5_1 : Bool) (x5_2 : Int) (x5_3 : Bool) (x5_4 : Bool) (x5_5 : Dt41) (x5_6 : Dt41) (x5_7 : Bool) (x5_8 : Dt41) (x5_9 : Dt41) (x5_10 : Int) (x6 : Bool) : bounds_Store_Back.L6 (k + 1) x0_g x0_0 x0_1 x0_2 x0_3 x1 x5_0 x5_1 x5_2 x5_3 x5_4 x5_5 x5_6 x5_7 x5_8 x5_9 x5_10 x6 = bounds_Store_Back.b6 (bounds_Store_Back.L6 k) x0_g x0_0 x0_1 x0_2 x0_3 x1 x5_0 x5_1 x5_2 x5_3 x5_4 x5_5 x5_6 x5_7 x5_8 x5_9 x5_10 x6 := by kernel_rfl
theorem bounds_Store_Back.eval (k : Nat) (G : Gh) (d : Dt75) (a0 : Int) : evalX bounds_Store_Back.spec bounds_Store_Back.cals T Try.f23 k G d (a0, ()) = bounds_Store_Back.e (bounds_Store_Back.L6 k) G d a0 := by kernel_rfl
theorem bounds_Store_Back.of (d : Dt75) (a0 : Int) (y : (Unit × (Int × Unit) × Dt75)) (h : ∀ G : Gh, ∃ k : Nat, bounds_Store_Back.e (bounds_Store_Back.L6 k) G d a0 = some (y, (G.b, []))) : bounds_Store_Back.F d (a0, ()) = some y := limX_of (q := bounds_Store_Back.spec) (C := bounds_Store_Back.cals) (T := T) (f := Try.f23) (d := d) (x := (a0, ())) y fun G => (h G).imp fun k hk => (bounds_Store_Back.eval k G d a0).trans hk

def fulcrumref08_Is.spec : Spec := ⟨[(true, Kt29), (false, (.int .i64))], [(false, .bool)], .own, fun j => match j with  | _ => []⟩
noncomputable def fulcrumref08_Is.cals : Cals := (Cals.base tabs)
noncomputable def fulcrumref08_Is.sig : Sig := fulcrumref08_Is.spec.sig fulcrumref08_Is.cals T Try.f64
noncomputable def fulcrumref08_Is.F (x : Dt29 × Int × Unit) : Option (Bool × Unit) := limF fulcrumref08_Is.spec fulcrumref08_Is.cals T Try.f64 x
theorem fulcrumref08_Is.ck : CalsOk Try.prog fulcrumref08_Is.cals := (CalsOk.base tabsOk)
theorem fulcrumref08_Is.cal : CalOk Try.prog tabs 64 fulcrumref08_Is.sig := calOk_lim' tabOk fulcrumref08_Is.ck mix Try.func64 (by kernel_rfl) (by kernel_rfl) (by kernel_rfl) (by kernel_rfl)
noncomputable def fulcrumref08_Is.e  (a0 : Dt29) (a1 : Int) : Option (Bool × Unit) :=
  let v1 := decide (a1 ≥ (0 : Int))
  bif v1 then (let v2 := (List.length a0.1 : Int)
  let v3 := decide (a1 < v2)
  some (v3, ()))
  else (some (false, ()))
theorem fulcrumref08_Is.eval (k : Nat) (a0 : Dt29) (a1 : Int) : evalF fulcrumref08_Is.spec fulcrumref08_Is.cals T Try.f64 k (a0, a1, ()) = fulcrumref08_Is.e  a0 a1 := by kernel_rfl
theorem fulcrumref08_Is.F_eq (a0 : Dt29) (a1 : Int) : fulcrumref08_Is.F (a0, a1, ()) = limF fulcrumref08_Is.spec fulcrumref08_Is.cals T Try.f64 (a0, a1, ()) := by kernel_rfl
theorem fulcrumref08_Is.of (k : Nat) (a0 : Dt29) (a1 : Int) {y : Bool × Unit} (h : fulcrumref08_Is.e  a0 a1 = some y) : fulcrumref08_Is.F (a0, a1, ()) = some y := (fulcrumref08_Is.F_eq a0 a1).trans (limF_of (q := fulcrumref08_Is.spec) (C := fulcrumref08_Is.cals) (T := T) (f := Try.f64) (x := (a0, a1, ())) (y := y) k ((fulcrumref08_Is.eval k a0 a1).trans h))

def fulcrumref08_tighter.spec : Spec := ⟨[(false, .bool), (true, Kt47), (true, Kt47)], [(false, .bool)], .own, fun j => match j with  | _ => []⟩
noncomputable def fulcrumref08_tighter.cals : Cals := (Cals.cons 17 fulcrumref05_Cmp.sig (Cals.base tabs))
noncomputable def fulcrumref08_tighter.sig : Sig := fulcrumref08_tighter.spec.sig fulcrumref08_tighter.cals T Try.f65
noncomputable def fulcrumref08_tighter.F (x : Bool × Dt47 × Dt47 × Unit) : Option (Bool × Unit) := limF fulcrumref08_tighter.spec fulcrumref08_tighter.cals T Try.f65 x
theorem fulcrumref08_tighter.ck : CalsOk Try.prog fulcrumref08_tighter.cals := (CalsOk.cons fulcrumref05_Cmp.cal (CalsOk.base tabsOk))
theorem fulcrumref08_tighter.cal : CalOk Try.prog tabs 65 fulcrumref08_tighter.sig := calOk_lim' tabOk fulcrumref08_tighter.ck mix Try.func65 (by kernel_rfl) (by kernel_rfl) (by kernel_rfl) (by kernel_rfl)
noncomputable def fulcrumref08_tighter.e  (a0 : Bool) (a1 : Dt47) (a2 : Dt47) : Option (Bool × Unit) :=
  bif a0 then ((fulcrumref05_Cmp.F ((((a1.1.1.1, a1.1.1.2), a1.1.2), ((a1.2.1.1, a1.2.1.2), a1.2.2)), (((a2.1.1.1, a2.1.1.2), a2.1.2), ((a2.2.1.1, a2.2.1.2), a2.2.2)), ())).bind fun y1 =>
  let v2 := decide (y1.1 < (0 : Int))
  some (v2, ()))
  else ((fulcrumref05_Cmp.F ((((a1.1.1.1, a1.1.1.2), a1.1.2), ((a1.2.1.1, a1.2.1.2), a1.2.2)), (((a2.1.1.1, a2.1.1.2), a2.1.2), ((a2.2.1.1, a2.2.1.2), a2.2.2)), ())).bind fun y3 =>
  let v4 := decide (y3.1 > (0 : Int))
  some (v4, ()))
theorem fulcrumref08_tighter.eval (k : Nat) (a0 : Bool) (a1 : Dt47) (a2 : Dt47) : evalF fulcrumref08_tighter.spec fulcrumref08_tighter.cals T Try.f65 k (a0, a1, a2, ()) = fulcrumref08_tighter.e  a0 a1 a2 := by kernel_rfl
theorem fulcrumref08_tighter.F_eq (a0 : Bool) (a1 : Dt47) (a2 : Dt47) : fulcrumref08_tighter.F (a0, a1, a2, ()) = limF fulcrumref08_tighter.spec fulcrumref08_tighter.cals T Try.f65 (a0, a1, a2, ()) := by kernel_rfl
theorem fulcrumref08_tighter.of (k : Nat) (a0 : Bool) (a1 : Dt47) (a2 : Dt47) {y : Bool × Unit} (h : fulcrumref08_tighter.e  a0 a1 a2 = some y) : fulcrumref08_tighter.F (a0, a1, a2, ()) = some y := (fulcrumref08_tighter.F_eq a0 a1 a2).trans (limF_of (q := fulcrumref08_tighter.spec) (C := fulcrumref08_tighter.cals) (T := T) (f := Try.f65) (x := (a0, a1, a2, ())) (y := y) k ((fulcrumref08_tighter.eval k a0 a1 a2).trans h))

def fulcrumref08_Assert.spec : Spec := ⟨[(true, Kt29), (false, (.int .i64)), (false, .bool), (true, Kt47), (false, (.int .i64))], [(true, Kt29), (true, Kt64), (false, (.int .i64))], .shared, fun j => match j with  | _ => []⟩
noncomputable def fulcrumref08_Assert.cals : Cals := (Cals.cons 64 fulcrumref08_Is.sig (Cals.cons 65 fulcrumref08_tighter.sig (Cals.cons 32 fulcrumref08_Copy.sig (Cals.cons 59 fulcrumref05_Norm.sig (Cals.base tabs)))))
noncomputable def fulcrumref08_Assert.sig : Sig := fulcrumref08_Assert.spec.sig fulcrumref08_Assert.cals T Try.f53
noncomputable def fulcrumref08_Assert.F (x : Dt29 × Int × Bool × Dt47 × Int × Unit) : Option (Dt29 × Dt64 × Int × Unit) := limF fulcrumref08_Assert.spec fulcrumref08_Assert.cals T Try.f53 x
theorem fulcrumref08_Assert.ck : CalsOk Try.prog fulcrumref08_Assert.cals := (CalsOk.cons fulcrumref08_Is.cal (CalsOk.cons fulcrumref08_tighter.cal (CalsOk.cons fulcrumref08_Copy.cal (CalsOk.cons fulcrumref05_Norm.cal (CalsOk.base tabsOk)))))
theorem fulcrumref08_Assert.cal : CalOk Try.prog tabs 53 fulcrumref08_Assert.sig := calOk_lim' tabOk fulcrumref08_Assert.ck mix Try.func53 (by kernel_rfl) (by kernel_rfl) (by kernel_rfl) (by kernel_rfl)
noncomputable def fulcrumref08_Assert.e  (a0 : Dt29) (a1 : Int) (a2 : Bool) (a3 : Dt47) (a4 : Int) : Option (Dt29 × Dt64 × Int × Unit) :=
  (fulcrumref08_Is.F ((a0.1, (a0.2.1, a0.2.2)), a1, ())).bind fun y1 =>
  let v2 := not y1.1
  bif v2 then (some ((a0.1, (a0.2.1, a0.2.2)), zt64, (61 : Int), ()))
  else (bif decide (0 ≤ a1) && decide (a1 < (List.length a0.1 : Int)) then (let v3 := ((List.getD a0.1 (Int.toNat a1) zt55).1).1
  let v4 := ((((((List.getD a0.1 (Int.toNat a1) zt55).1).2).1).1).1).1
  let v5 := ((((((List.getD a0.1 (Int.toNat a1) zt55).1).2).1).1).1).2
  let v6 := (((((List.getD a0.1 (Int.toNat a1) zt55).1).2).1).1).2
  let v7 := ((((((List.getD a0.1 (Int.toNat a1) zt55).1).2).1).2).1).1
  let v8 := ((((((List.getD a0.1 (Int.toNat a1) zt55).1).2).1).2).1).2
  let v9 := (((((List.getD a0.1 (Int.toNat a1) zt55).1).2).1).2).2
  let v10 := (((List.getD a0.1 (Int.toNat a1) zt55).1).2).2
  bif decide (0 ≤ a1) && decide (a1 < (List.length a0.1 : Int)) then (let v11 := ((List.getD a0.1 (Int.toNat a1) zt55).2).1
  let v12 := ((((((List.getD a0.1 (Int.toNat a1) zt55).2).2).1).1).1).1
  let v13 := ((((((List.getD a0.1 (Int.toNat a1) zt55).2).2).1).1).1).2
  let v14 := (((((List.getD a0.1 (Int.toNat a1) zt55).2).2).1).1).2
  let v15 := ((((((List.getD a0.1 (Int.toNat a1) zt55).2).2).1).2).1).1
  let v16 := ((((((List.getD a0.1 (Int.toNat a1) zt55).2).2).1).2).1).2
  let v17 := (((((List.getD a0.1 (Int.toNat a1) zt55).2).2).1).2).2
  let v18 := (((List.getD a0.1 (Int.toNat a1) zt55).2).2).2
  bif a2 then (bif v11 then ((fulcrumref08_tighter.F (a2, (((a3.1.1.1, a3.1.1.2), a3.1.2), ((a3.2.1.1, a3.2.1.2), a3.2.2)), (((v12, v13), v14), ((v15, v16), v17)), ())).bind fun y19 =>
  let v20 := not y19.1
  bif v20 then (some ((a0.1, (a0.2.1, a0.2.2)), zt64, (0 : Int), ()))
  else (bif v3 then ((fulcrumref08_tighter.F (a2, (((a3.1.1.1, a3.1.1.2), a3.1.2), ((a3.2.1.1, a3.2.1.2), a3.2.2)), (((v4, v5), v6), ((v7, v8), v9)), ())).bind fun y21 =>
  bif y21.1 then (some ((a0.1, (a0.2.1, a0.2.2)), ((2 : Int), v10), (0 : Int), ()))
  else ((fulcrumref08_Copy.F ((a0.1, (a0.2.1, a0.2.2)), ())).bind fun y22 =>
  let v23 := ([(a1, (a2, (a0.2.1, (v11, ((((v12, v13), v14), ((v15, v16), v17)), v18)))))] : List Dt97)
  bif decide (List.length y22.1.2.2 + List.length v23 < 925904528653) then (let v24 := List.append y22.1.2.2 v23
  (fulcrumref05_Norm.F ((((a3.1.1.1, a3.1.1.2), a3.1.2), ((a3.2.1.1, a3.2.1.2), a3.2.2)), ())).bind fun y25 =>
  bif a2 then (bif decide (0 ≤ a1) && decide (a1 < (List.length y22.1.1 : Int)) then (let v26 := List.set y22.1.1 (Int.toNat a1) ((((List.getD y22.1.1 (Int.toNat a1) zt55).1).1, ((((((((((List.getD y22.1.1 (Int.toNat a1) zt55).1).2).1).1).1).1, ((((((List.getD y22.1.1 (Int.toNat a1) zt55).1).2).1).1).1).2), (((((List.getD y22.1.1 (Int.toNat a1) zt55).1).2).1).1).2), ((((((((List.getD y22.1.1 (Int.toNat a1) zt55).1).2).1).2).1).1, ((((((List.getD y22.1.1 (Int.toNat a1) zt55).1).2).1).2).1).2), (((((List.getD y22.1.1 (Int.toNat a1) zt55).1).2).1).2).2)), (((List.getD y22.1.1 (Int.toNat a1) zt55).1).2).2)), (true, ((((y25.1.1.1.1, y25.1.1.1.2), y25.1.1.2), ((y25.1.2.1.1, y25.1.2.1.2), y25.1.2.2)), a4)))
  some ((v26, (y22.1.2.1, v24)), ((1 : Int), (0 : Int)), (0 : Int), ()))
  else none)
  else (bif decide (0 ≤ a1) && decide (a1 < (List.length y22.1.1 : Int)) then (let v27 := List.set y22.1.1 (Int.toNat a1) ((true, ((((y25.1.1.1.1, y25.1.1.1.2), y25.1.1.2), ((y25.1.2.1.1, y25.1.2.1.2), y25.1.2.2)), a4)), (((List.getD y22.1.1 (Int.toNat a1) zt55).2).1, ((((((((((List.getD y22.1.1 (Int.toNat a1) zt55).2).2).1).1).1).1, ((((((List.getD y22.1.1 (Int.toNat a1) zt55).2).2).1).1).1).2), (((((List.getD y22.1.1 (Int.toNat a1) zt55).2).2).1).1).2), ((((((((List.getD y22.1.1 (Int.toNat a1) zt55).2).2).1).2).1).1, ((((((List.getD y22.1.1 (Int.toNat a1) zt55).2).2).1).2).1).2), (((((List.getD y22.1.1 (Int.toNat a1) zt55).2).2).1).2).2)), (((List.getD y22.1.1 (Int.toNat a1) zt55).2).2).2)))
  some ((v27, (y22.1.2.1, v24)), ((1 : Int), (0 : Int)), (0 : Int), ()))
  else none))
  else none))
  else ((fulcrumref08_Copy.F ((a0.1, (a0.2.1, a0.2.2)), ())).bind fun y28 =>
  let v29 := ([(a1, (a2, (a0.2.1, (v11, ((((v12, v13), v14), ((v15, v16), v17)), v18)))))] : List Dt97)
  bif decide (List.length y28.1.2.2 + List.length v29 < 925904528653) then (let v30 := List.append y28.1.2.2 v29
  (fulcrumref05_Norm.F ((((a3.1.1.1, a3.1.1.2), a3.1.2), ((a3.2.1.1, a3.2.1.2), a3.2.2)), ())).bind fun y31 =>
  bif a2 then (bif decide (0 ≤ a1) && decide (a1 < (List.length y28.1.1 : Int)) then (let v32 := List.set y28.1.1 (Int.toNat a1) ((((List.getD y28.1.1 (Int.toNat a1) zt55).1).1, ((((((((((List.getD y28.1.1 (Int.toNat a1) zt55).1).2).1).1).1).1, ((((((List.getD y28.1.1 (Int.toNat a1) zt55).1).2).1).1).1).2), (((((List.getD y28.1.1 (Int.toNat a1) zt55).1).2).1).1).2), ((((((((List.getD y28.1.1 (Int.toNat a1) zt55).1).2).1).2).1).1, ((((((List.getD y28.1.1 (Int.toNat a1) zt55).1).2).1).2).1).2), (((((List.getD y28.1.1 (Int.toNat a1) zt55).1).2).1).2).2)), (((List.getD y28.1.1 (Int.toNat a1) zt55).1).2).2)), (true, ((((y31.1.1.1.1, y31.1.1.1.2), y31.1.1.2), ((y31.1.2.1.1, y31.1.2.1.2), y31.1.2.2)), a4)))
  some ((v32, (y28.1.2.1, v30)), ((1 : Int), (0 : Int)), (0 : Int), ()))
  else none)
  else (bif decide (0 ≤ a1) && decide (a1 < (List.length y28.1.1 : Int)) then (let v33 := List.set y28.1.1 (Int.toNat a1) ((true, ((((y31.1.1.1.1, y31.1.1.1.2), y31.1.1.2), ((y31.1.2.1.1, y31.1.2.1.2), y31.1.2.2)), a4)), (((List.getD y28.1.1 (Int.toNat a1) zt55).2).1, ((((((((((List.getD y28.1.1 (Int.toNat a1) zt55).2).2).1).1).1).1, ((((((List.getD y28.1.1 (Int.toNat a1) zt55).2).2).1).1).1).2), (((((List.getD y28.1.1 (Int.toNat a1) zt55).2).2).1).1).2), ((((((((List.getD y28.1.1 (Int.toNat a1) zt55).2).2).1).2).1).1, ((((((List.getD y28.1.1 (Int.toNat a1) zt55).2).2).1).2).1).2), (((((List.getD y28.1.1 (Int.toNat a1) zt55).2).2).1).2).2)), (((List.getD y28.1.1 (Int.toNat a1) zt55).2).2).2)))
  some ((v33, (y28.1.2.1, v30)), ((1 : Int), (0 : Int)), (0 : Int), ()))
  else none))
  else none)))
  else (bif v3 then ((fulcrumref08_tighter.F (a2, (((a3.1.1.1, a3.1.1.2), a3.1.2), ((a3.2.1.1, a3.2.1.2), a3.2.2)), (((v4, v5), v6), ((v7, v8), v9)), ())).bind fun y34 =>
  bif y34.1 then (some ((a0.1, (a0.2.1, a0.2.2)), ((2 : Int), v10), (0 : Int), ()))
  else ((fulcrumref08_Copy.F ((a0.1, (a0.2.1, a0.2.2)), ())).bind fun y35 =>
  let v36 := ([(a1, (a2, (a0.2.1, (v11, ((((v12, v13), v14), ((v15, v16), v17)), v18)))))] : List Dt97)
  bif decide (List.length y35.1.2.2 + List.length v36 < 925904528653) then (let v37 := List.append y35.1.2.2 v36
  (fulcrumref05_Norm.F ((((a3.1.1.1, a3.1.1.2), a3.1.2), ((a3.2.1.1, a3.2.1.2), a3.2.2)), ())).bind fun y38 =>
  bif a2 then (bif decide (0 ≤ a1) && decide (a1 < (List.length y35.1.1 : Int)) then (let v39 := List.set y35.1.1 (Int.toNat a1) ((((List.getD y35.1.1 (Int.toNat a1) zt55).1).1, ((((((((((List.getD y35.1.1 (Int.toNat a1) zt55).1).2).1).1).1).1, ((((((List.getD y35.1.1 (Int.toNat a1) zt55).1).2).1).1).1).2), (((((List.getD y35.1.1 (Int.toNat a1) zt55).1).2).1).1).2), ((((((((List.getD y35.1.1 (Int.toNat a1) zt55).1).2).1).2).1).1, ((((((List.getD y35.1.1 (Int.toNat a1) zt55).1).2).1).2).1).2), (((((List.getD y35.1.1 (Int.toNat a1) zt55).1).2).1).2).2)), (((List.getD y35.1.1 (Int.toNat a1) zt55).1).2).2)), (true, ((((y38.1.1.1.1, y38.1.1.1.2), y38.1.1.2), ((y38.1.2.1.1, y38.1.2.1.2), y38.1.2.2)), a4)))
  some ((v39, (y35.1.2.1, v37)), ((1 : Int), (0 : Int)), (0 : Int), ()))
  else none)
  else (bif decide (0 ≤ a1) && decide (a1 < (List.length y35.1.1 : Int)) then (let v40 := List.set y35.1.1 (Int.toNat a1) ((true, ((((y38.1.1.1.1, y38.1.1.1.2), y38.1.1.2), ((y38.1.2.1.1, y38.1.2.1.2), y38.1.2.2)), a4)), (((List.getD y35.1.1 (Int.toNat a1) zt55).2).1, ((((((((((List.getD y35.1.1 (Int.toNat a1) zt55).2).2).1).1).1).1, ((((((List.getD y35.1.1 (Int.toNat a1) zt55).2).2).1).1).1).2), (((((List.getD y35.1.1 (Int.toNat a1) zt55).2).2).1).1).2), ((((((((List.getD y35.1.1 (Int.toNat a1) zt55).2).2).1).2).1).1, ((((((List.getD y35.1.1 (Int.toNat a1) zt55).2).2).1).2).1).2), (((((List.getD y35.1.1 (Int.toNat a1) zt55).2).2).1).2).2)), (((List.getD y35.1.1 (Int.toNat a1) zt55).2).2).2)))
  some ((v40, (y35.1.2.1, v37)), ((1 : Int), (0 : Int)), (0 : Int), ()))
  else none))
  else none))
  else ((fulcrumref08_Copy.F ((a0.1, (a0.2.1, a0.2.2)), ())).bind fun y41 =>
  let v42 := ([(a1, (a2, (a0.2.1, (v11, ((((v12, v13), v14), ((v15, v16), v17)), v18)))))] : List Dt97)
  bif decide (List.length y41.1.2.2 + List.length v42 < 925904528653) then (let v43 := List.append y41.1.2.2 v42
  (fulcrumref05_Norm.F ((((a3.1.1.1, a3.1.1.2), a3.1.2), ((a3.2.1.1, a3.2.1.2), a3.2.2)), ())).bind fun y44 =>
  bif a2 then (bif decide (0 ≤ a1) && decide (a1 < (List.length y41.1.1 : Int)) then (let v45 := List.set y41.1.1 (Int.toNat a1) ((((List.getD y41.1.1 (Int.toNat a1) zt55).1).1, ((((((((((List.getD y41.1.1 (Int.toNat a1) zt55).1).2).1).1).1).1, ((((((List.getD y41.1.1 (Int.toNat a1) zt55).1).2).1).1).1).2), (((((List.getD y41.1.1 (Int.toNat a1) zt55).1).2).1).1).2), ((((((((List.getD y41.1.1 (Int.toNat a1) zt55).1).2).1).2).1).1, ((((((List.getD y41.1.1 (Int.toNat a1) zt55).1).2).1).2).1).2), (((((List.getD y41.1.1 (Int.toNat a1) zt55).1).2).1).2).2)), (((List.getD y41.1.1 (Int.toNat a1) zt55).1).2).2)), (true, ((((y44.1.1.1.1, y44.1.1.1.2), y44.1.1.2), ((y44.1.2.1.1, y44.1.2.1.2), y44.1.2.2)), a4)))
  some ((v45, (y41.1.2.1, v43)), ((1 : Int), (0 : Int)), (0 : Int), ()))
  else none)
  else (bif decide (0 ≤ a1) && decide (a1 < (List.length y41.1.1 : Int)) then (let v46 := List.set y41.1.1 (Int.toNat a1) ((true, ((((y44.1.1.1.1, y44.1.1.1.2), y44.1.1.2), ((y44.1.2.1.1, y44.1.2.1.2), y44.1.2.2)), a4)), (((List.getD y41.1.1 (Int.toNat a1) zt55).2).1, ((((((((((List.getD y41.1.1 (Int.toNat a1) zt55).2).2).1).1).1).1, ((((((List.getD y41.1.1 (Int.toNat a1) zt55).2).2).1).1).1).2), (((((List.getD y41.1.1 (Int.toNat a1) zt55).2).2).1).1).2), ((((((((List.getD y41.1.1 (Int.toNat a1) zt55).2).2).1).2).1).1, ((((((List.getD y41.1.1 (Int.toNat a1) zt55).2).2).1).2).1).2), (((((List.getD y41.1.1 (Int.toNat a1) zt55).2).2).1).2).2)), (((List.getD y41.1.1 (Int.toNat a1) zt55).2).2).2)))
  some ((v46, (y41.1.2.1, v43)), ((1 : Int), (0 : Int)), (0 : Int), ()))
  else none))
  else none)))
  else (bif v3 then ((fulcrumref08_tighter.F (a2, (((a3.1.1.1, a3.1.1.2), a3.1.2), ((a3.2.1.1, a3.2.1.2), a3.2.2)), (((v4, v5), v6), ((v7, v8), v9)), ())).bind fun y47 =>
  let v48 := not y47.1
  bif v48 then (some ((a0.1, (a0.2.1, a0.2.2)), zt64, (0 : Int), ()))
  else (bif v11 then ((fulcrumref08_tighter.F (a2, (((a3.1.1.1, a3.1.1.2), a3.1.2), ((a3.2.1.1, a3.2.1.2), a3.2.2)), (((v12, v13), v14), ((v15, v16), v17)), ())).bind fun y49 =>
  bif y49.1 then (some ((a0.1, (a0.2.1, a0.2.2)), ((2 : Int), v18), (0 : Int), ()))
  else ((fulcrumref08_Copy.F ((a0.1, (a0.2.1, a0.2.2)), ())).bind fun y50 =>
  let v51 := ([(a1, (a2, (a0.2.1, (v3, ((((v4, v5), v6), ((v7, v8), v9)), v10)))))] : List Dt97)
  bif decide (List.length y50.1.2.2 + List.length v51 < 925904528653) then (let v52 := List.append y50.1.2.2 v51
  (fulcrumref05_Norm.F ((((a3.1.1.1, a3.1.1.2), a3.1.2), ((a3.2.1.1, a3.2.1.2), a3.2.2)), ())).bind fun y53 =>
  bif a2 then (bif decide (0 ≤ a1) && decide (a1 < (List.length y50.1.1 : Int)) then (let v54 := List.set y50.1.1 (Int.toNat a1) ((((List.getD y50.1.1 (Int.toNat a1) zt55).1).1, ((((((((((List.getD y50.1.1 (Int.toNat a1) zt55).1).2).1).1).1).1, ((((((List.getD y50.1.1 (Int.toNat a1) zt55).1).2).1).1).1).2), (((((List.getD y50.1.1 (Int.toNat a1) zt55).1).2).1).1).2), ((((((((List.getD y50.1.1 (Int.toNat a1) zt55).1).2).1).2).1).1, ((((((List.getD y50.1.1 (Int.toNat a1) zt55).1).2).1).2).1).2), (((((List.getD y50.1.1 (Int.toNat a1) zt55).1).2).1).2).2)), (((List.getD y50.1.1 (Int.toNat a1) zt55).1).2).2)), (true, ((((y53.1.1.1.1, y53.1.1.1.2), y53.1.1.2), ((y53.1.2.1.1, y53.1.2.1.2), y53.1.2.2)), a4)))
  some ((v54, (y50.1.2.1, v52)), ((1 : Int), (0 : Int)), (0 : Int), ()))
  else none)
  else (bif decide (0 ≤ a1) && decide (a1 < (List.length y50.1.1 : Int)) then (let v55 := List.set y50.1.1 (Int.toNat a1) ((true, ((((y53.1.1.1.1, y53.1.1.1.2), y53.1.1.2), ((y53.1.2.1.1, y53.1.2.1.2), y53.1.2.2)), a4)), (((List.getD y50.1.1 (Int.toNat a1) zt55).2).1, ((((((((((List.getD y50.1.1 (Int.toNat a1) zt55).2).2).1).1).1).1, ((((((List.getD y50.1.1 (Int.toNat a1) zt55).2).2).1).1).1).2), (((((List.getD y50.1.1 (Int.toNat a1) zt55).2).2).1).1).2), ((((((((List.getD y50.1.1 (Int.toNat a1) zt55).2).2).1).2).1).1, ((((((List.getD y50.1.1 (Int.toNat a1) zt55).2).2).1).2).1).2), (((((List.getD y50.1.1 (Int.toNat a1) zt55).2).2).1).2).2)), (((List.getD y50.1.1 (Int.toNat a1) zt55).2).2).2)))
  some ((v55, (y50.1.2.1, v52)), ((1 : Int), (0 : Int)), (0 : Int), ()))
  else none))
  else none))
  else ((fulcrumref08_Copy.F ((a0.1, (a0.2.1, a0.2.2)), ())).bind fun y56 =>
  let v57 := ([(a1, (a2, (a0.2.1, (v3, ((((v4, v5), v6), ((v7, v8), v9)), v10)))))] : List Dt97)
  bif decide (List.length y56.1.2.2 + List.length v57 < 925904528653) then (let v58 := List.append y56.1.2.2 v57
  (fulcrumref05_Norm.F ((((a3.1.1.1, a3.1.1.2), a3.1.2), ((a3.2.1.1, a3.2.1.2), a3.2.2)), ())).bind fun y59 =>
  bif a2 then (bif decide (0 ≤ a1) && decide (a1 < (List.length y56.1.1 : Int)) then (let v60 := List.set y56.1.1 (Int.toNat a1) ((((List.getD y56.1.1 (Int.toNat a1) zt55).1).1, ((((((((((List.getD y56.1.1 (Int.toNat a1) zt55).1).2).1).1).1).1, ((((((List.getD y56.1.1 (Int.toNat a1) zt55).1).2).1).1).1).2), (((((List.getD y56.1.1 (Int.toNat a1) zt55).1).2).1).1).2), ((((((((List.getD y56.1.1 (Int.toNat a1) zt55).1).2).1).2).1).1, ((((((List.getD y56.1.1 (Int.toNat a1) zt55).1).2).1).2).1).2), (((((List.getD y56.1.1 (Int.toNat a1) zt55).1).2).1).2).2)), (((List.getD y56.1.1 (Int.toNat a1) zt55).1).2).2)), (true, ((((y59.1.1.1.1, y59.1.1.1.2), y59.1.1.2), ((y59.1.2.1.1, y59.1.2.1.2), y59.1.2.2)), a4)))
  some ((v60, (y56.1.2.1, v58)), ((1 : Int), (0 : Int)), (0 : Int), ()))
  else none)
  else (bif decide (0 ≤ a1) && decide (a1 < (List.length y56.1.1 : Int)) then (let v61 := List.set y56.1.1 (Int.toNat a1) ((true, ((((y59.1.1.1.1, y59.1.1.1.2), y59.1.1.2), ((y59.1.2.1.1, y59.1.2.1.2), y59.1.2.2)), a4)), (((List.getD y56.1.1 (Int.toNat a1) zt55).2).1, ((((((((((List.getD y56.1.1 (Int.toNat a1) zt55).2).2).1).1).1).1, ((((((List.getD y56.1.1 (Int.toNat a1) zt55).2).2).1).1).1).2), (((((List.getD y56.1.1 (Int.toNat a1) zt55).2).2).1).1).2), ((((((((List.getD y56.1.1 (Int.toNat a1) zt55).2).2).1).2).1).1, ((((((List.getD y56.1.1 (Int.toNat a1) zt55).2).2).1).2).1).2), (((((List.getD y56.1.1 (Int.toNat a1) zt55).2).2).1).2).2)), (((List.getD y56.1.1 (Int.toNat a1) zt55).2).2).2)))
  some ((v61, (y56.1.2.1, v58)), ((1 : Int), (0 : Int)), (0 : Int), ()))
  else none))
  else none)))
  else (bif v11 then ((fulcrumref08_tighter.F (a2, (((a3.1.1.1, a3.1.1.2), a3.1.2), ((a3.2.1.1, a3.2.1.2), a3.2.2)), (((v12, v13), v14), ((v15, v16), v17)), ())).bind fun y62 =>
  bif y62.1 then (some ((a0.1, (a0.2.1, a0.2.2)), ((2 : Int), v18), (0 : Int), ()))
  else ((fulcrumref08_Copy.F ((a0.1, (a0.2.1, a0.2.2)), ())).bind fun y63 =>
  let v64 := ([(a1, (a2, (a0.2.1, (v3, ((((v4, v5), v6), ((v7, v8), v9)), v10)))))] : List Dt97)
  bif decide (List.length y63.1.2.2 + List.length v64 < 925904528653) then (let v65 := List.append y63.1.2.2 v64
  (fulcrumref05_Norm.F ((((a3.1.1.1, a3.1.1.2), a3.1.2), ((a3.2.1.1, a3.2.1.2), a3.2.2)), ())).bind fun y66 =>
  bif a2 then (bif decide (0 ≤ a1) && decide (a1 < (List.length y63.1.1 : Int)) then (let v67 := List.set y63.1.1 (Int.toNat a1) ((((List.getD y63.1.1 (Int.toNat a1) zt55).1).1, ((((((((((List.getD y63.1.1 (Int.toNat a1) zt55).1).2).1).1).1).1, ((((((List.getD y63.1.1 (Int.toNat a1) zt55).1).2).1).1).1).2), (((((List.getD y63.1.1 (Int.toNat a1) zt55).1).2).1).1).2), ((((((((List.getD y63.1.1 (Int.toNat a1) zt55).1).2).1).2).1).1, ((((((List.getD y63.1.1 (Int.toNat a1) zt55).1).2).1).2).1).2), (((((List.getD y63.1.1 (Int.toNat a1) zt55).1).2).1).2).2)), (((List.getD y63.1.1 (Int.toNat a1) zt55).1).2).2)), (true, ((((y66.1.1.1.1, y66.1.1.1.2), y66.1.1.2), ((y66.1.2.1.1, y66.1.2.1.2), y66.1.2.2)), a4)))
  some ((v67, (y63.1.2.1, v65)), ((1 : Int), (0 : Int)), (0 : Int), ()))
  else none)
  else (bif decide (0 ≤ a1) && decide (a1 < (List.length y63.1.1 : Int)) then (let v68 := List.set y63.1.1 (Int.toNat a1) ((true, ((((y66.1.1.1.1, y66.1.1.1.2), y66.1.1.2), ((y66.1.2.1.1, y66.1.2.1.2), y66.1.2.2)), a4)), (((List.getD y63.1.1 (Int.toNat a1) zt55).2).1, ((((((((((List.getD y63.1.1 (Int.toNat a1) zt55).2).2).1).1).1).1, ((((((List.getD y63.1.1 (Int.toNat a1) zt55).2).2).1).1).1).2), (((((List.getD y63.1.1 (Int.toNat a1) zt55).2).2).1).1).2), ((((((((List.getD y63.1.1 (Int.toNat a1) zt55).2).2).1).2).1).1, ((((((List.getD y63.1.1 (Int.toNat a1) zt55).2).2).1).2).1).2), (((((List.getD y63.1.1 (Int.toNat a1) zt55).2).2).1).2).2)), (((List.getD y63.1.1 (Int.toNat a1) zt55).2).2).2)))
  some ((v68, (y63.1.2.1, v65)), ((1 : Int), (0 : Int)), (0 : Int), ()))
  else none))
  else none))
  else ((fulcrumref08_Copy.F ((a0.1, (a0.2.1, a0.2.2)), ())).bind fun y69 =>
  let v70 := ([(a1, (a2, (a0.2.1, (v3, ((((v4, v5), v6), ((v7, v8), v9)), v10)))))] : List Dt97)
  bif decide (List.length y69.1.2.2 + List.length v70 < 925904528653) then (let v71 := List.append y69.1.2.2 v70
  (fulcrumref05_Norm.F ((((a3.1.1.1, a3.1.1.2), a3.1.2), ((a3.2.1.1, a3.2.1.2), a3.2.2)), ())).bind fun y72 =>
  bif a2 then (bif decide (0 ≤ a1) && decide (a1 < (List.length y69.1.1 : Int)) then (let v73 := List.set y69.1.1 (Int.toNat a1) ((((List.getD y69.1.1 (Int.toNat a1) zt55).1).1, ((((((((((List.getD y69.1.1 (Int.toNat a1) zt55).1).2).1).1).1).1, ((((((List.getD y69.1.1 (Int.toNat a1) zt55).1).2).1).1).1).2), (((((List.getD y69.1.1 (Int.toNat a1) zt55).1).2).1).1).2), ((((((((List.getD y69.1.1 (Int.toNat a1) zt55).1).2).1).2).1).1, ((((((List.getD y69.1.1 (Int.toNat a1) zt55).1).2).1).2).1).2), (((((List.getD y69.1.1 (Int.toNat a1) zt55).1).2).1).2).2)), (((List.getD y69.1.1 (Int.toNat a1) zt55).1).2).2)), (true, ((((y72.1.1.1.1, y72.1.1.1.2), y72.1.1.2), ((y72.1.2.1.1, y72.1.2.1.2), y72.1.2.2)), a4)))
  some ((v73, (y69.1.2.1, v71)), ((1 : Int), (0 : Int)), (0 : Int), ()))
  else none)
  else (bif decide (0 ≤ a1) && decide (a1 < (List.length y69.1.1 : Int)) then (let v74 := List.set y69.1.1 (Int.toNat a1) ((true, ((((y72.1.1.1.1, y72.1.1.1.2), y72.1.1.2), ((y72.1.2.1.1, y72.1.2.1.2), y72.1.2.2)), a4)), (((List.getD y69.1.1 (Int.toNat a1) zt55).2).1, ((((((((((List.getD y69.1.1 (Int.toNat a1) zt55).2).2).1).1).1).1, ((((((List.getD y69.1.1 (Int.toNat a1) zt55).2).2).1).1).1).2), (((((List.getD y69.1.1 (Int.toNat a1) zt55).2).2).1).1).2), ((((((((List.getD y69.1.1 (Int.toNat a1) zt55).2).2).1).2).1).1, ((((((List.getD y69.1.1 (Int.toNat a1) zt55).2).2).1).2).1).2), (((((List.getD y69.1.1 (Int.toNat a1) zt55).2).2).1).2).2)), (((List.getD y69.1.1 (Int.toNat a1) zt55).2).2).2)))
  some ((v74, (y69.1.2.1, v71)), ((1 : Int), (0 : Int)), (0 : Int), ()))
  else none))
  else none))))
  else none)
  else none)
theorem fulcrumref08_Assert.eval (k : Nat) (a0 : Dt29) (a1 : Int) (a2 : Bool) (a3 : Dt47) (a4 : Int) : evalF fulcrumref08_Assert.spec fulcrumref08_Assert.cals T Try.f53 k (a0, a1, a2, a3, a4, ()) = fulcrumref08_Assert.e  a0 a1 a2 a3 a4 := by kernel_rfl
theorem fulcrumref08_Assert.F_eq (a0 : Dt29) (a1 : Int) (a2 : Bool) (a3 : Dt47) (a4 : Int) : fulcrumref08_Assert.F (a0, a1, a2, a3, a4, ()) = limF fulcrumref08_Assert.spec fulcrumref08_Assert.cals T Try.f53 (a0, a1, a2, a3, a4, ()) := by kernel_rfl
theorem fulcrumref08_Assert.of (k : Nat) (a0 : Dt29) (a1 : Int) (a2 : Bool) (a3 : Dt47) (a4 : Int) {y : Dt29 × Dt64 × Int × Unit} (h : fulcrumref08_Assert.e  a0 a1 a2 a3 a4 = some y) : fulcrumref08_Assert.F (a0, a1, a2, a3, a4, ()) = some y := (fulcrumref08_Assert.F_eq a0 a1 a2 a3 a4).trans (limF_of (q := fulcrumref08_Assert.spec) (C := fulcrumref08_Assert.cals) (T := T) (f := Try.f53) (x := (a0, a1, a2, a3, a4, ())) (y := y) k ((fulcrumref08_Assert.eval k a0 a1 a2 a3 a4).trans h))

def fulcrumref08_Push.spec : Spec := ⟨[(true, Kt29)], [(true, Kt29)], .own, fun j => match j with  | _ => []⟩
noncomputable def fulcrumref08_Push.cals : Cals := (Cals.cons 32 fulcrumref08_Copy.sig (Cals.base tabs))
noncomputable def fulcrumref08_Push.sig : Sig := fulcrumref08_Push.spec.sig fulcrumref08_Push.cals T Try.f54
noncomputable def fulcrumref08_Push.F (x : Dt29 × Unit) : Option (Dt29 × Unit) := limF fulcrumref08_Push.spec fulcrumref08_Push.cals T Try.f54 x
theorem fulcrumref08_Push.ck : CalsOk Try.prog fulcrumref08_Push.cals := (CalsOk.cons fulcrumref08_Copy.cal (CalsOk.base tabsOk))
theorem fulcrumref08_Push.cal : CalOk Try.prog tabs 54 fulcrumref08_Push.sig := calOk_lim' tabOk fulcrumref08_Push.ck mix Try.func54 (by kernel_rfl) (by kernel_rfl) (by kernel_rfl) (by kernel_rfl)
noncomputable def fulcrumref08_Push.e  (a0 : Dt29) : Option (Dt29 × Unit) :=
  (fulcrumref08_Copy.F ((a0.1, (a0.2.1, a0.2.2)), ())).bind fun y1 =>
  let v2 := IntKind.i64.wrap (y1.1.2.1 + (1 : Int))
  some ((y1.1.1, (v2, y1.1.2.2)), ())
theorem fulcrumref08_Push.eval (k : Nat) (a0 : Dt29) : evalF fulcrumref08_Push.spec fulcrumref08_Push.cals T Try.f54 k (a0, ()) = fulcrumref08_Push.e  a0 := by kernel_rfl
theorem fulcrumref08_Push.F_eq (a0 : Dt29) : fulcrumref08_Push.F (a0, ()) = limF fulcrumref08_Push.spec fulcrumref08_Push.cals T Try.f54 (a0, ()) := by kernel_rfl
theorem fulcrumref08_Push.of (k : Nat) (a0 : Dt29) {y : Dt29 × Unit} (h : fulcrumref08_Push.e  a0 = some y) : fulcrumref08_Push.F (a0, ()) = some y := (fulcrumref08_Push.F_eq a0).trans (limF_of (q := fulcrumref08_Push.spec) (C := fulcrumref08_Push.cals) (T := T) (f := Try.f54) (x := (a0, ())) (y := y) k ((fulcrumref08_Push.eval k a0).trans h))

def fulcrumref08_undo.spec : XSpec := ⟨none, false, [(true, Kt29)], true, none, [(true, Kt29)], true, fun j => match j with  | _ => []⟩
noncomputable def fulcrumref08_undo.cals : Cals := (Cals.base tabs)
noncomputable def fulcrumref08_undo.sig : XSig := fulcrumref08_undo.spec.sig fulcrumref08_undo.cals T Try.f66
noncomputable def fulcrumref08_undo.F (d : Unit) (x : Dt29 × Unit) : Option (Unit × (Dt29 × Unit) × Unit) := limX fulcrumref08_undo.spec fulcrumref08_undo.cals T Try.f66 d x
theorem fulcrumref08_undo.ck : CalsOk Try.prog fulcrumref08_undo.cals := (CalsOk.base tabsOk)
theorem fulcrumref08_undo.cal : XOk Try.prog tabs 66 fulcrumref08_undo.sig := xok_of tabOk fulcrumref08_undo.ck mix Try.func66 (by kernel_rfl) (by kernel_rfl) (by kernel_rfl) (by kernel_rfl)
noncomputable def fulcrumref08_undo.e  (G : Gh) (d : Unit) (a0 : Dt29) : Option ((Unit × (Dt29 × Unit) × Unit) × Nat × List Value) :=
  let v1 := (List.length a0.2.2 : Int)
  let v2 := IntKind.i64.wrap (v1 - (1 : Int))
  bif decide (0 ≤ v2) && decide (v2 < (List.length a0.2.2 : Int)) then (let v3 := (List.getD a0.2.2 (Int.toNat v2) zt97).1
  let v4 := ((List.getD a0.2.2 (Int.toNat v2) zt97).2).1
  let v5 := (((List.getD a0.2.2 (Int.toNat v2) zt97).2).2).1
  let v6 := ((((List.getD a0.2.2 (Int.toNat v2) zt97).2).2).2).1
  let v7 := ((((((((List.getD a0.2.2 (Int.toNat v2) zt97).2).2).2).2).1).1).1).1
  let v8 := ((((((((List.getD a0.2.2 (Int.toNat v2) zt97).2).2).2).2).1).1).1).2
  let v9 := (((((((List.getD a0.2.2 (Int.toNat v2) zt97).2).2).2).2).1).1).2
  let v10 := ((((((((List.getD a0.2.2 (Int.toNat v2) zt97).2).2).2).2).1).2).1).1
  let v11 := ((((((((List.getD a0.2.2 (Int.toNat v2) zt97).2).2).2).2).1).2).1).2
  let v12 := (((((((List.getD a0.2.2 (Int.toNat v2) zt97).2).2).2).2).1).2).2
  let v13 := (((((List.getD a0.2.2 (Int.toNat v2) zt97).2).2).2).2).2
  let v14 := (List.length a0.2.2 : Int)
  let v15 := IntKind.i64.wrap (v14 - (1 : Int))
  bif decide (0 ≤ v15) && decide (v15 ≤ (List.length a0.2.2 : Int)) then (let v16 := List.take (Int.toNat v15) a0.2.2
  bif v4 then (bif decide (0 ≤ v3) && decide (v3 < (List.length a0.1 : Int)) then (let v17 := List.set a0.1 (Int.toNat v3) ((((List.getD a0.1 (Int.toNat v3) zt55).1).1, ((((((((((List.getD a0.1 (Int.toNat v3) zt55).1).2).1).1).1).1, ((((((List.getD a0.1 (Int.toNat v3) zt55).1).2).1).1).1).2), (((((List.getD a0.1 (Int.toNat v3) zt55).1).2).1).1).2), ((((((((List.getD a0.1 (Int.toNat v3) zt55).1).2).1).2).1).1, ((((((List.getD a0.1 (Int.toNat v3) zt55).1).2).1).2).1).2), (((((List.getD a0.1 (Int.toNat v3) zt55).1).2).1).2).2)), (((List.getD a0.1 (Int.toNat v3) zt55).1).2).2)), (v6, ((((v7, v8), v9), ((v10, v11), v12)), v13)))
  some (((), ((v17, (a0.2.1, v16)), ()), ()), 0, []))
  else none)
  else (bif decide (0 ≤ v3) && decide (v3 < (List.length a0.1 : Int)) then (let v18 := List.set a0.1 (Int.toNat v3) ((v6, ((((v7, v8), v9), ((v10, v11), v12)), v13)), (((List.getD a0.1 (Int.toNat v3) zt55).2).1, ((((((((((List.getD a0.1 (Int.toNat v3) zt55).2).2).1).1).1).1, ((((((List.getD a0.1 (Int.toNat v3) zt55).2).2).1).1).1).2), (((((List.getD a0.1 (Int.toNat v3) zt55).2).2).1).1).2), ((((((((List.getD a0.1 (Int.toNat v3) zt55).2).2).1).2).1).1, ((((((List.getD a0.1 (Int.toNat v3) zt55).2).2).1).2).1).2), (((((List.getD a0.1 (Int.toNat v3) zt55).2).2).1).2).2)), (((List.getD a0.1 (Int.toNat v3) zt55).2).2).2)))
  some (((), ((v18, (a0.2.1, v16)), ()), ()), 0, []))
  else none))
  else none)
  else none
theorem fulcrumref08_undo.eval (k : Nat) (G : Gh) (d : Unit) (a0 : Dt29) : evalX fulcrumref08_undo.spec fulcrumref08_undo.cals T Try.f66 k G d (a0, ()) = fulcrumref08_undo.e  G d a0 := by kernel_rfl
theorem fulcrumref08_undo.of (d : Unit) (a0 : Dt29) (y : (Unit × (Dt29 × Unit) × Unit)) (h : ∀ G : Gh, ∃ k : Nat, fulcrumref08_undo.e  G d a0 = some (y, (0, []))) : fulcrumref08_undo.F d (a0, ()) = some y := limX_of (q := fulcrumref08_undo.spec) (C := fulcrumref08_undo.cals) (T := T) (f := Try.f66) (d := d) (x := (a0, ())) y fun G => (h G).imp fun k hk => (fulcrumref08_undo.eval k G d a0).trans hk

def fulcrumref08_Back.spec : Spec := ⟨[(true, Kt29), (false, (.int .i64))], [(true, Kt29), (false, (.int .i64))], .shared, fun j => match j with | 4 => [(1, .lf (.v true)), (4, .box 29 [.v true, .v true, .v true]), (6, .box 29 [.o 55 Kt55 true, .v true, .o 97 Kt97 true])] | _ => []⟩
noncomputable def fulcrumref08_Back.cals : Cals := (Cals.consX 66 false fulcrumref08_undo.sig (Cals.cons 32 fulcrumref08_Copy.sig (Cals.base tabs)))
noncomputable def fulcrumref08_Back.sig : Sig := fulcrumref08_Back.spec.sig fulcrumref08_Back.cals T Try.f55
noncomputable def fulcrumref08_Back.F (x : Dt29 × Int × Unit) : Option (Dt29 × Int × Unit) := limF fulcrumref08_Back.spec fulcrumref08_Back.cals T Try.f55 x
theorem fulcrumref08_Back.ck : CalsOk Try.prog fulcrumref08_Back.cals := (CalsOk.consX fulcrumref08_undo.cal (CalsOk.cons fulcrumref08_Copy.cal (CalsOk.base tabsOk)))
theorem fulcrumref08_Back.cal : CalOk Try.prog tabs 55 fulcrumref08_Back.sig := calOk_lim' tabOk fulcrumref08_Back.ck mix Try.func55 (by kernel_rfl) (by kernel_rfl) (by kernel_rfl) (by kernel_rfl)
def fulcrumref08_Back.m4 (x1 : Int) (x4_1 : Int) (x6_0 : Dt26) (x6_1 : Int) (x6_2 : Dt27) : S := ⟨[(1, .one (.lf (.val true (.int .i64) x1))), (4, .box 0 0), (6, .box 1 0)], ⟨[some ⟨55, Kt55, true, true, x6_0⟩, some ⟨97, Kt97, true, true, x6_2⟩], [some ⟨29, [.nil, .val true (.int .i64) x4_1, .nil]⟩, some ⟨29, [.own 0, .val true (.int .i64) x6_1, .own 1]⟩]⟩⟩
noncomputable def fulcrumref08_Back.b4 (f4 : Int → Int → Dt26 → Int → Dt27 → Option (Dt29 × Int × Unit)) (x1 : Int) (x4_1 : Int) (x6_0 : Dt26) (x6_1 : Int) (x6_2 : Dt27) : Option (Dt29 × Int × Unit) :=
  let v1 := (List.length x6_2 : Int)
  let v2 := decide (v1 > (0 : Int))
  bif v2 then (let v3 := (List.length x6_2 : Int)
  let v4 := IntKind.i64.wrap (v3 - (1 : Int))
  bif decide (0 ≤ v4) && decide (v4 < (List.length x6_2 : Int)) then (let v5 := (((List.getD x6_2 (Int.toNat v4) zt97).2).2).1
  let v6 := decide (v5 > x1)
  bif v6 then ((fulcrumref08_undo.F () ((x6_0, (x6_1, x6_2)), ())).bind fun y7 =>
  f4 x1 x4_1 y7.2.1.1.1 y7.2.1.1.2.1 y7.2.1.1.2.2)
  else (some ((x6_0, (x1, x6_2)), (0 : Int), ())))
  else none)
  else (some ((x6_0, (x1, x6_2)), (0 : Int), ()))
noncomputable def fulcrumref08_Back.e (f4 : Int → Int → Dt26 → Int → Dt27 → Option (Dt29 × Int × Unit)) (a0 : Dt29) (a1 : Int) : Option (Dt29 × Int × Unit) :=
  let v1 := decide (a1 < (0 : Int))
  bif v1 then (some ((a0.1, (a0.2.1, a0.2.2)), (80 : Int), ()))
  else (let v2 := decide (a1 > a0.2.1)
  bif v2 then (some ((a0.1, (a0.2.1, a0.2.2)), (80 : Int), ()))
  else ((fulcrumref08_Copy.F ((a0.1, (a0.2.1, a0.2.2)), ())).bind fun y3 =>
  f4 a1 (0 : Int) y3.1.1 y3.1.2.1 y3.1.2.2))
noncomputable def fulcrumref08_Back.L4 (k : Nat) (x1 : Int) (x4_1 : Int) (x6_0 : Dt26) (x6_1 : Int) (x6_2 : Dt27) : Option (Dt29 × Int × Unit) := heads (fulcrumref08_Back.spec.env fulcrumref08_Back.cals T Try.f55) (Func.pts Try.f55) k 4 (fulcrumref08_Back.m4 x1 x4_1 x6_0 x6_1 x6_2)
theorem fulcrumref08_Back.L4_succ (k : Nat) (x1 : Int) (x4_1 : Int) (x6_0 : Dt26) (x6_1 : Int) (x6_2 : Dt27) : fulcrumref08_Back.L4 (k + 1) x1 x4_1 x6_0 x6_1 x6_2 = fulcrumref08_Back.b4 (fulcrumref08_Back.L4 k) x1 x4_1 x6_0 x6_1 x6_2 := by kernel_rfl
theorem fulcrumref08_Back.eval (k : Nat) (a0 : Dt29) (a1 : Int) : evalF fulcrumref08_Back.spec fulcrumref08_Back.cals T Try.f55 k (a0, a1, ()) = fulcrumref08_Back.e (fulcrumref08_Back.L4 k) a0 a1 := by kernel_rfl
theorem fulcrumref08_Back.F_eq (a0 : Dt29) (a1 : Int) : fulcrumref08_Back.F (a0, a1, ()) = limF fulcrumref08_Back.spec fulcrumref08_Back.cals T Try.f55 (a0, a1, ()) := by kernel_rfl
theorem fulcrumref08_Back.of (k : Nat) (a0 : Dt29) (a1 : Int) {y : Dt29 × Int × Unit} (h : fulcrumref08_Back.e (fulcrumref08_Back.L4 k) a0 a1 = some y) : fulcrumref08_Back.F (a0, a1, ()) = some y := (fulcrumref08_Back.F_eq a0 a1).trans (limF_of (q := fulcrumref08_Back.spec) (C := fulcrumref08_Back.cals) (T := T) (f := Try.f55) (x := (a0, a1, ())) (y := y) k ((fulcrumref08_Back.eval k a0 a1).trans h))

def fulcrumlaw08_move.spec : XSpec := ⟨some ⟨75, 0, Kt75, 0⟩, false, [(true, Kt29), (true, Kt50)], false, none, [(true, Kt29), (false, .bool)], false, fun j => match j with  | _ => []⟩
noncomputable def fulcrumlaw08_move.cals : Cals := (Cals.withEq 64 2 (Cals.consX 19 false bounds_Store_Lift.sig (Cals.consX 22 false bounds_Store_Press.sig (Cals.consX 21 false bounds_Store_Push.sig (Cals.consX 23 false bounds_Store_Back.sig (Cals.consX 10 false bounds_Store_Grow.sig (Cals.cons 53 fulcrumref08_Assert.sig (Cals.cons 54 fulcrumref08_Push.sig (Cals.cons 55 fulcrumref08_Back.sig (Cals.cons 11 fulcrumref08_Grow.sig (Cals.base tabs)))))))))))
noncomputable def fulcrumlaw08_move.sig : XSig := fulcrumlaw08_move.spec.sig fulcrumlaw08_move.cals T Try.f36
noncomputable def fulcrumlaw08_move.F (d : Dt75) (x : Dt29 × Dt50 × Unit) : Option (Unit × (Dt29 × Bool × Unit) × Dt75) := limX fulcrumlaw08_move.spec fulcrumlaw08_move.cals T Try.f36 d x
theorem fulcrumlaw08_move.ck : CalsOk Try.prog fulcrumlaw08_move.cals := (CalsOk.withEq eqOk64 (CalsOk.consX bounds_Store_Lift.cal (CalsOk.consX bounds_Store_Press.cal (CalsOk.consX bounds_Store_Push.cal (CalsOk.consX bounds_Store_Back.cal (CalsOk.consX bounds_Store_Grow.cal (CalsOk.cons fulcrumref08_Assert.cal (CalsOk.cons fulcrumref08_Push.cal (CalsOk.cons fulcrumref08_Back.cal (CalsOk.cons fulcrumref08_Grow.cal (CalsOk.base tabsOk)))))))))))
theorem fulcrumlaw08_move.cal : XOk Try.prog tabs 36 fulcrumlaw08_move.sig := xok_of tabOk fulcrumlaw08_move.ck mix Try.func36 (by kernel_rfl) (by kernel_rfl) (by kernel_rfl) (by kernel_rfl)
noncomputable def fulcrumlaw08_move.e  (G : Gh) (d : Dt75) (a0 : Dt29) (a1 : Dt50) : Option ((Unit × (Dt29 × Bool × Unit) × Dt75) × Nat × List Value) :=
  let v1 := (a1.1 == (0 : Int))
  bif v1 then (let v2 := (a1.1 == (0 : Int))
  bif v2 then ((bounds_Store_Lift.F ((d.1.1, d.1.2), (d.2.1, d.2.2)) (a1.2.1, (((a1.2.2.1.1.1.1, a1.2.2.1.1.1.2), a1.2.2.1.1.2), ((a1.2.2.1.2.1.1, a1.2.2.1.2.1.2), a1.2.2.1.2.2)), a1.2.2.2.1, ())).bind fun y3 =>
  let v4 := (a1.1 == (1 : Int))
  (fulcrumref08_Assert.F ((a0.1, (a0.2.1, a0.2.2)), a1.2.1, v4, (((a1.2.2.1.1.1.1, a1.2.2.1.1.1.2), a1.2.2.1.1.2), ((a1.2.2.1.2.1.1, a1.2.2.1.2.1.2), a1.2.2.1.2.2)), a1.2.2.2.1, ())).bind fun y5 =>
  let v6 := eqI y3.2.1.1.1 y5.2.1.1 && (eqI y3.2.1.1.2 y5.2.1.2 && true)
  bif v6 then (let v7 := (y3.2.1.2.1 == y5.2.2.1)
  some (((), ((y5.1.1, (y5.1.2.1, y5.1.2.2)), v7, ()), ((y3.2.2.1.1, y3.2.2.1.2), (y3.2.2.2.1, y3.2.2.2.2))), G.b, []))
  else (some (((), ((y5.1.1, (y5.1.2.1, y5.1.2.2)), false, ()), ((y3.2.2.1.1, y3.2.2.1.2), (y3.2.2.2.1, y3.2.2.2.2))), G.b, [])))
  else ((bounds_Store_Press.F ((d.1.1, d.1.2), (d.2.1, d.2.2)) (a1.2.1, (((a1.2.2.1.1.1.1, a1.2.2.1.1.1.2), a1.2.2.1.1.2), ((a1.2.2.1.2.1.1, a1.2.2.1.2.1.2), a1.2.2.1.2.2)), a1.2.2.2.1, ())).bind fun y8 =>
  let v9 := (a1.1 == (1 : Int))
  (fulcrumref08_Assert.F ((a0.1, (a0.2.1, a0.2.2)), a1.2.1, v9, (((a1.2.2.1.1.1.1, a1.2.2.1.1.1.2), a1.2.2.1.1.2), ((a1.2.2.1.2.1.1, a1.2.2.1.2.1.2), a1.2.2.1.2.2)), a1.2.2.2.1, ())).bind fun y10 =>
  let v11 := eqI y8.2.1.1.1 y10.2.1.1 && (eqI y8.2.1.1.2 y10.2.1.2 && true)
  bif v11 then (let v12 := (y8.2.1.2.1 == y10.2.2.1)
  some (((), ((y10.1.1, (y10.1.2.1, y10.1.2.2)), v12, ()), ((y8.2.2.1.1, y8.2.2.1.2), (y8.2.2.2.1, y8.2.2.2.2))), G.b, []))
  else (some (((), ((y10.1.1, (y10.1.2.1, y10.1.2.2)), false, ()), ((y8.2.2.1.1, y8.2.2.1.2), (y8.2.2.2.1, y8.2.2.2.2))), G.b, []))))
  else (let v13 := (a1.1 == (1 : Int))
  bif v13 then (let v14 := (a1.1 == (0 : Int))
  bif v14 then ((bounds_Store_Lift.F ((d.1.1, d.1.2), (d.2.1, d.2.2)) (a1.2.1, (((a1.2.2.1.1.1.1, a1.2.2.1.1.1.2), a1.2.2.1.1.2), ((a1.2.2.1.2.1.1, a1.2.2.1.2.1.2), a1.2.2.1.2.2)), a1.2.2.2.1, ())).bind fun y15 =>
  let v16 := (a1.1 == (1 : Int))
  (fulcrumref08_Assert.F ((a0.1, (a0.2.1, a0.2.2)), a1.2.1, v16, (((a1.2.2.1.1.1.1, a1.2.2.1.1.1.2), a1.2.2.1.1.2), ((a1.2.2.1.2.1.1, a1.2.2.1.2.1.2), a1.2.2.1.2.2)), a1.2.2.2.1, ())).bind fun y17 =>
  let v18 := eqI y15.2.1.1.1 y17.2.1.1 && (eqI y15.2.1.1.2 y17.2.1.2 && true)
  bif v18 then (let v19 := (y15.2.1.2.1 == y17.2.2.1)
  some (((), ((y17.1.1, (y17.1.2.1, y17.1.2.2)), v19, ()), ((y15.2.2.1.1, y15.2.2.1.2), (y15.2.2.2.1, y15.2.2.2.2))), G.b, []))
  else (some (((), ((y17.1.1, (y17.1.2.1, y17.1.2.2)), false, ()), ((y15.2.2.1.1, y15.2.2.1.2), (y15.2.2.2.1, y15.2.2.2.2))), G.b, [])))
  else ((bounds_Store_Press.F ((d.1.1, d.1.2), (d.2.1, d.2.2)) (a1.2.1, (((a1.2.2.1.1.1.1, a1.2.2.1.1.1.2), a1.2.2.1.1.2), ((a1.2.2.1.2.1.1, a1.2.2.1.2.1.2), a1.2.2.1.2.2)), a1.2.2.2.1, ())).bind fun y20 =>
  let v21 := (a1.1 == (1 : Int))
  (fulcrumref08_Assert.F ((a0.1, (a0.2.1, a0.2.2)), a1.2.1, v21, (((a1.2.2.1.1.1.1, a1.2.2.1.1.1.2), a1.2.2.1.1.2), ((a1.2.2.1.2.1.1, a1.2.2.1.2.1.2), a1.2.2.1.2.2)), a1.2.2.2.1, ())).bind fun y22 =>
  let v23 := eqI y20.2.1.1.1 y22.2.1.1 && (eqI y20.2.1.1.2 y22.2.1.2 && true)
  bif v23 then (let v24 := (y20.2.1.2.1 == y22.2.2.1)
  some (((), ((y22.1.1, (y22.1.2.1, y22.1.2.2)), v24, ()), ((y20.2.2.1.1, y20.2.2.1.2), (y20.2.2.2.1, y20.2.2.2.2))), G.b, []))
  else (some (((), ((y22.1.1, (y22.1.2.1, y22.1.2.2)), false, ()), ((y20.2.2.1.1, y20.2.2.1.2), (y20.2.2.2.1, y20.2.2.2.2))), G.b, []))))
  else (let v25 := (a1.1 == (2 : Int))
  bif v25 then ((bounds_Store_Push.F ((d.1.1, d.1.2), (d.2.1, d.2.2)) ()).bind fun y26 =>
  (fulcrumref08_Push.F ((a0.1, (a0.2.1, a0.2.2)), ())).bind fun y27 =>
  some (((), ((y27.1.1, (y27.1.2.1, y27.1.2.2)), true, ()), ((y26.2.2.1.1, y26.2.2.1.2), (y26.2.2.2.1, y26.2.2.2.2))), G.b, []))
  else (let v28 := (a1.1 == (3 : Int))
  bif v28 then ((bounds_Store_Back.F ((d.1.1, d.1.2), (d.2.1, d.2.2)) (a1.2.2.2.1, ())).bind fun y29 =>
  (fulcrumref08_Back.F ((a0.1, (a0.2.1, a0.2.2)), a1.2.2.2.1, ())).bind fun y30 =>
  let v31 := (y29.2.1.1 == y30.2.1)
  some (((), ((y30.1.1, (y30.1.2.1, y30.1.2.2)), v31, ()), ((y29.2.2.1.1, y29.2.2.1.2), (y29.2.2.2.1, y29.2.2.2.2))), G.b, []))
  else (let v32 := (a1.1 == (4 : Int))
  bif v32 then ((bounds_Store_Grow.F ((d.1.1, d.1.2), (d.2.1, d.2.2)) ()).bind fun y33 =>
  (fulcrumref08_Grow.F ((a0.1, (a0.2.1, a0.2.2)), ())).bind fun y34 =>
  let v35 := (y33.2.1.1 == y34.2.1)
  bif v35 then (let v36 := (y33.2.1.2.1 == y34.2.2.1)
  some (((), ((y34.1.1, (y34.1.2.1, y34.1.2.2)), v36, ()), ((y33.2.2.1.1, y33.2.2.1.2), (y33.2.2.2.1, y33.2.2.2.2))), G.b, []))
  else (some (((), ((y34.1.1, (y34.1.2.1, y34.1.2.2)), false, ()), ((y33.2.2.1.1, y33.2.2.1.2), (y33.2.2.2.1, y33.2.2.2.2))), G.b, [])))
  else (some (((), ((a0.1, (a0.2.1, a0.2.2)), true, ()), ((d.1.1, d.1.2), (d.2.1, d.2.2))), G.b, []))))))
theorem fulcrumlaw08_move.eval (k : Nat) (G : Gh) (d : Dt75) (a0 : Dt29) (a1 : Dt50) : evalX fulcrumlaw08_move.spec fulcrumlaw08_move.cals T Try.f36 k G d (a0, a1, ()) = fulcrumlaw08_move.e  G d a0 a1 := by kernel_rfl
theorem fulcrumlaw08_move.of (d : Dt75) (a0 : Dt29) (a1 : Dt50) (y : (Unit × (Dt29 × Bool × Unit) × Dt75)) (h : ∀ G : Gh, ∃ k : Nat, fulcrumlaw08_move.e  G d a0 a1 = some (y, (G.b, []))) : fulcrumlaw08_move.F d (a0, a1, ()) = some y := limX_of (q := fulcrumlaw08_move.spec) (C := fulcrumlaw08_move.cals) (T := T) (f := Try.f36) (d := d) (x := (a0, a1, ())) y fun G => (h G).imp fun k hk => (fulcrumlaw08_move.eval k G d a0 a1).trans hk

def fulcrumlaw08_played.spec : XSpec := ⟨none, false, [(true, Kt60)], false, some ⟨75, Kt75⟩, [(true, Kt29)], false, fun j => match j with | 6 => [(1, .box 60 [.v true, .z 50 Kt50 true]), (3, .box 29 [.v true, .v true, .v true]), (4, .box 75 [.v true, .o 97 Kt97 true, .v true, .o 55 Kt55 true]), (6, .box 29 [.z 55 Kt55 true, .v true, .z 97 Kt97 true]), (8, .lf (.v true))] | _ => []⟩
noncomputable def fulcrumlaw08_played.cals : Cals := (Cals.consX 8 false bounds_New.sig (Cals.consX 36 false fulcrumlaw08_move.sig (Cals.cons 9 fulcrumref08_New.sig (Cals.base tabs))))
noncomputable def fulcrumlaw08_played.sig : XSig := fulcrumlaw08_played.spec.sig fulcrumlaw08_played.cals T Try.f18
noncomputable def fulcrumlaw08_played.F (d : Unit) (x : Dt60 × Unit) : Option ((Option Dt75) × (Dt29 × Unit) × Unit) := limX fulcrumlaw08_played.spec fulcrumlaw08_played.cals T Try.f18 d x
theorem fulcrumlaw08_played.ck : CalsOk Try.prog fulcrumlaw08_played.cals := (CalsOk.consX bounds_New.cal (CalsOk.consX fulcrumlaw08_move.cal (CalsOk.cons fulcrumref08_New.cal (CalsOk.base tabsOk))))
theorem fulcrumlaw08_played.cal : XOk Try.prog tabs 18 fulcrumlaw08_played.sig := xok_of tabOk fulcrumlaw08_played.ck mix Try.func18 (by kernel_rfl) (by kernel_rfl) (by kernel_rfl) (by kernel_rfl)
def fulcrumlaw08_played.m6 (x1_0 : Int) (x1_1 : Dt38) (x3_1 : Int) (x4_0 : Int) (x4_1 : Dt27) (x4_2 : Bool) (x4_3 : Dt26) (x6_0 : Dt26) (x6_1 : Int) (x6_2 : Dt27) (x8 : Int) : S := ⟨[(1, .box 0 0), (3, .box 1 0), (4, .box 2 0), (6, .box 3 0), (8, .one (.lf (.val true (.int .i64) x8)))], ⟨[some ⟨97, Kt97, true, true, x4_1⟩, some ⟨55, Kt55, true, true, x4_3⟩], [some ⟨60, [.val true (.int .i64) x1_0, .val true Kt38 x1_1]⟩, some ⟨29, [.nil, .val true (.int .i64) x3_1, .nil]⟩, some ⟨75, [.val true (.int .i64) x4_0, .own 0, .val true .bool x4_2, .own 1]⟩, some ⟨29, [.val true Kt26 x6_0, .val true (.int .i64) x6_1, .val true Kt27 x6_2]⟩]⟩⟩
noncomputable def fulcrumlaw08_played.b6 (f6 : Int → Dt38 → Int → Int → Dt27 → Bool → Dt26 → Dt26 → Int → Dt27 → Int → Option (((Option Dt75) × (Dt29 × Unit) × Unit) × Nat × List Value)) (x1_0 : Int) (x1_1 : Dt38) (x3_1 : Int) (x4_0 : Int) (x4_1 : Dt27) (x4_2 : Bool) (x4_3 : Dt26) (x6_0 : Dt26) (x6_1 : Int) (x6_2 : Dt27) (x8 : Int) : Option (((Option Dt75) × (Dt29 × Unit) × Unit) × Nat × List Value) :=
  let v1 := (List.length x1_1 : Int)
  let v2 := decide (x8 < v1)
  bif v2 then (bif decide (0 ≤ x8) && decide (x8 < (List.length x1_1 : Int)) then (let v3 := (List.getD x1_1 (Int.toNat x8) zt50).1
  let v4 := ((List.getD x1_1 (Int.toNat x8) zt50).2).1
  let v5 := ((((((List.getD x1_1 (Int.toNat x8) zt50).2).2).1).1).1).1
  let v6 := ((((((List.getD x1_1 (Int.toNat x8) zt50).2).2).1).1).1).2
  let v7 := (((((List.getD x1_1 (Int.toNat x8) zt50).2).2).1).1).2
  let v8 := ((((((List.getD x1_1 (Int.toNat x8) zt50).2).2).1).2).1).1
  let v9 := ((((((List.getD x1_1 (Int.toNat x8) zt50).2).2).1).2).1).2
  let v10 := (((((List.getD x1_1 (Int.toNat x8) zt50).2).2).1).2).2
  let v11 := ((((List.getD x1_1 (Int.toNat x8) zt50).2).2).2).1
  let v12 := ((((List.getD x1_1 (Int.toNat x8) zt50).2).2).2).2
  (fulcrumlaw08_move.F ((x4_0, x4_1), (x4_2, x4_3)) ((x6_0, (x6_1, x6_2)), (v3, (v4, ((((v5, v6), v7), ((v8, v9), v10)), (v11, v12)))), ())).bind fun y13 =>
  let v14 := IntKind.i64.wrap (x8 + (1 : Int))
  f6 x1_0 x1_1 x3_1 y13.2.2.1.1 y13.2.2.1.2 y13.2.2.2.1 y13.2.2.2.2 y13.2.1.1.1 y13.2.1.1.2.1 y13.2.1.1.2.2 v14)
  else none)
  else (some ((some ((x4_0, x4_1), (x4_2, x4_3)), ((x6_0, (x6_1, x6_2)), ()), ()), 0, []))
noncomputable def fulcrumlaw08_played.e (f6 : Int → Dt38 → Int → Int → Dt27 → Bool → Dt26 → Dt26 → Int → Dt27 → Int → Option (((Option Dt75) × (Dt29 × Unit) × Unit) × Nat × List Value)) (G : Gh) (d : Unit) (a0 : Dt60) : Option (((Option Dt75) × (Dt29 × Unit) × Unit) × Nat × List Value) :=
  (bounds_New.F () (a0.1, ())).bind fun y1 =>
  match y1.1 with
  | none => ((fulcrumref08_New.F (a0.1, ())).bind fun y3 =>
  some ((none, ((y3.1.1, (y3.1.2.1, y3.1.2.2)), ()), ()), 0, []))
  | some z2 => ((fulcrumref08_New.F (a0.1, ())).bind fun y4 =>
  let v5 := (y4.2.1 != (0 : Int))
  bif v5 then (some ((none, ((y4.1.1, (y4.1.2.1, y4.1.2.2)), ()), ()), 0, []))
  else (f6 a0.1 a0.2 (0 : Int) z2.1.1 z2.1.2 z2.2.1 z2.2.2 y4.1.1 y4.1.2.1 y4.1.2.2 (0 : Int)))
noncomputable def fulcrumlaw08_played.L6 (k : Nat) (x1_0 : Int) (x1_1 : Dt38) (x3_1 : Int) (x4_0 : Int) (x4_1 : Dt27) (x4_2 : Bool) (x4_3 : Dt26) (x6_0 : Dt26) (x6_1 : Int) (x6_2 : Dt27) (x8 : Int) : Option (((Option Dt75) × (Dt29 × Unit) × Unit) × Nat × List Value) := heads (fulcrumlaw08_played.spec.env fulcrumlaw08_played.cals T Try.f18) (Func.pts Try.f18) k 6 (fulcrumlaw08_played.m6 x1_0 x1_1 x3_1 x4_0 x4_1 x4_2 x4_3 x6_0 x6_1 x6_2 x8)
theorem fulcrumlaw08_played.L6_succ (k : Nat) (x1_0 : Int) (x1_1 : Dt38) (x3_1 : Int) (x4_0 : Int) (x4_1 : Dt27) (x4_2 : Bool) (x4_3 : Dt26) (x6_0 : Dt26) (x6_1 : Int) (x6_2 : Dt27) (x8 : Int) : fulcrumlaw08_played.L6 (k + 1) x1_0 x1_1 x3_1 x4_0 x4_1 x4_2 x4_3 x6_0 x6_1 x6_2 x8 = fulcrumlaw08_played.b6 (fulcrumlaw08_played.L6 k) x1_0 x1_1 x3_1 x4_0 x4_1 x4_2 x4_3 x6_0 x6_1 x6_2 x8 := by kernel_rfl
theorem fulcrumlaw08_played.eval (k : Nat) (G : Gh) (d : Unit) (a0 : Dt60) : evalX fulcrumlaw08_played.spec fulcrumlaw08_played.cals T Try.f18 k G d (a0, ()) = fulcrumlaw08_played.e (fulcrumlaw08_played.L6 k) G d a0 := by kernel_rfl
theorem fulcrumlaw08_played.of (d : Unit) (a0 : Dt60) (y : ((Option Dt75) × (Dt29 × Unit) × Unit)) (h : ∀ G : Gh, ∃ k : Nat, fulcrumlaw08_played.e (fulcrumlaw08_played.L6 k) G d a0 = some (y, (0, []))) : fulcrumlaw08_played.F d (a0, ()) = some y := limX_of (q := fulcrumlaw08_played.spec) (C := fulcrumlaw08_played.cals) (T := T) (f := Try.f18) (d := d) (x := (a0, ())) y fun G => (h G).imp fun k hk => (fulcrumlaw08_played.eval k G d a0).trans hk

def fulcrummem_SameNat.spec : Spec := ⟨[(false, Kt41), (false, Kt41)], [(false, .bool)], .own, fun j => match j with | 4 => [(0, .lf (.z 115 (.int .u32) false)), (1, .lf (.z 115 (.int .u32) false)), (5, .lf (.v true))] | _ => []⟩
noncomputable def fulcrummem_SameNat.cals : Cals := (Cals.base tabs)
noncomputable def fulcrummem_SameNat.sig : Sig := fulcrummem_SameNat.spec.sig fulcrummem_SameNat.cals T Try.f50
noncomputable def fulcrummem_SameNat.F (x : Dt41 × Dt41 × Unit) : Option (Bool × Unit) := limF fulcrummem_SameNat.spec fulcrummem_SameNat.cals T Try.f50 x
theorem fulcrummem_SameNat.ck : CalsOk Try.prog fulcrummem_SameNat.cals := (CalsOk.base tabsOk)
theorem fulcrummem_SameNat.cal : CalOk Try.prog tabs 50 fulcrummem_SameNat.sig := calOk_lim' tabOk fulcrummem_SameNat.ck mix Try.func50 (by kernel_rfl) (by kernel_rfl) (by kernel_rfl) (by kernel_rfl)
def fulcrummem_SameNat.m4 (x0 : Dt41) (x1 : Dt41) (x5 : Int) : S := ⟨[(0, .one (.lf (.val false Kt41 x0))), (1, .one (.lf (.val false Kt41 x1))), (5, .one (.lf (.val true (.int .i64) x5)))], ⟨[], []⟩⟩
noncomputable def fulcrummem_SameNat.b4 (f4 : Dt41 → Dt41 → Int → Option (Bool × Unit)) (x0 : Dt41) (x1 : Dt41) (x5 : Int) : Option (Bool × Unit) :=
  let v1 := (List.length x0 : Int)
  let v2 := decide (x5 < v1)
  bif v2 then (bif decide (0 ≤ x5) && decide (x5 < (List.length x0 : Int)) then (let v3 := List.getD x0 (Int.toNat x5) (0 : Int)
  bif decide (0 ≤ x5) && decide (x5 < (List.length x1 : Int)) then (let v4 := List.getD x1 (Int.toNat x5) (0 : Int)
  let v5 := (v3 != v4)
  bif v5 then (some (false, ()))
  else (let v6 := IntKind.i64.wrap (x5 + (1 : Int))
  f4 x0 x1 v6))
  else none)
  else none)
  else (some (true, ()))
noncomputable def fulcrummem_SameNat.e (f4 : Dt41 → Dt41 → Int → Option (Bool × Unit)) (a0 : Dt41) (a1 : Dt41) : Option (Bool × Unit) :=
  let v1 := (List.length a0 : Int)
  let v2 := (List.length a1 : Int)
  let v3 := (v1 != v2)
  bif v3 then (some (false, ()))
  else (f4 a0 a1 (0 : Int))
noncomputable def fulcrummem_SameNat.L4 (k : Nat) (x0 : Dt41) (x1 : Dt41) (x5 : Int) : Option (Bool × Unit) := heads (fulcrummem_SameNat.spec.env fulcrummem_SameNat.cals T Try.f50) (Func.pts Try.f50) k 4 (fulcrummem_SameNat.m4 x0 x1 x5)
theorem fulcrummem_SameNat.L4_succ (k : Nat) (x0 : Dt41) (x1 : Dt41) (x5 : Int) : fulcrummem_SameNat.L4 (k + 1) x0 x1 x5 = fulcrummem_SameNat.b4 (fulcrummem_SameNat.L4 k) x0 x1 x5 := by kernel_rfl
theorem fulcrummem_SameNat.eval (k : Nat) (a0 : Dt41) (a1 : Dt41) : evalF fulcrummem_SameNat.spec fulcrummem_SameNat.cals T Try.f50 k (a0, a1, ()) = fulcrummem_SameNat.e (fulcrummem_SameNat.L4 k) a0 a1 := by kernel_rfl
theorem fulcrummem_SameNat.F_eq (a0 : Dt41) (a1 : Dt41) : fulcrummem_SameNat.F (a0, a1, ()) = limF fulcrummem_SameNat.spec fulcrummem_SameNat.cals T Try.f50 (a0, a1, ()) := by kernel_rfl
theorem fulcrummem_SameNat.of (k : Nat) (a0 : Dt41) (a1 : Dt41) {y : Bool × Unit} (h : fulcrummem_SameNat.e (fulcrummem_SameNat.L4 k) a0 a1 = some y) : fulcrummem_SameNat.F (a0, a1, ()) = some y := (fulcrummem_SameNat.F_eq a0 a1).trans (limF_of (q := fulcrummem_SameNat.spec) (C := fulcrummem_SameNat.cals) (T := T) (f := Try.f50) (x := (a0, a1, ())) (y := y) k ((fulcrummem_SameNat.eval k a0 a1).trans h))

def fulcrummem_SameInt.spec : Spec := ⟨[(true, Kt43), (true, Kt43)], [(false, .bool)], .own, fun j => match j with  | _ => []⟩
noncomputable def fulcrummem_SameInt.cals : Cals := (Cals.cons 50 fulcrummem_SameNat.sig (Cals.base tabs))
noncomputable def fulcrummem_SameInt.sig : Sig := fulcrummem_SameInt.spec.sig fulcrummem_SameInt.cals T Try.f49
noncomputable def fulcrummem_SameInt.F (x : Dt43 × Dt43 × Unit) : Option (Bool × Unit) := limF fulcrummem_SameInt.spec fulcrummem_SameInt.cals T Try.f49 x
theorem fulcrummem_SameInt.ck : CalsOk Try.prog fulcrummem_SameInt.cals := (CalsOk.cons fulcrummem_SameNat.cal (CalsOk.base tabsOk))
theorem fulcrummem_SameInt.cal : CalOk Try.prog tabs 49 fulcrummem_SameInt.sig := calOk_lim' tabOk fulcrummem_SameInt.ck mix Try.func49 (by kernel_rfl) (by kernel_rfl) (by kernel_rfl) (by kernel_rfl)
noncomputable def fulcrummem_SameInt.e  (a0 : Dt43) (a1 : Dt43) : Option (Bool × Unit) :=
  let v1 := (a0.1 == a1.1)
  bif v1 then ((fulcrummem_SameNat.F (a0.2, a1.2, ())).bind fun y2 =>
  some (y2.1, ()))
  else (some (false, ()))
theorem fulcrummem_SameInt.eval (k : Nat) (a0 : Dt43) (a1 : Dt43) : evalF fulcrummem_SameInt.spec fulcrummem_SameInt.cals T Try.f49 k (a0, a1, ()) = fulcrummem_SameInt.e  a0 a1 := by kernel_rfl
theorem fulcrummem_SameInt.F_eq (a0 : Dt43) (a1 : Dt43) : fulcrummem_SameInt.F (a0, a1, ()) = limF fulcrummem_SameInt.spec fulcrummem_SameInt.cals T Try.f49 (a0, a1, ()) := by kernel_rfl
theorem fulcrummem_SameInt.of (k : Nat) (a0 : Dt43) (a1 : Dt43) {y : Bool × Unit} (h : fulcrummem_SameInt.e  a0 a1 = some y) : fulcrummem_SameInt.F (a0, a1, ()) = some y := (fulcrummem_SameInt.F_eq a0 a1).trans (limF_of (q := fulcrummem_SameInt.spec) (C := fulcrummem_SameInt.cals) (T := T) (f := Try.f49) (x := (a0, a1, ())) (y := y) k ((fulcrummem_SameInt.eval k a0 a1).trans h))

def fulcrummem_SameRat.spec : Spec := ⟨[(true, Kt45), (true, Kt45)], [(false, .bool)], .own, fun j => match j with  | _ => []⟩
noncomputable def fulcrummem_SameRat.cals : Cals := (Cals.cons 49 fulcrummem_SameInt.sig (Cals.cons 50 fulcrummem_SameNat.sig (Cals.base tabs)))
noncomputable def fulcrummem_SameRat.sig : Sig := fulcrummem_SameRat.spec.sig fulcrummem_SameRat.cals T Try.f33
noncomputable def fulcrummem_SameRat.F (x : Dt45 × Dt45 × Unit) : Option (Bool × Unit) := limF fulcrummem_SameRat.spec fulcrummem_SameRat.cals T Try.f33 x
theorem fulcrummem_SameRat.ck : CalsOk Try.prog fulcrummem_SameRat.cals := (CalsOk.cons fulcrummem_SameInt.cal (CalsOk.cons fulcrummem_SameNat.cal (CalsOk.base tabsOk)))
theorem fulcrummem_SameRat.cal : CalOk Try.prog tabs 33 fulcrummem_SameRat.sig := calOk_lim' tabOk fulcrummem_SameRat.ck mix Try.func33 (by kernel_rfl) (by kernel_rfl) (by kernel_rfl) (by kernel_rfl)
noncomputable def fulcrummem_SameRat.e  (a0 : Dt45) (a1 : Dt45) : Option (Bool × Unit) :=
  (fulcrummem_SameInt.F ((a0.1.1, a0.1.2), (a1.1.1, a1.1.2), ())).bind fun y1 =>
  bif y1.1 then ((fulcrummem_SameNat.F (a0.2, a1.2, ())).bind fun y2 =>
  some (y2.1, ()))
  else (some (false, ()))
theorem fulcrummem_SameRat.eval (k : Nat) (a0 : Dt45) (a1 : Dt45) : evalF fulcrummem_SameRat.spec fulcrummem_SameRat.cals T Try.f33 k (a0, a1, ()) = fulcrummem_SameRat.e  a0 a1 := by kernel_rfl
theorem fulcrummem_SameRat.F_eq (a0 : Dt45) (a1 : Dt45) : fulcrummem_SameRat.F (a0, a1, ()) = limF fulcrummem_SameRat.spec fulcrummem_SameRat.cals T Try.f33 (a0, a1, ()) := by kernel_rfl
theorem fulcrummem_SameRat.of (k : Nat) (a0 : Dt45) (a1 : Dt45) {y : Bool × Unit} (h : fulcrummem_SameRat.e  a0 a1 = some y) : fulcrummem_SameRat.F (a0, a1, ()) = some y := (fulcrummem_SameRat.F_eq a0 a1).trans (limF_of (q := fulcrummem_SameRat.spec) (C := fulcrummem_SameRat.cals) (T := T) (f := Try.f33) (x := (a0, a1, ())) (y := y) k ((fulcrummem_SameRat.eval k a0 a1).trans h))

def fulcrummem_SameDelta.spec : Spec := ⟨[(true, Kt47), (true, Kt47)], [(false, .bool)], .own, fun j => match j with  | _ => []⟩
noncomputable def fulcrummem_SameDelta.cals : Cals := (Cals.cons 33 fulcrummem_SameRat.sig (Cals.base tabs))
noncomputable def fulcrummem_SameDelta.sig : Sig := fulcrummem_SameDelta.spec.sig fulcrummem_SameDelta.cals T Try.f16
noncomputable def fulcrummem_SameDelta.F (x : Dt47 × Dt47 × Unit) : Option (Bool × Unit) := limF fulcrummem_SameDelta.spec fulcrummem_SameDelta.cals T Try.f16 x
theorem fulcrummem_SameDelta.ck : CalsOk Try.prog fulcrummem_SameDelta.cals := (CalsOk.cons fulcrummem_SameRat.cal (CalsOk.base tabsOk))
theorem fulcrummem_SameDelta.cal : CalOk Try.prog tabs 16 fulcrummem_SameDelta.sig := calOk_lim' tabOk fulcrummem_SameDelta.ck mix Try.func16 (by kernel_rfl) (by kernel_rfl) (by kernel_rfl) (by kernel_rfl)
noncomputable def fulcrummem_SameDelta.e  (a0 : Dt47) (a1 : Dt47) : Option (Bool × Unit) :=
  (fulcrummem_SameRat.F (((a0.1.1.1, a0.1.1.2), a0.1.2), ((a1.1.1.1, a1.1.1.2), a1.1.2), ())).bind fun y1 =>
  bif y1.1 then ((fulcrummem_SameRat.F (((a0.2.1.1, a0.2.1.2), a0.2.2), ((a1.2.1.1, a1.2.1.2), a1.2.2), ())).bind fun y2 =>
  some (y2.1, ()))
  else (some (false, ()))
theorem fulcrummem_SameDelta.eval (k : Nat) (a0 : Dt47) (a1 : Dt47) : evalF fulcrummem_SameDelta.spec fulcrummem_SameDelta.cals T Try.f16 k (a0, a1, ()) = fulcrummem_SameDelta.e  a0 a1 := by kernel_rfl
theorem fulcrummem_SameDelta.F_eq (a0 : Dt47) (a1 : Dt47) : fulcrummem_SameDelta.F (a0, a1, ()) = limF fulcrummem_SameDelta.spec fulcrummem_SameDelta.cals T Try.f16 (a0, a1, ()) := by kernel_rfl
theorem fulcrummem_SameDelta.of (k : Nat) (a0 : Dt47) (a1 : Dt47) {y : Bool × Unit} (h : fulcrummem_SameDelta.e  a0 a1 = some y) : fulcrummem_SameDelta.F (a0, a1, ()) = some y := (fulcrummem_SameDelta.F_eq a0 a1).trans (limF_of (q := fulcrummem_SameDelta.spec) (C := fulcrummem_SameDelta.cals) (T := T) (f := Try.f16) (x := (a0, a1, ())) (y := y) k ((fulcrummem_SameDelta.eval k a0 a1).trans h))

def fulcrumlaw08_sameBound.spec : Spec := ⟨[(true, Kt53), (true, Kt53)], [(false, .bool)], .own, fun j => match j with  | _ => []⟩
noncomputable def fulcrumlaw08_sameBound.cals : Cals := (Cals.cons 16 fulcrummem_SameDelta.sig (Cals.base tabs))
noncomputable def fulcrumlaw08_sameBound.sig : Sig := fulcrumlaw08_sameBound.spec.sig fulcrumlaw08_sameBound.cals T Try.f20
noncomputable def fulcrumlaw08_sameBound.F (x : Dt53 × Dt53 × Unit) : Option (Bool × Unit) := limF fulcrumlaw08_sameBound.spec fulcrumlaw08_sameBound.cals T Try.f20 x
theorem fulcrumlaw08_sameBound.ck : CalsOk Try.prog fulcrumlaw08_sameBound.cals := (CalsOk.cons fulcrummem_SameDelta.cal (CalsOk.base tabsOk))
theorem fulcrumlaw08_sameBound.cal : CalOk Try.prog tabs 20 fulcrumlaw08_sameBound.sig := calOk_lim' tabOk fulcrumlaw08_sameBound.ck mix Try.func20 (by kernel_rfl) (by kernel_rfl) (by kernel_rfl) (by kernel_rfl)
noncomputable def fulcrumlaw08_sameBound.e  (a0 : Dt53) (a1 : Dt53) : Option (Bool × Unit) :=
  let v1 := (a0.1 == a1.1)
  bif v1 then (let v2 := (a0.2.2 == a1.2.2)
  bif v2 then ((fulcrummem_SameDelta.F ((((a0.2.1.1.1.1, a0.2.1.1.1.2), a0.2.1.1.2), ((a0.2.1.2.1.1, a0.2.1.2.1.2), a0.2.1.2.2)), (((a1.2.1.1.1.1, a1.2.1.1.1.2), a1.2.1.1.2), ((a1.2.1.2.1.1, a1.2.1.2.1.2), a1.2.1.2.2)), ())).bind fun y3 =>
  some (y3.1, ()))
  else (some (false, ())))
  else (some (false, ()))
theorem fulcrumlaw08_sameBound.eval (k : Nat) (a0 : Dt53) (a1 : Dt53) : evalF fulcrumlaw08_sameBound.spec fulcrumlaw08_sameBound.cals T Try.f20 k (a0, a1, ()) = fulcrumlaw08_sameBound.e  a0 a1 := by kernel_rfl
theorem fulcrumlaw08_sameBound.F_eq (a0 : Dt53) (a1 : Dt53) : fulcrumlaw08_sameBound.F (a0, a1, ()) = limF fulcrumlaw08_sameBound.spec fulcrumlaw08_sameBound.cals T Try.f20 (a0, a1, ()) := by kernel_rfl
theorem fulcrumlaw08_sameBound.of (k : Nat) (a0 : Dt53) (a1 : Dt53) {y : Bool × Unit} (h : fulcrumlaw08_sameBound.e  a0 a1 = some y) : fulcrumlaw08_sameBound.F (a0, a1, ()) = some y := (fulcrumlaw08_sameBound.F_eq a0 a1).trans (limF_of (q := fulcrumlaw08_sameBound.spec) (C := fulcrumlaw08_sameBound.cals) (T := T) (f := Try.f20) (x := (a0, a1, ())) (y := y) k ((fulcrumlaw08_sameBound.eval k a0 a1).trans h))

def fulcrumlaw08_BoundsTightens.spec : Spec := ⟨[(true, Kt60), (true, Kt50)], [(false, .bool)], .shared, fun j => match j with | 13 => [(3, .box 50 [.v true, .v true, .v true, .z 115 (.int .u32) true, .z 115 (.int .u32) true, .v true, .z 115 (.int .u32) true, .z 115 (.int .u32) true, .v true, .z 47 Kt47 true]), (7, .lf (.v true)), (8, .lf (.z 55 Kt55 true)), (9, .box 64 [.v true, .v true]), (10, .lf (.v true)), (11, .lf (.z 55 Kt55 true)), (12, .lf (.v true))] | _ => []⟩
noncomputable def fulcrumlaw08_BoundsTightens.cals : Cals := (Cals.consX 18 false fulcrumlaw08_played.sig (Cals.consX 12 false bounds_Store_Vars.sig (Cals.consX 15 false fulcrumlaw08_limits.sig (Cals.consX 19 false bounds_Store_Lift.sig (Cals.cons 17 fulcrumref05_Cmp.sig (Cals.cons 20 fulcrumlaw08_sameBound.sig (Cals.base tabs)))))))
noncomputable def fulcrumlaw08_BoundsTightens.sig : Sig := fulcrumlaw08_BoundsTightens.spec.sig fulcrumlaw08_BoundsTightens.cals T Try.f5
noncomputable def fulcrumlaw08_BoundsTightens.F (x : Dt60 × Dt50 × Unit) : Option (Bool × Unit) := limF fulcrumlaw08_BoundsTightens.spec fulcrumlaw08_BoundsTightens.cals T Try.f5 x
theorem fulcrumlaw08_BoundsTightens.ck : CalsOk Try.prog fulcrumlaw08_BoundsTightens.cals := (CalsOk.consX fulcrumlaw08_played.cal (CalsOk.consX bounds_Store_Vars.cal (CalsOk.consX fulcrumlaw08_limits.cal (CalsOk.consX bounds_Store_Lift.cal (CalsOk.cons fulcrumref05_Cmp.cal (CalsOk.cons fulcrumlaw08_sameBound.cal (CalsOk.base tabsOk)))))))
theorem fulcrumlaw08_BoundsTightens.cal : CalOk Try.prog tabs 5 fulcrumlaw08_BoundsTightens.sig := calOk_lim' tabOk fulcrumlaw08_BoundsTightens.ck mix Try.func5 (by kernel_rfl) (by kernel_rfl) (by kernel_rfl) (by kernel_rfl)
def fulcrumlaw08_BoundsTightens.m13 (x3_0 : Int) (x3_1 : Int) (x3_2 : Bool) (x3_3 : Dt41) (x3_4 : Dt41) (x3_5 : Bool) (x3_6 : Dt41) (x3_7 : Dt41) (x3_8 : Int) (x3_9 : Dt48) (x7 : Int) (x8 : Dt26) (x9_0 : Int) (x9_1 : Int) (x10 : Int) (x11 : Dt26) (x12 : Int) : S := ⟨[(3, .box 0 0), (7, .one (.lf (.val true (.int .i64) x7))), (8, .one (.lf (.val true Kt26 x8))), (9, .box 1 0), (10, .one (.lf (.val true (.int .i64) x10))), (11, .one (.lf (.val true Kt26 x11))), (12, .one (.lf (.val true (.int .i64) x12)))], ⟨[], [some ⟨50, [.val true (.int .i64) x3_0, .val true (.int .i64) x3_1, .val true .bool x3_2, .val true Kt41 x3_3, .val true Kt41 x3_4, .val true .bool x3_5, .val true Kt41 x3_6, .val true Kt41 x3_7, .val true (.int .i64) x3_8, .val true Kt48 x3_9]⟩, some ⟨64, [.val true (.int .i64) x9_0, .val true (.int .i64) x9_1]⟩]⟩⟩
noncomputable def fulcrumlaw08_BoundsTightens.b13 (f13 : Int → Int → Bool → Dt41 → Dt41 → Bool → Dt41 → Dt41 → Int → Dt48 → Int → Dt26 → Int → Int → Int → Dt26 → Int → Option (Bool × Unit)) (x3_0 : Int) (x3_1 : Int) (x3_2 : Bool) (x3_3 : Dt41) (x3_4 : Dt41) (x3_5 : Bool) (x3_6 : Dt41) (x3_7 : Dt41) (x3_8 : Int) (x3_9 : Dt48) (x7 : Int) (x8 : Dt26) (x9_0 : Int) (x9_1 : Int) (x10 : Int) (x11 : Dt26) (x12 : Int) : Option (Bool × Unit) :=
  let v1 := decide (x12 < x7)
  bif v1 then (bif decide (0 ≤ x12) && decide (x12 < (List.length x11 : Int)) then (let v2 := ((List.getD x11 (Int.toNat x12) zt55).1).1
  let v3 := ((((((List.getD x11 (Int.toNat x12) zt55).1).2).1).1).1).1
  let v4 := ((((((List.getD x11 (Int.toNat x12) zt55).1).2).1).1).1).2
  let v5 := (((((List.getD x11 (Int.toNat x12) zt55).1).2).1).1).2
  let v6 := ((((((List.getD x11 (Int.toNat x12) zt55).1).2).1).2).1).1
  let v7 := ((((((List.getD x11 (Int.toNat x12) zt55).1).2).1).2).1).2
  let v8 := (((((List.getD x11 (Int.toNat x12) zt55).1).2).1).2).2
  let v9 := (((List.getD x11 (Int.toNat x12) zt55).1).2).2
  let v10 := ((List.getD x11 (Int.toNat x12) zt55).2).1
  let v11 := ((((((List.getD x11 (Int.toNat x12) zt55).2).2).1).1).1).1
  let v12 := ((((((List.getD x11 (Int.toNat x12) zt55).2).2).1).1).1).2
  let v13 := (((((List.getD x11 (Int.toNat x12) zt55).2).2).1).1).2
  let v14 := ((((((List.getD x11 (Int.toNat x12) zt55).2).2).1).2).1).1
  let v15 := ((((((List.getD x11 (Int.toNat x12) zt55).2).2).1).2).1).2
  let v16 := (((((List.getD x11 (Int.toNat x12) zt55).2).2).1).2).2
  let v17 := (((List.getD x11 (Int.toNat x12) zt55).2).2).2
  bif v2 then (bif v10 then ((fulcrumref05_Cmp.F ((((v3, v4), v5), ((v6, v7), v8)), (((v11, v12), v13), ((v14, v15), v16)), ())).bind fun y18 =>
  let v19 := decide (y18.1 > (0 : Int))
  bif v19 then (some (false, ()))
  else (let v20 := (x10 == (0 : Int))
  bif v20 then (let v21 := (x9_0 == (1 : Int))
  bif v21 then (let v22 := (x12 == x3_1)
  bif decide (0 ≤ x12) && decide (x12 < (List.length x8 : Int)) then (let v23 := ((List.getD x8 (Int.toNat x12) zt55).2).1
  let v24 := ((((((List.getD x8 (Int.toNat x12) zt55).2).2).1).1).1).1
  let v25 := ((((((List.getD x8 (Int.toNat x12) zt55).2).2).1).1).1).2
  let v26 := (((((List.getD x8 (Int.toNat x12) zt55).2).2).1).1).2
  let v27 := ((((((List.getD x8 (Int.toNat x12) zt55).2).2).1).2).1).1
  let v28 := ((((((List.getD x8 (Int.toNat x12) zt55).2).2).1).2).1).2
  let v29 := (((((List.getD x8 (Int.toNat x12) zt55).2).2).1).2).2
  let v30 := (((List.getD x8 (Int.toNat x12) zt55).2).2).2
  (fulcrumlaw08_sameBound.F ((v10, ((((v11, v12), v13), ((v14, v15), v16)), v17)), (v23, ((((v24, v25), v26), ((v27, v28), v29)), v30)), ())).bind fun y31 =>
  let v32 := not y31.1
  bif v32 then (some (false, ()))
  else (let v33 := not v22
  bif v33 then (bif decide (0 ≤ x12) && decide (x12 < (List.length x8 : Int)) then (let v34 := ((List.getD x8 (Int.toNat x12) zt55).1).1
  let v35 := ((((((List.getD x8 (Int.toNat x12) zt55).1).2).1).1).1).1
  let v36 := ((((((List.getD x8 (Int.toNat x12) zt55).1).2).1).1).1).2
  let v37 := (((((List.getD x8 (Int.toNat x12) zt55).1).2).1).1).2
  let v38 := ((((((List.getD x8 (Int.toNat x12) zt55).1).2).1).2).1).1
  let v39 := ((((((List.getD x8 (Int.toNat x12) zt55).1).2).1).2).1).2
  let v40 := (((((List.getD x8 (Int.toNat x12) zt55).1).2).1).2).2
  let v41 := (((List.getD x8 (Int.toNat x12) zt55).1).2).2
  (fulcrumlaw08_sameBound.F ((v2, ((((v3, v4), v5), ((v6, v7), v8)), v9)), (v34, ((((v35, v36), v37), ((v38, v39), v40)), v41)), ())).bind fun y42 =>
  let v43 := not y42.1
  bif v43 then (some (false, ()))
  else (let v44 := not v22
  bif v44 then (let v45 := IntKind.i64.wrap (x12 + (1 : Int))
  f13 x3_0 x3_1 x3_2 x3_3 x3_4 x3_5 x3_6 x3_7 x3_8 x3_9 x7 x8 x9_0 x9_1 x10 x11 v45)
  else (let v46 := not v2
  bif v46 then (some (false, ()))
  else (let v47 := (v9 != x3_8)
  bif v47 then (some (false, ()))
  else ((fulcrumref05_Cmp.F ((((v3, v4), v5), ((v6, v7), v8)), (((x3_2, x3_3), x3_4), ((x3_5, x3_6), x3_7)), ())).bind fun y48 =>
  let v49 := (y48.1 != (0 : Int))
  bif v49 then (some (false, ()))
  else (bif decide (0 ≤ x12) && decide (x12 < (List.length x8 : Int)) then (let v50 := ((List.getD x8 (Int.toNat x12) zt55).1).1
  bif v50 then (bif decide (0 ≤ x12) && decide (x12 < (List.length x8 : Int)) then (let v51 := ((((((List.getD x8 (Int.toNat x12) zt55).1).2).1).1).1).1
  let v52 := ((((((List.getD x8 (Int.toNat x12) zt55).1).2).1).1).1).2
  let v53 := (((((List.getD x8 (Int.toNat x12) zt55).1).2).1).1).2
  let v54 := ((((((List.getD x8 (Int.toNat x12) zt55).1).2).1).2).1).1
  let v55 := ((((((List.getD x8 (Int.toNat x12) zt55).1).2).1).2).1).2
  let v56 := (((((List.getD x8 (Int.toNat x12) zt55).1).2).1).2).2
  (fulcrumref05_Cmp.F ((((v3, v4), v5), ((v6, v7), v8)), (((v51, v52), v53), ((v54, v55), v56)), ())).bind fun y57 =>
  let v58 := decide (y57.1 ≤ (0 : Int))
  bif v58 then (some (false, ()))
  else (let v59 := IntKind.i64.wrap (x12 + (1 : Int))
  f13 x3_0 x3_1 x3_2 x3_3 x3_4 x3_5 x3_6 x3_7 x3_8 x3_9 x7 x8 x9_0 x9_1 x10 x11 v59))
  else none)
  else (let v60 := IntKind.i64.wrap (x12 + (1 : Int))
  f13 x3_0 x3_1 x3_2 x3_3 x3_4 x3_5 x3_6 x3_7 x3_8 x3_9 x7 x8 x9_0 x9_1 x10 x11 v60))
  else none))))))
  else none)
  else (let v61 := not v22
  bif v61 then (let v62 := IntKind.i64.wrap (x12 + (1 : Int))
  f13 x3_0 x3_1 x3_2 x3_3 x3_4 x3_5 x3_6 x3_7 x3_8 x3_9 x7 x8 x9_0 x9_1 x10 x11 v62)
  else (let v63 := not v2
  bif v63 then (some (false, ()))
  else (let v64 := (v9 != x3_8)
  bif v64 then (some (false, ()))
  else ((fulcrumref05_Cmp.F ((((v3, v4), v5), ((v6, v7), v8)), (((x3_2, x3_3), x3_4), ((x3_5, x3_6), x3_7)), ())).bind fun y65 =>
  let v66 := (y65.1 != (0 : Int))
  bif v66 then (some (false, ()))
  else (bif decide (0 ≤ x12) && decide (x12 < (List.length x8 : Int)) then (let v67 := ((List.getD x8 (Int.toNat x12) zt55).1).1
  bif v67 then (bif decide (0 ≤ x12) && decide (x12 < (List.length x8 : Int)) then (let v68 := ((((((List.getD x8 (Int.toNat x12) zt55).1).2).1).1).1).1
  let v69 := ((((((List.getD x8 (Int.toNat x12) zt55).1).2).1).1).1).2
  let v70 := (((((List.getD x8 (Int.toNat x12) zt55).1).2).1).1).2
  let v71 := ((((((List.getD x8 (Int.toNat x12) zt55).1).2).1).2).1).1
  let v72 := ((((((List.getD x8 (Int.toNat x12) zt55).1).2).1).2).1).2
  let v73 := (((((List.getD x8 (Int.toNat x12) zt55).1).2).1).2).2
  (fulcrumref05_Cmp.F ((((v3, v4), v5), ((v6, v7), v8)), (((v68, v69), v70), ((v71, v72), v73)), ())).bind fun y74 =>
  let v75 := decide (y74.1 ≤ (0 : Int))
  bif v75 then (some (false, ()))
  else (let v76 := IntKind.i64.wrap (x12 + (1 : Int))
  f13 x3_0 x3_1 x3_2 x3_3 x3_4 x3_5 x3_6 x3_7 x3_8 x3_9 x7 x8 x9_0 x9_1 x10 x11 v76))
  else none)
  else (let v77 := IntKind.i64.wrap (x12 + (1 : Int))
  f13 x3_0 x3_1 x3_2 x3_3 x3_4 x3_5 x3_6 x3_7 x3_8 x3_9 x7 x8 x9_0 x9_1 x10 x11 v77))
  else none)))))))
  else none)
  else (bif decide (0 ≤ x12) && decide (x12 < (List.length x8 : Int)) then (let v78 := ((List.getD x8 (Int.toNat x12) zt55).2).1
  let v79 := ((((((List.getD x8 (Int.toNat x12) zt55).2).2).1).1).1).1
  let v80 := ((((((List.getD x8 (Int.toNat x12) zt55).2).2).1).1).1).2
  let v81 := (((((List.getD x8 (Int.toNat x12) zt55).2).2).1).1).2
  let v82 := ((((((List.getD x8 (Int.toNat x12) zt55).2).2).1).2).1).1
  let v83 := ((((((List.getD x8 (Int.toNat x12) zt55).2).2).1).2).1).2
  let v84 := (((((List.getD x8 (Int.toNat x12) zt55).2).2).1).2).2
  let v85 := (((List.getD x8 (Int.toNat x12) zt55).2).2).2
  (fulcrumlaw08_sameBound.F ((v10, ((((v11, v12), v13), ((v14, v15), v16)), v17)), (v78, ((((v79, v80), v81), ((v82, v83), v84)), v85)), ())).bind fun y86 =>
  let v87 := not y86.1
  bif v87 then (some (false, ()))
  else (let v88 := not false
  bif v88 then (bif decide (0 ≤ x12) && decide (x12 < (List.length x8 : Int)) then (let v89 := ((List.getD x8 (Int.toNat x12) zt55).1).1
  let v90 := ((((((List.getD x8 (Int.toNat x12) zt55).1).2).1).1).1).1
  let v91 := ((((((List.getD x8 (Int.toNat x12) zt55).1).2).1).1).1).2
  let v92 := (((((List.getD x8 (Int.toNat x12) zt55).1).2).1).1).2
  let v93 := ((((((List.getD x8 (Int.toNat x12) zt55).1).2).1).2).1).1
  let v94 := ((((((List.getD x8 (Int.toNat x12) zt55).1).2).1).2).1).2
  let v95 := (((((List.getD x8 (Int.toNat x12) zt55).1).2).1).2).2
  let v96 := (((List.getD x8 (Int.toNat x12) zt55).1).2).2
  (fulcrumlaw08_sameBound.F ((v2, ((((v3, v4), v5), ((v6, v7), v8)), v9)), (v89, ((((v90, v91), v92), ((v93, v94), v95)), v96)), ())).bind fun y97 =>
  let v98 := not y97.1
  bif v98 then (some (false, ()))
  else (let v99 := not false
  bif v99 then (let v100 := IntKind.i64.wrap (x12 + (1 : Int))
  f13 x3_0 x3_1 x3_2 x3_3 x3_4 x3_5 x3_6 x3_7 x3_8 x3_9 x7 x8 x9_0 x9_1 x10 x11 v100)
  else (let v101 := not v2
  bif v101 then (some (false, ()))
  else (let v102 := (v9 != x3_8)
  bif v102 then (some (false, ()))
  else ((fulcrumref05_Cmp.F ((((v3, v4), v5), ((v6, v7), v8)), (((x3_2, x3_3), x3_4), ((x3_5, x3_6), x3_7)), ())).bind fun y103 =>
  let v104 := (y103.1 != (0 : Int))
  bif v104 then (some (false, ()))
  else (bif decide (0 ≤ x12) && decide (x12 < (List.length x8 : Int)) then (let v105 := ((List.getD x8 (Int.toNat x12) zt55).1).1
  bif v105 then (bif decide (0 ≤ x12) && decide (x12 < (List.length x8 : Int)) then (let v106 := ((((((List.getD x8 (Int.toNat x12) zt55).1).2).1).1).1).1
  let v107 := ((((((List.getD x8 (Int.toNat x12) zt55).1).2).1).1).1).2
  let v108 := (((((List.getD x8 (Int.toNat x12) zt55).1).2).1).1).2
  let v109 := ((((((List.getD x8 (Int.toNat x12) zt55).1).2).1).2).1).1
  let v110 := ((((((List.getD x8 (Int.toNat x12) zt55).1).2).1).2).1).2
  let v111 := (((((List.getD x8 (Int.toNat x12) zt55).1).2).1).2).2
  (fulcrumref05_Cmp.F ((((v3, v4), v5), ((v6, v7), v8)), (((v106, v107), v108), ((v109, v110), v111)), ())).bind fun y112 =>
  let v113 := decide (y112.1 ≤ (0 : Int))
  bif v113 then (some (false, ()))
  else (let v114 := IntKind.i64.wrap (x12 + (1 : Int))
  f13 x3_0 x3_1 x3_2 x3_3 x3_4 x3_5 x3_6 x3_7 x3_8 x3_9 x7 x8 x9_0 x9_1 x10 x11 v114))
  else none)
  else (let v115 := IntKind.i64.wrap (x12 + (1 : Int))
  f13 x3_0 x3_1 x3_2 x3_3 x3_4 x3_5 x3_6 x3_7 x3_8 x3_9 x7 x8 x9_0 x9_1 x10 x11 v115))
  else none))))))
  else none)
  else (let v116 := not false
  bif v116 then (let v117 := IntKind.i64.wrap (x12 + (1 : Int))
  f13 x3_0 x3_1 x3_2 x3_3 x3_4 x3_5 x3_6 x3_7 x3_8 x3_9 x7 x8 x9_0 x9_1 x10 x11 v117)
  else (let v118 := not v2
  bif v118 then (some (false, ()))
  else (let v119 := (v9 != x3_8)
  bif v119 then (some (false, ()))
  else ((fulcrumref05_Cmp.F ((((v3, v4), v5), ((v6, v7), v8)), (((x3_2, x3_3), x3_4), ((x3_5, x3_6), x3_7)), ())).bind fun y120 =>
  let v121 := (y120.1 != (0 : Int))
  bif v121 then (some (false, ()))
  else (bif decide (0 ≤ x12) && decide (x12 < (List.length x8 : Int)) then (let v122 := ((List.getD x8 (Int.toNat x12) zt55).1).1
  bif v122 then (bif decide (0 ≤ x12) && decide (x12 < (List.length x8 : Int)) then (let v123 := ((((((List.getD x8 (Int.toNat x12) zt55).1).2).1).1).1).1
  let v124 := ((((((List.getD x8 (Int.toNat x12) zt55).1).2).1).1).1).2
  let v125 := (((((List.getD x8 (Int.toNat x12) zt55).1).2).1).1).2
  let v126 := ((((((List.getD x8 (Int.toNat x12) zt55).1).2).1).2).1).1
  let v127 := ((((((List.getD x8 (Int.toNat x12) zt55).1).2).1).2).1).2
  let v128 := (((((List.getD x8 (Int.toNat x12) zt55).1).2).1).2).2
  (fulcrumref05_Cmp.F ((((v3, v4), v5), ((v6, v7), v8)), (((v123, v124), v125), ((v126, v127), v128)), ())).bind fun y129 =>
  let v130 := decide (y129.1 ≤ (0 : Int))
  bif v130 then (some (false, ()))
  else (let v131 := IntKind.i64.wrap (x12 + (1 : Int))
  f13 x3_0 x3_1 x3_2 x3_3 x3_4 x3_5 x3_6 x3_7 x3_8 x3_9 x7 x8 x9_0 x9_1 x10 x11 v131))
  else none)
  else (let v132 := IntKind.i64.wrap (x12 + (1 : Int))
  f13 x3_0 x3_1 x3_2 x3_3 x3_4 x3_5 x3_6 x3_7 x3_8 x3_9 x7 x8 x9_0 x9_1 x10 x11 v132))
  else none)))))))
  else none))
  else (bif decide (0 ≤ x12) && decide (x12 < (List.length x8 : Int)) then (let v133 := ((List.getD x8 (Int.toNat x12) zt55).2).1
  let v134 := ((((((List.getD x8 (Int.toNat x12) zt55).2).2).1).1).1).1
  let v135 := ((((((List.getD x8 (Int.toNat x12) zt55).2).2).1).1).1).2
  let v136 := (((((List.getD x8 (Int.toNat x12) zt55).2).2).1).1).2
  let v137 := ((((((List.getD x8 (Int.toNat x12) zt55).2).2).1).2).1).1
  let v138 := ((((((List.getD x8 (Int.toNat x12) zt55).2).2).1).2).1).2
  let v139 := (((((List.getD x8 (Int.toNat x12) zt55).2).2).1).2).2
  let v140 := (((List.getD x8 (Int.toNat x12) zt55).2).2).2
  (fulcrumlaw08_sameBound.F ((v10, ((((v11, v12), v13), ((v14, v15), v16)), v17)), (v133, ((((v134, v135), v136), ((v137, v138), v139)), v140)), ())).bind fun y141 =>
  let v142 := not y141.1
  bif v142 then (some (false, ()))
  else (let v143 := not false
  bif v143 then (bif decide (0 ≤ x12) && decide (x12 < (List.length x8 : Int)) then (let v144 := ((List.getD x8 (Int.toNat x12) zt55).1).1
  let v145 := ((((((List.getD x8 (Int.toNat x12) zt55).1).2).1).1).1).1
  let v146 := ((((((List.getD x8 (Int.toNat x12) zt55).1).2).1).1).1).2
  let v147 := (((((List.getD x8 (Int.toNat x12) zt55).1).2).1).1).2
  let v148 := ((((((List.getD x8 (Int.toNat x12) zt55).1).2).1).2).1).1
  let v149 := ((((((List.getD x8 (Int.toNat x12) zt55).1).2).1).2).1).2
  let v150 := (((((List.getD x8 (Int.toNat x12) zt55).1).2).1).2).2
  let v151 := (((List.getD x8 (Int.toNat x12) zt55).1).2).2
  (fulcrumlaw08_sameBound.F ((v2, ((((v3, v4), v5), ((v6, v7), v8)), v9)), (v144, ((((v145, v146), v147), ((v148, v149), v150)), v151)), ())).bind fun y152 =>
  let v153 := not y152.1
  bif v153 then (some (false, ()))
  else (let v154 := not false
  bif v154 then (let v155 := IntKind.i64.wrap (x12 + (1 : Int))
  f13 x3_0 x3_1 x3_2 x3_3 x3_4 x3_5 x3_6 x3_7 x3_8 x3_9 x7 x8 x9_0 x9_1 x10 x11 v155)
  else (let v156 := not v2
  bif v156 then (some (false, ()))
  else (let v157 := (v9 != x3_8)
  bif v157 then (some (false, ()))
  else ((fulcrumref05_Cmp.F ((((v3, v4), v5), ((v6, v7), v8)), (((x3_2, x3_3), x3_4), ((x3_5, x3_6), x3_7)), ())).bind fun y158 =>
  let v159 := (y158.1 != (0 : Int))
  bif v159 then (some (false, ()))
  else (bif decide (0 ≤ x12) && decide (x12 < (List.length x8 : Int)) then (let v160 := ((List.getD x8 (Int.toNat x12) zt55).1).1
  bif v160 then (bif decide (0 ≤ x12) && decide (x12 < (List.length x8 : Int)) then (let v161 := ((((((List.getD x8 (Int.toNat x12) zt55).1).2).1).1).1).1
  let v162 := ((((((List.getD x8 (Int.toNat x12) zt55).1).2).1).1).1).2
  let v163 := (((((List.getD x8 (Int.toNat x12) zt55).1).2).1).1).2
  let v164 := ((((((List.getD x8 (Int.toNat x12) zt55).1).2).1).2).1).1
  let v165 := ((((((List.getD x8 (Int.toNat x12) zt55).1).2).1).2).1).2
  let v166 := (((((List.getD x8 (Int.toNat x12) zt55).1).2).1).2).2
  (fulcrumref05_Cmp.F ((((v3, v4), v5), ((v6, v7), v8)), (((v161, v162), v163), ((v164, v165), v166)), ())).bind fun y167 =>
  let v168 := decide (y167.1 ≤ (0 : Int))
  bif v168 then (some (false, ()))
  else (let v169 := IntKind.i64.wrap (x12 + (1 : Int))
  f13 x3_0 x3_1 x3_2 x3_3 x3_4 x3_5 x3_6 x3_7 x3_8 x3_9 x7 x8 x9_0 x9_1 x10 x11 v169))
  else none)
  else (let v170 := IntKind.i64.wrap (x12 + (1 : Int))
  f13 x3_0 x3_1 x3_2 x3_3 x3_4 x3_5 x3_6 x3_7 x3_8 x3_9 x7 x8 x9_0 x9_1 x10 x11 v170))
  else none))))))
  else none)
  else (let v171 := not false
  bif v171 then (let v172 := IntKind.i64.wrap (x12 + (1 : Int))
  f13 x3_0 x3_1 x3_2 x3_3 x3_4 x3_5 x3_6 x3_7 x3_8 x3_9 x7 x8 x9_0 x9_1 x10 x11 v172)
  else (let v173 := not v2
  bif v173 then (some (false, ()))
  else (let v174 := (v9 != x3_8)
  bif v174 then (some (false, ()))
  else ((fulcrumref05_Cmp.F ((((v3, v4), v5), ((v6, v7), v8)), (((x3_2, x3_3), x3_4), ((x3_5, x3_6), x3_7)), ())).bind fun y175 =>
  let v176 := (y175.1 != (0 : Int))
  bif v176 then (some (false, ()))
  else (bif decide (0 ≤ x12) && decide (x12 < (List.length x8 : Int)) then (let v177 := ((List.getD x8 (Int.toNat x12) zt55).1).1
  bif v177 then (bif decide (0 ≤ x12) && decide (x12 < (List.length x8 : Int)) then (let v178 := ((((((List.getD x8 (Int.toNat x12) zt55).1).2).1).1).1).1
  let v179 := ((((((List.getD x8 (Int.toNat x12) zt55).1).2).1).1).1).2
  let v180 := (((((List.getD x8 (Int.toNat x12) zt55).1).2).1).1).2
  let v181 := ((((((List.getD x8 (Int.toNat x12) zt55).1).2).1).2).1).1
  let v182 := ((((((List.getD x8 (Int.toNat x12) zt55).1).2).1).2).1).2
  let v183 := (((((List.getD x8 (Int.toNat x12) zt55).1).2).1).2).2
  (fulcrumref05_Cmp.F ((((v3, v4), v5), ((v6, v7), v8)), (((v178, v179), v180), ((v181, v182), v183)), ())).bind fun y184 =>
  let v185 := decide (y184.1 ≤ (0 : Int))
  bif v185 then (some (false, ()))
  else (let v186 := IntKind.i64.wrap (x12 + (1 : Int))
  f13 x3_0 x3_1 x3_2 x3_3 x3_4 x3_5 x3_6 x3_7 x3_8 x3_9 x7 x8 x9_0 x9_1 x10 x11 v186))
  else none)
  else (let v187 := IntKind.i64.wrap (x12 + (1 : Int))
  f13 x3_0 x3_1 x3_2 x3_3 x3_4 x3_5 x3_6 x3_7 x3_8 x3_9 x7 x8 x9_0 x9_1 x10 x11 v187))
  else none)))))))
  else none)))
  else (let v188 := (x10 == (0 : Int))
  bif v188 then (let v189 := (x9_0 == (1 : Int))
  bif v189 then (let v190 := (x12 == x3_1)
  bif decide (0 ≤ x12) && decide (x12 < (List.length x8 : Int)) then (let v191 := ((List.getD x8 (Int.toNat x12) zt55).2).1
  let v192 := ((((((List.getD x8 (Int.toNat x12) zt55).2).2).1).1).1).1
  let v193 := ((((((List.getD x8 (Int.toNat x12) zt55).2).2).1).1).1).2
  let v194 := (((((List.getD x8 (Int.toNat x12) zt55).2).2).1).1).2
  let v195 := ((((((List.getD x8 (Int.toNat x12) zt55).2).2).1).2).1).1
  let v196 := ((((((List.getD x8 (Int.toNat x12) zt55).2).2).1).2).1).2
  let v197 := (((((List.getD x8 (Int.toNat x12) zt55).2).2).1).2).2
  let v198 := (((List.getD x8 (Int.toNat x12) zt55).2).2).2
  (fulcrumlaw08_sameBound.F ((v10, ((((v11, v12), v13), ((v14, v15), v16)), v17)), (v191, ((((v192, v193), v194), ((v195, v196), v197)), v198)), ())).bind fun y199 =>
  let v200 := not y199.1
  bif v200 then (some (false, ()))
  else (let v201 := not v190
  bif v201 then (bif decide (0 ≤ x12) && decide (x12 < (List.length x8 : Int)) then (let v202 := ((List.getD x8 (Int.toNat x12) zt55).1).1
  let v203 := ((((((List.getD x8 (Int.toNat x12) zt55).1).2).1).1).1).1
  let v204 := ((((((List.getD x8 (Int.toNat x12) zt55).1).2).1).1).1).2
  let v205 := (((((List.getD x8 (Int.toNat x12) zt55).1).2).1).1).2
  let v206 := ((((((List.getD x8 (Int.toNat x12) zt55).1).2).1).2).1).1
  let v207 := ((((((List.getD x8 (Int.toNat x12) zt55).1).2).1).2).1).2
  let v208 := (((((List.getD x8 (Int.toNat x12) zt55).1).2).1).2).2
  let v209 := (((List.getD x8 (Int.toNat x12) zt55).1).2).2
  (fulcrumlaw08_sameBound.F ((v2, ((((v3, v4), v5), ((v6, v7), v8)), v9)), (v202, ((((v203, v204), v205), ((v206, v207), v208)), v209)), ())).bind fun y210 =>
  let v211 := not y210.1
  bif v211 then (some (false, ()))
  else (let v212 := not v190
  bif v212 then (let v213 := IntKind.i64.wrap (x12 + (1 : Int))
  f13 x3_0 x3_1 x3_2 x3_3 x3_4 x3_5 x3_6 x3_7 x3_8 x3_9 x7 x8 x9_0 x9_1 x10 x11 v213)
  else (let v214 := not v2
  bif v214 then (some (false, ()))
  else (let v215 := (v9 != x3_8)
  bif v215 then (some (false, ()))
  else ((fulcrumref05_Cmp.F ((((v3, v4), v5), ((v6, v7), v8)), (((x3_2, x3_3), x3_4), ((x3_5, x3_6), x3_7)), ())).bind fun y216 =>
  let v217 := (y216.1 != (0 : Int))
  bif v217 then (some (false, ()))
  else (bif decide (0 ≤ x12) && decide (x12 < (List.length x8 : Int)) then (let v218 := ((List.getD x8 (Int.toNat x12) zt55).1).1
  bif v218 then (bif decide (0 ≤ x12) && decide (x12 < (List.length x8 : Int)) then (let v219 := ((((((List.getD x8 (Int.toNat x12) zt55).1).2).1).1).1).1
  let v220 := ((((((List.getD x8 (Int.toNat x12) zt55).1).2).1).1).1).2
  let v221 := (((((List.getD x8 (Int.toNat x12) zt55).1).2).1).1).2
  let v222 := ((((((List.getD x8 (Int.toNat x12) zt55).1).2).1).2).1).1
  let v223 := ((((((List.getD x8 (Int.toNat x12) zt55).1).2).1).2).1).2
  let v224 := (((((List.getD x8 (Int.toNat x12) zt55).1).2).1).2).2
  (fulcrumref05_Cmp.F ((((v3, v4), v5), ((v6, v7), v8)), (((v219, v220), v221), ((v222, v223), v224)), ())).bind fun y225 =>
  let v226 := decide (y225.1 ≤ (0 : Int))
  bif v226 then (some (false, ()))
  else (let v227 := IntKind.i64.wrap (x12 + (1 : Int))
  f13 x3_0 x3_1 x3_2 x3_3 x3_4 x3_5 x3_6 x3_7 x3_8 x3_9 x7 x8 x9_0 x9_1 x10 x11 v227))
  else none)
  else (let v228 := IntKind.i64.wrap (x12 + (1 : Int))
  f13 x3_0 x3_1 x3_2 x3_3 x3_4 x3_5 x3_6 x3_7 x3_8 x3_9 x7 x8 x9_0 x9_1 x10 x11 v228))
  else none))))))
  else none)
  else (let v229 := not v190
  bif v229 then (let v230 := IntKind.i64.wrap (x12 + (1 : Int))
  f13 x3_0 x3_1 x3_2 x3_3 x3_4 x3_5 x3_6 x3_7 x3_8 x3_9 x7 x8 x9_0 x9_1 x10 x11 v230)
  else (let v231 := not v2
  bif v231 then (some (false, ()))
  else (let v232 := (v9 != x3_8)
  bif v232 then (some (false, ()))
  else ((fulcrumref05_Cmp.F ((((v3, v4), v5), ((v6, v7), v8)), (((x3_2, x3_3), x3_4), ((x3_5, x3_6), x3_7)), ())).bind fun y233 =>
  let v234 := (y233.1 != (0 : Int))
  bif v234 then (some (false, ()))
  else (bif decide (0 ≤ x12) && decide (x12 < (List.length x8 : Int)) then (let v235 := ((List.getD x8 (Int.toNat x12) zt55).1).1
  bif v235 then (bif decide (0 ≤ x12) && decide (x12 < (List.length x8 : Int)) then (let v236 := ((((((List.getD x8 (Int.toNat x12) zt55).1).2).1).1).1).1
  let v237 := ((((((List.getD x8 (Int.toNat x12) zt55).1).2).1).1).1).2
  let v238 := (((((List.getD x8 (Int.toNat x12) zt55).1).2).1).1).2
  let v239 := ((((((List.getD x8 (Int.toNat x12) zt55).1).2).1).2).1).1
  let v240 := ((((((List.getD x8 (Int.toNat x12) zt55).1).2).1).2).1).2
  let v241 := (((((List.getD x8 (Int.toNat x12) zt55).1).2).1).2).2
  (fulcrumref05_Cmp.F ((((v3, v4), v5), ((v6, v7), v8)), (((v236, v237), v238), ((v239, v240), v241)), ())).bind fun y242 =>
  let v243 := decide (y242.1 ≤ (0 : Int))
  bif v243 then (some (false, ()))
  else (let v244 := IntKind.i64.wrap (x12 + (1 : Int))
  f13 x3_0 x3_1 x3_2 x3_3 x3_4 x3_5 x3_6 x3_7 x3_8 x3_9 x7 x8 x9_0 x9_1 x10 x11 v244))
  else none)
  else (let v245 := IntKind.i64.wrap (x12 + (1 : Int))
  f13 x3_0 x3_1 x3_2 x3_3 x3_4 x3_5 x3_6 x3_7 x3_8 x3_9 x7 x8 x9_0 x9_1 x10 x11 v245))
  else none)))))))
  else none)
  else (bif decide (0 ≤ x12) && decide (x12 < (List.length x8 : Int)) then (let v246 := ((List.getD x8 (Int.toNat x12) zt55).2).1
  let v247 := ((((((List.getD x8 (Int.toNat x12) zt55).2).2).1).1).1).1
  let v248 := ((((((List.getD x8 (Int.toNat x12) zt55).2).2).1).1).1).2
  let v249 := (((((List.getD x8 (Int.toNat x12) zt55).2).2).1).1).2
  let v250 := ((((((List.getD x8 (Int.toNat x12) zt55).2).2).1).2).1).1
  let v251 := ((((((List.getD x8 (Int.toNat x12) zt55).2).2).1).2).1).2
  let v252 := (((((List.getD x8 (Int.toNat x12) zt55).2).2).1).2).2
  let v253 := (((List.getD x8 (Int.toNat x12) zt55).2).2).2
  (fulcrumlaw08_sameBound.F ((v10, ((((v11, v12), v13), ((v14, v15), v16)), v17)), (v246, ((((v247, v248), v249), ((v250, v251), v252)), v253)), ())).bind fun y254 =>
  let v255 := not y254.1
  bif v255 then (some (false, ()))
  else (let v256 := not false
  bif v256 then (bif decide (0 ≤ x12) && decide (x12 < (List.length x8 : Int)) then (let v257 := ((List.getD x8 (Int.toNat x12) zt55).1).1
  let v258 := ((((((List.getD x8 (Int.toNat x12) zt55).1).2).1).1).1).1
  let v259 := ((((((List.getD x8 (Int.toNat x12) zt55).1).2).1).1).1).2
  let v260 := (((((List.getD x8 (Int.toNat x12) zt55).1).2).1).1).2
  let v261 := ((((((List.getD x8 (Int.toNat x12) zt55).1).2).1).2).1).1
  let v262 := ((((((List.getD x8 (Int.toNat x12) zt55).1).2).1).2).1).2
  let v263 := (((((List.getD x8 (Int.toNat x12) zt55).1).2).1).2).2
  let v264 := (((List.getD x8 (Int.toNat x12) zt55).1).2).2
  (fulcrumlaw08_sameBound.F ((v2, ((((v3, v4), v5), ((v6, v7), v8)), v9)), (v257, ((((v258, v259), v260), ((v261, v262), v263)), v264)), ())).bind fun y265 =>
  let v266 := not y265.1
  bif v266 then (some (false, ()))
  else (let v267 := not false
  bif v267 then (let v268 := IntKind.i64.wrap (x12 + (1 : Int))
  f13 x3_0 x3_1 x3_2 x3_3 x3_4 x3_5 x3_6 x3_7 x3_8 x3_9 x7 x8 x9_0 x9_1 x10 x11 v268)
  else (let v269 := not v2
  bif v269 then (some (false, ()))
  else (let v270 := (v9 != x3_8)
  bif v270 then (some (false, ()))
  else ((fulcrumref05_Cmp.F ((((v3, v4), v5), ((v6, v7), v8)), (((x3_2, x3_3), x3_4), ((x3_5, x3_6), x3_7)), ())).bind fun y271 =>
  let v272 := (y271.1 != (0 : Int))
  bif v272 then (some (false, ()))
  else (bif decide (0 ≤ x12) && decide (x12 < (List.length x8 : Int)) then (let v273 := ((List.getD x8 (Int.toNat x12) zt55).1).1
  bif v273 then (bif decide (0 ≤ x12) && decide (x12 < (List.length x8 : Int)) then (let v274 := ((((((List.getD x8 (Int.toNat x12) zt55).1).2).1).1).1).1
  let v275 := ((((((List.getD x8 (Int.toNat x12) zt55).1).2).1).1).1).2
  let v276 := (((((List.getD x8 (Int.toNat x12) zt55).1).2).1).1).2
  let v277 := ((((((List.getD x8 (Int.toNat x12) zt55).1).2).1).2).1).1
  let v278 := ((((((List.getD x8 (Int.toNat x12) zt55).1).2).1).2).1).2
  let v279 := (((((List.getD x8 (Int.toNat x12) zt55).1).2).1).2).2
  (fulcrumref05_Cmp.F ((((v3, v4), v5), ((v6, v7), v8)), (((v274, v275), v276), ((v277, v278), v279)), ())).bind fun y280 =>
  let v281 := decide (y280.1 ≤ (0 : Int))
  bif v281 then (some (false, ()))
  else (let v282 := IntKind.i64.wrap (x12 + (1 : Int))
  f13 x3_0 x3_1 x3_2 x3_3 x3_4 x3_5 x3_6 x3_7 x3_8 x3_9 x7 x8 x9_0 x9_1 x10 x11 v282))
  else none)
  else (let v283 := IntKind.i64.wrap (x12 + (1 : Int))
  f13 x3_0 x3_1 x3_2 x3_3 x3_4 x3_5 x3_6 x3_7 x3_8 x3_9 x7 x8 x9_0 x9_1 x10 x11 v283))
  else none))))))
  else none)
  else (let v284 := not false
  bif v284 then (let v285 := IntKind.i64.wrap (x12 + (1 : Int))
  f13 x3_0 x3_1 x3_2 x3_3 x3_4 x3_5 x3_6 x3_7 x3_8 x3_9 x7 x8 x9_0 x9_1 x10 x11 v285)
  else (let v286 := not v2
  bif v286 then (some (false, ()))
  else (let v287 := (v9 != x3_8)
  bif v287 then (some (false, ()))
  else ((fulcrumref05_Cmp.F ((((v3, v4), v5), ((v6, v7), v8)), (((x3_2, x3_3), x3_4), ((x3_5, x3_6), x3_7)), ())).bind fun y288 =>
  let v289 := (y288.1 != (0 : Int))
  bif v289 then (some (false, ()))
  else (bif decide (0 ≤ x12) && decide (x12 < (List.length x8 : Int)) then (let v290 := ((List.getD x8 (Int.toNat x12) zt55).1).1
  bif v290 then (bif decide (0 ≤ x12) && decide (x12 < (List.length x8 : Int)) then (let v291 := ((((((List.getD x8 (Int.toNat x12) zt55).1).2).1).1).1).1
  let v292 := ((((((List.getD x8 (Int.toNat x12) zt55).1).2).1).1).1).2
  let v293 := (((((List.getD x8 (Int.toNat x12) zt55).1).2).1).1).2
  let v294 := ((((((List.getD x8 (Int.toNat x12) zt55).1).2).1).2).1).1
  let v295 := ((((((List.getD x8 (Int.toNat x12) zt55).1).2).1).2).1).2
  let v296 := (((((List.getD x8 (Int.toNat x12) zt55).1).2).1).2).2
  (fulcrumref05_Cmp.F ((((v3, v4), v5), ((v6, v7), v8)), (((v291, v292), v293), ((v294, v295), v296)), ())).bind fun y297 =>
  let v298 := decide (y297.1 ≤ (0 : Int))
  bif v298 then (some (false, ()))
  else (let v299 := IntKind.i64.wrap (x12 + (1 : Int))
  f13 x3_0 x3_1 x3_2 x3_3 x3_4 x3_5 x3_6 x3_7 x3_8 x3_9 x7 x8 x9_0 x9_1 x10 x11 v299))
  else none)
  else (let v300 := IntKind.i64.wrap (x12 + (1 : Int))
  f13 x3_0 x3_1 x3_2 x3_3 x3_4 x3_5 x3_6 x3_7 x3_8 x3_9 x7 x8 x9_0 x9_1 x10 x11 v300))
  else none)))))))
  else none))
  else (bif decide (0 ≤ x12) && decide (x12 < (List.length x8 : Int)) then (let v301 := ((List.getD x8 (Int.toNat x12) zt55).2).1
  let v302 := ((((((List.getD x8 (Int.toNat x12) zt55).2).2).1).1).1).1
  let v303 := ((((((List.getD x8 (Int.toNat x12) zt55).2).2).1).1).1).2
  let v304 := (((((List.getD x8 (Int.toNat x12) zt55).2).2).1).1).2
  let v305 := ((((((List.getD x8 (Int.toNat x12) zt55).2).2).1).2).1).1
  let v306 := ((((((List.getD x8 (Int.toNat x12) zt55).2).2).1).2).1).2
  let v307 := (((((List.getD x8 (Int.toNat x12) zt55).2).2).1).2).2
  let v308 := (((List.getD x8 (Int.toNat x12) zt55).2).2).2
  (fulcrumlaw08_sameBound.F ((v10, ((((v11, v12), v13), ((v14, v15), v16)), v17)), (v301, ((((v302, v303), v304), ((v305, v306), v307)), v308)), ())).bind fun y309 =>
  let v310 := not y309.1
  bif v310 then (some (false, ()))
  else (let v311 := not false
  bif v311 then (bif decide (0 ≤ x12) && decide (x12 < (List.length x8 : Int)) then (let v312 := ((List.getD x8 (Int.toNat x12) zt55).1).1
  let v313 := ((((((List.getD x8 (Int.toNat x12) zt55).1).2).1).1).1).1
  let v314 := ((((((List.getD x8 (Int.toNat x12) zt55).1).2).1).1).1).2
  let v315 := (((((List.getD x8 (Int.toNat x12) zt55).1).2).1).1).2
  let v316 := ((((((List.getD x8 (Int.toNat x12) zt55).1).2).1).2).1).1
  let v317 := ((((((List.getD x8 (Int.toNat x12) zt55).1).2).1).2).1).2
  let v318 := (((((List.getD x8 (Int.toNat x12) zt55).1).2).1).2).2
  let v319 := (((List.getD x8 (Int.toNat x12) zt55).1).2).2
  (fulcrumlaw08_sameBound.F ((v2, ((((v3, v4), v5), ((v6, v7), v8)), v9)), (v312, ((((v313, v314), v315), ((v316, v317), v318)), v319)), ())).bind fun y320 =>
  let v321 := not y320.1
  bif v321 then (some (false, ()))
  else (let v322 := not false
  bif v322 then (let v323 := IntKind.i64.wrap (x12 + (1 : Int))
  f13 x3_0 x3_1 x3_2 x3_3 x3_4 x3_5 x3_6 x3_7 x3_8 x3_9 x7 x8 x9_0 x9_1 x10 x11 v323)
  else (let v324 := not v2
  bif v324 then (some (false, ()))
  else (let v325 := (v9 != x3_8)
  bif v325 then (some (false, ()))
  else ((fulcrumref05_Cmp.F ((((v3, v4), v5), ((v6, v7), v8)), (((x3_2, x3_3), x3_4), ((x3_5, x3_6), x3_7)), ())).bind fun y326 =>
  let v327 := (y326.1 != (0 : Int))
  bif v327 then (some (false, ()))
  else (bif decide (0 ≤ x12) && decide (x12 < (List.length x8 : Int)) then (let v328 := ((List.getD x8 (Int.toNat x12) zt55).1).1
  bif v328 then (bif decide (0 ≤ x12) && decide (x12 < (List.length x8 : Int)) then (let v329 := ((((((List.getD x8 (Int.toNat x12) zt55).1).2).1).1).1).1
  let v330 := ((((((List.getD x8 (Int.toNat x12) zt55).1).2).1).1).1).2
  let v331 := (((((List.getD x8 (Int.toNat x12) zt55).1).2).1).1).2
  let v332 := ((((((List.getD x8 (Int.toNat x12) zt55).1).2).1).2).1).1
  let v333 := ((((((List.getD x8 (Int.toNat x12) zt55).1).2).1).2).1).2
  let v334 := (((((List.getD x8 (Int.toNat x12) zt55).1).2).1).2).2
  (fulcrumref05_Cmp.F ((((v3, v4), v5), ((v6, v7), v8)), (((v329, v330), v331), ((v332, v333), v334)), ())).bind fun y335 =>
  let v336 := decide (y335.1 ≤ (0 : Int))
  bif v336 then (some (false, ()))
  else (let v337 := IntKind.i64.wrap (x12 + (1 : Int))
  f13 x3_0 x3_1 x3_2 x3_3 x3_4 x3_5 x3_6 x3_7 x3_8 x3_9 x7 x8 x9_0 x9_1 x10 x11 v337))
  else none)
  else (let v338 := IntKind.i64.wrap (x12 + (1 : Int))
  f13 x3_0 x3_1 x3_2 x3_3 x3_4 x3_5 x3_6 x3_7 x3_8 x3_9 x7 x8 x9_0 x9_1 x10 x11 v338))
  else none))))))
  else none)
  else (let v339 := not false
  bif v339 then (let v340 := IntKind.i64.wrap (x12 + (1 : Int))
  f13 x3_0 x3_1 x3_2 x3_3 x3_4 x3_5 x3_6 x3_7 x3_8 x3_9 x7 x8 x9_0 x9_1 x10 x11 v340)
  else (let v341 := not v2
  bif v341 then (some (false, ()))
  else (let v342 := (v9 != x3_8)
  bif v342 then (some (false, ()))
  else ((fulcrumref05_Cmp.F ((((v3, v4), v5), ((v6, v7), v8)), (((x3_2, x3_3), x3_4), ((x3_5, x3_6), x3_7)), ())).bind fun y343 =>
  let v344 := (y343.1 != (0 : Int))
  bif v344 then (some (false, ()))
  else (bif decide (0 ≤ x12) && decide (x12 < (List.length x8 : Int)) then (let v345 := ((List.getD x8 (Int.toNat x12) zt55).1).1
  bif v345 then (bif decide (0 ≤ x12) && decide (x12 < (List.length x8 : Int)) then (let v346 := ((((((List.getD x8 (Int.toNat x12) zt55).1).2).1).1).1).1
  let v347 := ((((((List.getD x8 (Int.toNat x12) zt55).1).2).1).1).1).2
  let v348 := (((((List.getD x8 (Int.toNat x12) zt55).1).2).1).1).2
  let v349 := ((((((List.getD x8 (Int.toNat x12) zt55).1).2).1).2).1).1
  let v350 := ((((((List.getD x8 (Int.toNat x12) zt55).1).2).1).2).1).2
  let v351 := (((((List.getD x8 (Int.toNat x12) zt55).1).2).1).2).2
  (fulcrumref05_Cmp.F ((((v3, v4), v5), ((v6, v7), v8)), (((v346, v347), v348), ((v349, v350), v351)), ())).bind fun y352 =>
  let v353 := decide (y352.1 ≤ (0 : Int))
  bif v353 then (some (false, ()))
  else (let v354 := IntKind.i64.wrap (x12 + (1 : Int))
  f13 x3_0 x3_1 x3_2 x3_3 x3_4 x3_5 x3_6 x3_7 x3_8 x3_9 x7 x8 x9_0 x9_1 x10 x11 v354))
  else none)
  else (let v355 := IntKind.i64.wrap (x12 + (1 : Int))
  f13 x3_0 x3_1 x3_2 x3_3 x3_4 x3_5 x3_6 x3_7 x3_8 x3_9 x7 x8 x9_0 x9_1 x10 x11 v355))
  else none)))))))
  else none)))
  else (let v356 := (x10 == (0 : Int))
  bif v356 then (let v357 := (x9_0 == (1 : Int))
  bif v357 then (let v358 := (x12 == x3_1)
  bif decide (0 ≤ x12) && decide (x12 < (List.length x8 : Int)) then (let v359 := ((List.getD x8 (Int.toNat x12) zt55).2).1
  let v360 := ((((((List.getD x8 (Int.toNat x12) zt55).2).2).1).1).1).1
  let v361 := ((((((List.getD x8 (Int.toNat x12) zt55).2).2).1).1).1).2
  let v362 := (((((List.getD x8 (Int.toNat x12) zt55).2).2).1).1).2
  let v363 := ((((((List.getD x8 (Int.toNat x12) zt55).2).2).1).2).1).1
  let v364 := ((((((List.getD x8 (Int.toNat x12) zt55).2).2).1).2).1).2
  let v365 := (((((List.getD x8 (Int.toNat x12) zt55).2).2).1).2).2
  let v366 := (((List.getD x8 (Int.toNat x12) zt55).2).2).2
  (fulcrumlaw08_sameBound.F ((v10, ((((v11, v12), v13), ((v14, v15), v16)), v17)), (v359, ((((v360, v361), v362), ((v363, v364), v365)), v366)), ())).bind fun y367 =>
  let v368 := not y367.1
  bif v368 then (some (false, ()))
  else (let v369 := not v358
  bif v369 then (bif decide (0 ≤ x12) && decide (x12 < (List.length x8 : Int)) then (let v370 := ((List.getD x8 (Int.toNat x12) zt55).1).1
  let v371 := ((((((List.getD x8 (Int.toNat x12) zt55).1).2).1).1).1).1
  let v372 := ((((((List.getD x8 (Int.toNat x12) zt55).1).2).1).1).1).2
  let v373 := (((((List.getD x8 (Int.toNat x12) zt55).1).2).1).1).2
  let v374 := ((((((List.getD x8 (Int.toNat x12) zt55).1).2).1).2).1).1
  let v375 := ((((((List.getD x8 (Int.toNat x12) zt55).1).2).1).2).1).2
  let v376 := (((((List.getD x8 (Int.toNat x12) zt55).1).2).1).2).2
  let v377 := (((List.getD x8 (Int.toNat x12) zt55).1).2).2
  (fulcrumlaw08_sameBound.F ((v2, ((((v3, v4), v5), ((v6, v7), v8)), v9)), (v370, ((((v371, v372), v373), ((v374, v375), v376)), v377)), ())).bind fun y378 =>
  let v379 := not y378.1
  bif v379 then (some (false, ()))
  else (let v380 := not v358
  bif v380 then (let v381 := IntKind.i64.wrap (x12 + (1 : Int))
  f13 x3_0 x3_1 x3_2 x3_3 x3_4 x3_5 x3_6 x3_7 x3_8 x3_9 x7 x8 x9_0 x9_1 x10 x11 v381)
  else (let v382 := not v2
  bif v382 then (some (false, ()))
  else (let v383 := (v9 != x3_8)
  bif v383 then (some (false, ()))
  else ((fulcrumref05_Cmp.F ((((v3, v4), v5), ((v6, v7), v8)), (((x3_2, x3_3), x3_4), ((x3_5, x3_6), x3_7)), ())).bind fun y384 =>
  let v385 := (y384.1 != (0 : Int))
  bif v385 then (some (false, ()))
  else (bif decide (0 ≤ x12) && decide (x12 < (List.length x8 : Int)) then (let v386 := ((List.getD x8 (Int.toNat x12) zt55).1).1
  bif v386 then (bif decide (0 ≤ x12) && decide (x12 < (List.length x8 : Int)) then (let v387 := ((((((List.getD x8 (Int.toNat x12) zt55).1).2).1).1).1).1
  let v388 := ((((((List.getD x8 (Int.toNat x12) zt55).1).2).1).1).1).2
  let v389 := (((((List.getD x8 (Int.toNat x12) zt55).1).2).1).1).2
  let v390 := ((((((List.getD x8 (Int.toNat x12) zt55).1).2).1).2).1).1
  let v391 := ((((((List.getD x8 (Int.toNat x12) zt55).1).2).1).2).1).2
  let v392 := (((((List.getD x8 (Int.toNat x12) zt55).1).2).1).2).2
  (fulcrumref05_Cmp.F ((((v3, v4), v5), ((v6, v7), v8)), (((v387, v388), v389), ((v390, v391), v392)), ())).bind fun y393 =>
  let v394 := decide (y393.1 ≤ (0 : Int))
  bif v394 then (some (false, ()))
  else (let v395 := IntKind.i64.wrap (x12 + (1 : Int))
  f13 x3_0 x3_1 x3_2 x3_3 x3_4 x3_5 x3_6 x3_7 x3_8 x3_9 x7 x8 x9_0 x9_1 x10 x11 v395))
  else none)
  else (let v396 := IntKind.i64.wrap (x12 + (1 : Int))
  f13 x3_0 x3_1 x3_2 x3_3 x3_4 x3_5 x3_6 x3_7 x3_8 x3_9 x7 x8 x9_0 x9_1 x10 x11 v396))
  else none))))))
  else none)
  else (let v397 := not v358
  bif v397 then (let v398 := IntKind.i64.wrap (x12 + (1 : Int))
  f13 x3_0 x3_1 x3_2 x3_3 x3_4 x3_5 x3_6 x3_7 x3_8 x3_9 x7 x8 x9_0 x9_1 x10 x11 v398)
  else (let v399 := not v2
  bif v399 then (some (false, ()))
  else (let v400 := (v9 != x3_8)
  bif v400 then (some (false, ()))
  else ((fulcrumref05_Cmp.F ((((v3, v4), v5), ((v6, v7), v8)), (((x3_2, x3_3), x3_4), ((x3_5, x3_6), x3_7)), ())).bind fun y401 =>
  let v402 := (y401.1 != (0 : Int))
  bif v402 then (some (false, ()))
  else (bif decide (0 ≤ x12) && decide (x12 < (List.length x8 : Int)) then (let v403 := ((List.getD x8 (Int.toNat x12) zt55).1).1
  bif v403 then (bif decide (0 ≤ x12) && decide (x12 < (List.length x8 : Int)) then (let v404 := ((((((List.getD x8 (Int.toNat x12) zt55).1).2).1).1).1).1
  let v405 := ((((((List.getD x8 (Int.toNat x12) zt55).1).2).1).1).1).2
  let v406 := (((((List.getD x8 (Int.toNat x12) zt55).1).2).1).1).2
  let v407 := ((((((List.getD x8 (Int.toNat x12) zt55).1).2).1).2).1).1
  let v408 := ((((((List.getD x8 (Int.toNat x12) zt55).1).2).1).2).1).2
  let v409 := (((((List.getD x8 (Int.toNat x12) zt55).1).2).1).2).2
  (fulcrumref05_Cmp.F ((((v3, v4), v5), ((v6, v7), v8)), (((v404, v405), v406), ((v407, v408), v409)), ())).bind fun y410 =>
  let v411 := decide (y410.1 ≤ (0 : Int))
  bif v411 then (some (false, ()))
  else (let v412 := IntKind.i64.wrap (x12 + (1 : Int))
  f13 x3_0 x3_1 x3_2 x3_3 x3_4 x3_5 x3_6 x3_7 x3_8 x3_9 x7 x8 x9_0 x9_1 x10 x11 v412))
  else none)
  else (let v413 := IntKind.i64.wrap (x12 + (1 : Int))
  f13 x3_0 x3_1 x3_2 x3_3 x3_4 x3_5 x3_6 x3_7 x3_8 x3_9 x7 x8 x9_0 x9_1 x10 x11 v413))
  else none)))))))
  else none)
  else (bif decide (0 ≤ x12) && decide (x12 < (List.length x8 : Int)) then (let v414 := ((List.getD x8 (Int.toNat x12) zt55).2).1
  let v415 := ((((((List.getD x8 (Int.toNat x12) zt55).2).2).1).1).1).1
  let v416 := ((((((List.getD x8 (Int.toNat x12) zt55).2).2).1).1).1).2
  let v417 := (((((List.getD x8 (Int.toNat x12) zt55).2).2).1).1).2
  let v418 := ((((((List.getD x8 (Int.toNat x12) zt55).2).2).1).2).1).1
  let v419 := ((((((List.getD x8 (Int.toNat x12) zt55).2).2).1).2).1).2
  let v420 := (((((List.getD x8 (Int.toNat x12) zt55).2).2).1).2).2
  let v421 := (((List.getD x8 (Int.toNat x12) zt55).2).2).2
  (fulcrumlaw08_sameBound.F ((v10, ((((v11, v12), v13), ((v14, v15), v16)), v17)), (v414, ((((v415, v416), v417), ((v418, v419), v420)), v421)), ())).bind fun y422 =>
  let v423 := not y422.1
  bif v423 then (some (false, ()))
  else (let v424 := not false
  bif v424 then (bif decide (0 ≤ x12) && decide (x12 < (List.length x8 : Int)) then (let v425 := ((List.getD x8 (Int.toNat x12) zt55).1).1
  let v426 := ((((((List.getD x8 (Int.toNat x12) zt55).1).2).1).1).1).1
  let v427 := ((((((List.getD x8 (Int.toNat x12) zt55).1).2).1).1).1).2
  let v428 := (((((List.getD x8 (Int.toNat x12) zt55).1).2).1).1).2
  let v429 := ((((((List.getD x8 (Int.toNat x12) zt55).1).2).1).2).1).1
  let v430 := ((((((List.getD x8 (Int.toNat x12) zt55).1).2).1).2).1).2
  let v431 := (((((List.getD x8 (Int.toNat x12) zt55).1).2).1).2).2
  let v432 := (((List.getD x8 (Int.toNat x12) zt55).1).2).2
  (fulcrumlaw08_sameBound.F ((v2, ((((v3, v4), v5), ((v6, v7), v8)), v9)), (v425, ((((v426, v427), v428), ((v429, v430), v431)), v432)), ())).bind fun y433 =>
  let v434 := not y433.1
  bif v434 then (some (false, ()))
  else (let v435 := not false
  bif v435 then (let v436 := IntKind.i64.wrap (x12 + (1 : Int))
  f13 x3_0 x3_1 x3_2 x3_3 x3_4 x3_5 x3_6 x3_7 x3_8 x3_9 x7 x8 x9_0 x9_1 x10 x11 v436)
  else (let v437 := not v2
  bif v437 then (some (false, ()))
  else (let v438 := (v9 != x3_8)
  bif v438 then (some (false, ()))
  else ((fulcrumref05_Cmp.F ((((v3, v4), v5), ((v6, v7), v8)), (((x3_2, x3_3), x3_4), ((x3_5, x3_6), x3_7)), ())).bind fun y439 =>
  let v440 := (y439.1 != (0 : Int))
  bif v440 then (some (false, ()))
  else (bif decide (0 ≤ x12) && decide (x12 < (List.length x8 : Int)) then (let v441 := ((List.getD x8 (Int.toNat x12) zt55).1).1
  bif v441 then (bif decide (0 ≤ x12) && decide (x12 < (List.length x8 : Int)) then (let v442 := ((((((List.getD x8 (Int.toNat x12) zt55).1).2).1).1).1).1
  let v443 := ((((((List.getD x8 (Int.toNat x12) zt55).1).2).1).1).1).2
  let v444 := (((((List.getD x8 (Int.toNat x12) zt55).1).2).1).1).2
  let v445 := ((((((List.getD x8 (Int.toNat x12) zt55).1).2).1).2).1).1
  let v446 := ((((((List.getD x8 (Int.toNat x12) zt55).1).2).1).2).1).2
  let v447 := (((((List.getD x8 (Int.toNat x12) zt55).1).2).1).2).2
  (fulcrumref05_Cmp.F ((((v3, v4), v5), ((v6, v7), v8)), (((v442, v443), v444), ((v445, v446), v447)), ())).bind fun y448 =>
  let v449 := decide (y448.1 ≤ (0 : Int))
  bif v449 then (some (false, ()))
  else (let v450 := IntKind.i64.wrap (x12 + (1 : Int))
  f13 x3_0 x3_1 x3_2 x3_3 x3_4 x3_5 x3_6 x3_7 x3_8 x3_9 x7 x8 x9_0 x9_1 x10 x11 v450))
  else none)
  else (let v451 := IntKind.i64.wrap (x12 + (1 : Int))
  f13 x3_0 x3_1 x3_2 x3_3 x3_4 x3_5 x3_6 x3_7 x3_8 x3_9 x7 x8 x9_0 x9_1 x10 x11 v451))
  else none))))))
  else none)
  else (let v452 := not false
  bif v452 then (let v453 := IntKind.i64.wrap (x12 + (1 : Int))
  f13 x3_0 x3_1 x3_2 x3_3 x3_4 x3_5 x3_6 x3_7 x3_8 x3_9 x7 x8 x9_0 x9_1 x10 x11 v453)
  else (let v454 := not v2
  bif v454 then (some (false, ()))
  else (let v455 := (v9 != x3_8)
  bif v455 then (some (false, ()))
  else ((fulcrumref05_Cmp.F ((((v3, v4), v5), ((v6, v7), v8)), (((x3_2, x3_3), x3_4), ((x3_5, x3_6), x3_7)), ())).bind fun y456 =>
  let v457 := (y456.1 != (0 : Int))
  bif v457 then (some (false, ()))
  else (bif decide (0 ≤ x12) && decide (x12 < (List.length x8 : Int)) then (let v458 := ((List.getD x8 (Int.toNat x12) zt55).1).1
  bif v458 then (bif decide (0 ≤ x12) && decide (x12 < (List.length x8 : Int)) then (let v459 := ((((((List.getD x8 (Int.toNat x12) zt55).1).2).1).1).1).1
  let v460 := ((((((List.getD x8 (Int.toNat x12) zt55).1).2).1).1).1).2
  let v461 := (((((List.getD x8 (Int.toNat x12) zt55).1).2).1).1).2
  let v462 := ((((((List.getD x8 (Int.toNat x12) zt55).1).2).1).2).1).1
  let v463 := ((((((List.getD x8 (Int.toNat x12) zt55).1).2).1).2).1).2
  let v464 := (((((List.getD x8 (Int.toNat x12) zt55).1).2).1).2).2
  (fulcrumref05_Cmp.F ((((v3, v4), v5), ((v6, v7), v8)), (((v459, v460), v461), ((v462, v463), v464)), ())).bind fun y465 =>
  let v466 := decide (y465.1 ≤ (0 : Int))
  bif v466 then (some (false, ()))
  else (let v467 := IntKind.i64.wrap (x12 + (1 : Int))
  f13 x3_0 x3_1 x3_2 x3_3 x3_4 x3_5 x3_6 x3_7 x3_8 x3_9 x7 x8 x9_0 x9_1 x10 x11 v467))
  else none)
  else (let v468 := IntKind.i64.wrap (x12 + (1 : Int))
  f13 x3_0 x3_1 x3_2 x3_3 x3_4 x3_5 x3_6 x3_7 x3_8 x3_9 x7 x8 x9_0 x9_1 x10 x11 v468))
  else none)))))))
  else none))
  else (bif decide (0 ≤ x12) && decide (x12 < (List.length x8 : Int)) then (let v469 := ((List.getD x8 (Int.toNat x12) zt55).2).1
  let v470 := ((((((List.getD x8 (Int.toNat x12) zt55).2).2).1).1).1).1
  let v471 := ((((((List.getD x8 (Int.toNat x12) zt55).2).2).1).1).1).2
  let v472 := (((((List.getD x8 (Int.toNat x12) zt55).2).2).1).1).2
  let v473 := ((((((List.getD x8 (Int.toNat x12) zt55).2).2).1).2).1).1
  let v474 := ((((((List.getD x8 (Int.toNat x12) zt55).2).2).1).2).1).2
  let v475 := (((((List.getD x8 (Int.toNat x12) zt55).2).2).1).2).2
  let v476 := (((List.getD x8 (Int.toNat x12) zt55).2).2).2
  (fulcrumlaw08_sameBound.F ((v10, ((((v11, v12), v13), ((v14, v15), v16)), v17)), (v469, ((((v470, v471), v472), ((v473, v474), v475)), v476)), ())).bind fun y477 =>
  let v478 := not y477.1
  bif v478 then (some (false, ()))
  else (let v479 := not false
  bif v479 then (bif decide (0 ≤ x12) && decide (x12 < (List.length x8 : Int)) then (let v480 := ((List.getD x8 (Int.toNat x12) zt55).1).1
  let v481 := ((((((List.getD x8 (Int.toNat x12) zt55).1).2).1).1).1).1
  let v482 := ((((((List.getD x8 (Int.toNat x12) zt55).1).2).1).1).1).2
  let v483 := (((((List.getD x8 (Int.toNat x12) zt55).1).2).1).1).2
  let v484 := ((((((List.getD x8 (Int.toNat x12) zt55).1).2).1).2).1).1
  let v485 := ((((((List.getD x8 (Int.toNat x12) zt55).1).2).1).2).1).2
  let v486 := (((((List.getD x8 (Int.toNat x12) zt55).1).2).1).2).2
  let v487 := (((List.getD x8 (Int.toNat x12) zt55).1).2).2
  (fulcrumlaw08_sameBound.F ((v2, ((((v3, v4), v5), ((v6, v7), v8)), v9)), (v480, ((((v481, v482), v483), ((v484, v485), v486)), v487)), ())).bind fun y488 =>
  let v489 := not y488.1
  bif v489 then (some (false, ()))
  else (let v490 := not false
  bif v490 then (let v491 := IntKind.i64.wrap (x12 + (1 : Int))
  f13 x3_0 x3_1 x3_2 x3_3 x3_4 x3_5 x3_6 x3_7 x3_8 x3_9 x7 x8 x9_0 x9_1 x10 x11 v491)
  else (let v492 := not v2
  bif v492 then (some (false, ()))
  else (let v493 := (v9 != x3_8)
  bif v493 then (some (false, ()))
  else ((fulcrumref05_Cmp.F ((((v3, v4), v5), ((v6, v7), v8)), (((x3_2, x3_3), x3_4), ((x3_5, x3_6), x3_7)), ())).bind fun y494 =>
  let v495 := (y494.1 != (0 : Int))
  bif v495 then (some (false, ()))
  else (bif decide (0 ≤ x12) && decide (x12 < (List.length x8 : Int)) then (let v496 := ((List.getD x8 (Int.toNat x12) zt55).1).1
  bif v496 then (bif decide (0 ≤ x12) && decide (x12 < (List.length x8 : Int)) then (let v497 := ((((((List.getD x8 (Int.toNat x12) zt55).1).2).1).1).1).1
  let v498 := ((((((List.getD x8 (Int.toNat x12) zt55).1).2).1).1).1).2
  let v499 := (((((List.getD x8 (Int.toNat x12) zt55).1).2).1).1).2
  let v500 := ((((((List.getD x8 (Int.toNat x12) zt55).1).2).1).2).1).1
  let v501 := ((((((List.getD x8 (Int.toNat x12) zt55).1).2).1).2).1).2
  let v502 := (((((List.getD x8 (Int.toNat x12) zt55).1).2).1).2).2
  (fulcrumref05_Cmp.F ((((v3, v4), v5), ((v6, v7), v8)), (((v497, v498), v499), ((v500, v501), v502)), ())).bind fun y503 =>
  let v504 := decide (y503.1 ≤ (0 : Int))
  bif v504 then (some (false, ()))
  else (let v505 := IntKind.i64.wrap (x12 + (1 : Int))
  f13 x3_0 x3_1 x3_2 x3_3 x3_4 x3_5 x3_6 x3_7 x3_8 x3_9 x7 x8 x9_0 x9_1 x10 x11 v505))
  else none)
  else (let v506 := IntKind.i64.wrap (x12 + (1 : Int))
  f13 x3_0 x3_1 x3_2 x3_3 x3_4 x3_5 x3_6 x3_7 x3_8 x3_9 x7 x8 x9_0 x9_1 x10 x11 v506))
  else none))))))
  else none)
  else (let v507 := not false
  bif v507 then (let v508 := IntKind.i64.wrap (x12 + (1 : Int))
  f13 x3_0 x3_1 x3_2 x3_3 x3_4 x3_5 x3_6 x3_7 x3_8 x3_9 x7 x8 x9_0 x9_1 x10 x11 v508)
  else (let v509 := not v2
  bif v509 then (some (false, ()))
  else (let v510 := (v9 != x3_8)
  bif v510 then (some (false, ()))
  else ((fulcrumref05_Cmp.F ((((v3, v4), v5), ((v6, v7), v8)), (((x3_2, x3_3), x3_4), ((x3_5, x3_6), x3_7)), ())).bind fun y511 =>
  let v512 := (y511.1 != (0 : Int))
  bif v512 then (some (false, ()))
  else (bif decide (0 ≤ x12) && decide (x12 < (List.length x8 : Int)) then (let v513 := ((List.getD x8 (Int.toNat x12) zt55).1).1
  bif v513 then (bif decide (0 ≤ x12) && decide (x12 < (List.length x8 : Int)) then (let v514 := ((((((List.getD x8 (Int.toNat x12) zt55).1).2).1).1).1).1
  let v515 := ((((((List.getD x8 (Int.toNat x12) zt55).1).2).1).1).1).2
  let v516 := (((((List.getD x8 (Int.toNat x12) zt55).1).2).1).1).2
  let v517 := ((((((List.getD x8 (Int.toNat x12) zt55).1).2).1).2).1).1
  let v518 := ((((((List.getD x8 (Int.toNat x12) zt55).1).2).1).2).1).2
  let v519 := (((((List.getD x8 (Int.toNat x12) zt55).1).2).1).2).2
  (fulcrumref05_Cmp.F ((((v3, v4), v5), ((v6, v7), v8)), (((v514, v515), v516), ((v517, v518), v519)), ())).bind fun y520 =>
  let v521 := decide (y520.1 ≤ (0 : Int))
  bif v521 then (some (false, ()))
  else (let v522 := IntKind.i64.wrap (x12 + (1 : Int))
  f13 x3_0 x3_1 x3_2 x3_3 x3_4 x3_5 x3_6 x3_7 x3_8 x3_9 x7 x8 x9_0 x9_1 x10 x11 v522))
  else none)
  else (let v523 := IntKind.i64.wrap (x12 + (1 : Int))
  f13 x3_0 x3_1 x3_2 x3_3 x3_4 x3_5 x3_6 x3_7 x3_8 x3_9 x7 x8 x9_0 x9_1 x10 x11 v523))
  else none)))))))
  else none)))
  else none)
  else (some (true, ()))
noncomputable def fulcrumlaw08_BoundsTightens.e (f13 : Int → Int → Bool → Dt41 → Dt41 → Bool → Dt41 → Dt41 → Int → Dt48 → Int → Dt26 → Int → Int → Int → Dt26 → Int → Option (Bool × Unit)) (a0 : Dt60) (a1 : Dt50) : Option (Bool × Unit) :=
  let v1 := decide (a0.1 < (0 : Int))
  bif v1 then ((fulcrumlaw08_played.F () (((2 : Int), a0.2), ())).bind fun y2 =>
  match y2.1 with
  | none => (some (false, ()))
  | some z3 => ((bounds_Store_Vars.F ((z3.1.1, z3.1.2), (z3.2.1, z3.2.2)) ()).bind fun y4 =>
  (fulcrumlaw08_limits.F ((y4.2.2.1.1, y4.2.2.1.2), (y4.2.2.2.1, y4.2.2.2.2)) (y4.2.1.1, ())).bind fun y5 =>
  (bounds_Store_Lift.F ((y5.2.2.1.1, y5.2.2.1.2), (y5.2.2.2.1, y5.2.2.2.2)) (a1.2.1, (((a1.2.2.1.1.1.1, a1.2.2.1.1.1.2), a1.2.2.1.1.2), ((a1.2.2.1.2.1.1, a1.2.2.1.2.1.2), a1.2.2.1.2.2)), a1.2.2.2.1, ())).bind fun y6 =>
  (fulcrumlaw08_limits.F ((y6.2.2.1.1, y6.2.2.1.2), (y6.2.2.2.1, y6.2.2.2.2)) (y4.2.1.1, ())).bind fun y7 =>
  let v8 := (y6.2.1.2.1 == (0 : Int))
  let v9 := decide (a1.2.1 ≥ (0 : Int))
  bif v9 then (let v10 := decide (a1.2.1 < y4.2.1.1)
  let v11 := (!(v8 == v10))
  bif v11 then (some (false, ()))
  else (f13 a1.1 a1.2.1 a1.2.2.1.1.1.1 a1.2.2.1.1.1.2 a1.2.2.1.1.2 a1.2.2.1.2.1.1 a1.2.2.1.2.1.2 a1.2.2.1.2.2 a1.2.2.2.1 a1.2.2.2.2 y4.2.1.1 y5.2.1.1 y6.2.1.1.1 y6.2.1.1.2 y6.2.1.2.1 y7.2.1.1 (0 : Int)))
  else (let v12 := (!(v8 == false))
  bif v12 then (some (false, ()))
  else (f13 a1.1 a1.2.1 a1.2.2.1.1.1.1 a1.2.2.1.1.1.2 a1.2.2.1.1.2 a1.2.2.1.2.1.1 a1.2.2.1.2.1.2 a1.2.2.1.2.2 a1.2.2.2.1 a1.2.2.2.2 y4.2.1.1 y5.2.1.1 y6.2.1.1.1 y6.2.1.1.2 y6.2.1.2.1 y7.2.1.1 (0 : Int)))))
  else (let v13 := decide (a0.1 > (65536 : Int))
  bif v13 then ((fulcrumlaw08_played.F () (((2 : Int), a0.2), ())).bind fun y14 =>
  match y14.1 with
  | none => (some (false, ()))
  | some z15 => ((bounds_Store_Vars.F ((z15.1.1, z15.1.2), (z15.2.1, z15.2.2)) ()).bind fun y16 =>
  (fulcrumlaw08_limits.F ((y16.2.2.1.1, y16.2.2.1.2), (y16.2.2.2.1, y16.2.2.2.2)) (y16.2.1.1, ())).bind fun y17 =>
  (bounds_Store_Lift.F ((y17.2.2.1.1, y17.2.2.1.2), (y17.2.2.2.1, y17.2.2.2.2)) (a1.2.1, (((a1.2.2.1.1.1.1, a1.2.2.1.1.1.2), a1.2.2.1.1.2), ((a1.2.2.1.2.1.1, a1.2.2.1.2.1.2), a1.2.2.1.2.2)), a1.2.2.2.1, ())).bind fun y18 =>
  (fulcrumlaw08_limits.F ((y18.2.2.1.1, y18.2.2.1.2), (y18.2.2.2.1, y18.2.2.2.2)) (y16.2.1.1, ())).bind fun y19 =>
  let v20 := (y18.2.1.2.1 == (0 : Int))
  let v21 := decide (a1.2.1 ≥ (0 : Int))
  bif v21 then (let v22 := decide (a1.2.1 < y16.2.1.1)
  let v23 := (!(v20 == v22))
  bif v23 then (some (false, ()))
  else (f13 a1.1 a1.2.1 a1.2.2.1.1.1.1 a1.2.2.1.1.1.2 a1.2.2.1.1.2 a1.2.2.1.2.1.1 a1.2.2.1.2.1.2 a1.2.2.1.2.2 a1.2.2.2.1 a1.2.2.2.2 y16.2.1.1 y17.2.1.1 y18.2.1.1.1 y18.2.1.1.2 y18.2.1.2.1 y19.2.1.1 (0 : Int)))
  else (let v24 := (!(v20 == false))
  bif v24 then (some (false, ()))
  else (f13 a1.1 a1.2.1 a1.2.2.1.1.1.1 a1.2.2.1.1.1.2 a1.2.2.1.1.2 a1.2.2.1.2.1.1 a1.2.2.1.2.1.2 a1.2.2.1.2.2 a1.2.2.2.1 a1.2.2.2.2 y16.2.1.1 y17.2.1.1 y18.2.1.1.1 y18.2.1.1.2 y18.2.1.2.1 y19.2.1.1 (0 : Int)))))
  else ((fulcrumlaw08_played.F () ((a0.1, a0.2), ())).bind fun y25 =>
  match y25.1 with
  | none => (some (false, ()))
  | some z26 => ((bounds_Store_Vars.F ((z26.1.1, z26.1.2), (z26.2.1, z26.2.2)) ()).bind fun y27 =>
  (fulcrumlaw08_limits.F ((y27.2.2.1.1, y27.2.2.1.2), (y27.2.2.2.1, y27.2.2.2.2)) (y27.2.1.1, ())).bind fun y28 =>
  (bounds_Store_Lift.F ((y28.2.2.1.1, y28.2.2.1.2), (y28.2.2.2.1, y28.2.2.2.2)) (a1.2.1, (((a1.2.2.1.1.1.1, a1.2.2.1.1.1.2), a1.2.2.1.1.2), ((a1.2.2.1.2.1.1, a1.2.2.1.2.1.2), a1.2.2.1.2.2)), a1.2.2.2.1, ())).bind fun y29 =>
  (fulcrumlaw08_limits.F ((y29.2.2.1.1, y29.2.2.1.2), (y29.2.2.2.1, y29.2.2.2.2)) (y27.2.1.1, ())).bind fun y30 =>
  let v31 := (y29.2.1.2.1 == (0 : Int))
  let v32 := decide (a1.2.1 ≥ (0 : Int))
  bif v32 then (let v33 := decide (a1.2.1 < y27.2.1.1)
  let v34 := (!(v31 == v33))
  bif v34 then (some (false, ()))
  else (f13 a1.1 a1.2.1 a1.2.2.1.1.1.1 a1.2.2.1.1.1.2 a1.2.2.1.1.2 a1.2.2.1.2.1.1 a1.2.2.1.2.1.2 a1.2.2.1.2.2 a1.2.2.2.1 a1.2.2.2.2 y27.2.1.1 y28.2.1.1 y29.2.1.1.1 y29.2.1.1.2 y29.2.1.2.1 y30.2.1.1 (0 : Int)))
  else (let v35 := (!(v31 == false))
  bif v35 then (some (false, ()))
  else (f13 a1.1 a1.2.1 a1.2.2.1.1.1.1 a1.2.2.1.1.1.2 a1.2.2.1.1.2 a1.2.2.1.2.1.1 a1.2.2.1.2.1.2 a1.2.2.1.2.2 a1.2.2.2.1 a1.2.2.2.2 y27.2.1.1 y28.2.1.1 y29.2.1.1.1 y29.2.1.1.2 y29.2.1.2.1 y30.2.1.1 (0 : Int))))))
noncomputable def fulcrumlaw08_BoundsTightens.L13 (k : Nat) (x3_0 : Int) (x3_1 : Int) (x3_2 : Bool) (x3_3 : Dt41) (x3_4 : Dt41) (x3_5 : Bool) (x3_6 : Dt41) (x3_7 : Dt41) (x3_8 : Int) (x3_9 : Dt48) (x7 : Int) (x8 : Dt26) (x9_0 : Int) (x9_1 : Int) (x10 : Int) (x11 : Dt26) (x12 : Int) : Option (Bool × Unit) := heads (fulcrumlaw08_BoundsTightens.spec.env fulcrumlaw08_BoundsTightens.cals T Try.f5) (Func.pts Try.f5) k 13 (fulcrumlaw08_BoundsTightens.m13 x3_0 x3_1 x3_2 x3_3 x3_4 x3_5 x3_6 x3_7 x3_8 x3_9 x7 x8 x9_0 x9_1 x10 x11 x12)
theorem fulcrumlaw08_BoundsTightens.L13_succ (k : Nat) (x3_0 : Int) (x3_1 : Int) (x3_2 : Bool) (x3_3 : Dt41) (x3_4 : Dt41) (x3_5 : Bool) (x3_6 : Dt41) (x3_7 : Dt41) (x3_8 : Int) (x3_9 : Dt48) (x7 : Int) (x8 : Dt26) (x9_0 : Int) (x9_1 : Int) (x10 : Int) (x11 : Dt26) (x12 : Int) : fulcrumlaw08_BoundsTightens.L13 (k + 1) x3_0 x3_1 x3_2 x3_3 x3_4 x3_5 x3_6 x3_7 x3_8 x3_9 x7 x8 x9_0 x9_1 x10 x11 x12 = fulcrumlaw08_BoundsTightens.b13 (fulcrumlaw08_BoundsTightens.L13 k) x3_0 x3_1 x3_2 x3_3 x3_4 x3_5 x3_6 x3_7 x3_8 x3_9 x7 x8 x9_0 x9_1 x10 x11 x12 := by kernel_rfl
theorem fulcrumlaw08_BoundsTightens.eval (k : Nat) (a0 : Dt60) (a1 : Dt50) : evalF fulcrumlaw08_BoundsTightens.spec fulcrumlaw08_BoundsTightens.cals T Try.f5 k (a0, a1, ()) = fulcrumlaw08_BoundsTightens.e (fulcrumlaw08_BoundsTightens.L13 k) a0 a1 := by kernel_rfl
theorem fulcrumlaw08_BoundsTightens.F_eq (a0 : Dt60) (a1 : Dt50) : fulcrumlaw08_BoundsTightens.F (a0, a1, ()) = limF fulcrumlaw08_BoundsTightens.spec fulcrumlaw08_BoundsTightens.cals T Try.f5 (a0, a1, ()) := by kernel_rfl
theorem fulcrumlaw08_BoundsTightens.of (k : Nat) (a0 : Dt60) (a1 : Dt50) {y : Bool × Unit} (h : fulcrumlaw08_BoundsTightens.e (fulcrumlaw08_BoundsTightens.L13 k) a0 a1 = some y) : fulcrumlaw08_BoundsTightens.F (a0, a1, ()) = some y := (fulcrumlaw08_BoundsTightens.F_eq a0 a1).trans (limF_of (q := fulcrumlaw08_BoundsTightens.spec) (C := fulcrumlaw08_BoundsTightens.cals) (T := T) (f := Try.f5) (x := (a0, a1, ())) (y := y) k ((fulcrumlaw08_BoundsTightens.eval k a0 a1).trans h))

def bounds_Store_Level.spec : XSpec := ⟨some ⟨75, 0, Kt75, 0⟩, false, [], false, none, [(false, (.int .i64))], false, fun j => match j with  | _ => []⟩
noncomputable def bounds_Store_Level.cals : Cals := (Cals.consX 31 false bounds_Store_is.sig (Cals.base tabs))
noncomputable def bounds_Store_Level.sig : XSig := bounds_Store_Level.spec.sig bounds_Store_Level.cals T Try.f13
noncomputable def bounds_Store_Level.F (d : Dt75) (x : Unit) : Option (Unit × (Int × Unit) × Dt75) := limX bounds_Store_Level.spec bounds_Store_Level.cals T Try.f13 d x
theorem bounds_Store_Level.ck : CalsOk Try.prog bounds_Store_Level.cals := (CalsOk.consX bounds_Store_is.cal (CalsOk.base tabsOk))
theorem bounds_Store_Level.cal : XOk Try.prog tabs 13 bounds_Store_Level.sig := xok_of tabOk bounds_Store_Level.ck mix Try.func13 (by kernel_rfl) (by kernel_rfl) (by kernel_rfl) (by kernel_rfl)
noncomputable def bounds_Store_Level.e  (G : Gh) (d : Dt75)  : Option ((Unit × (Int × Unit) × Dt75) × Nat × List Value) :=
  (bounds_Store_is.F ((d.1.1, d.1.2), (d.2.1, d.2.2)) ()).bind fun y1 =>
  let v2 := not y1.2.1.1
  bif v2 then (some (((), ((0 : Int), ()), ((y1.2.2.1.1, y1.2.2.1.2), (y1.2.2.2.1, y1.2.2.2.2))), G.b, []))
  else (some (((), (y1.2.2.1.1, ()), ((y1.2.2.1.1, y1.2.2.1.2), (y1.2.2.2.1, y1.2.2.2.2))), G.b, []))
theorem bounds_Store_Level.eval (k : Nat) (G : Gh) (d : Dt75)  : evalX bounds_Store_Level.spec bounds_Store_Level.cals T Try.f13 k G d () = bounds_Store_Level.e  G d  := by kernel_rfl
theorem bounds_Store_Level.of (d : Dt75)  (y : (Unit × (Int × Unit) × Dt75)) (h : ∀ G : Gh, ∃ k : Nat, bounds_Store_Level.e  G d  = some (y, (G.b, []))) : bounds_Store_Level.F d () = some y := limX_of (q := bounds_Store_Level.spec) (C := bounds_Store_Level.cals) (T := T) (f := Try.f13) (d := d) (x := ()) y fun G => (h G).imp fun k hk => (bounds_Store_Level.eval k G d ).trans hk

def fulcrumlaw08_sameLimit.spec : Spec := ⟨[(true, Kt55), (true, Kt55)], [(false, .bool)], .own, fun j => match j with  | _ => []⟩
noncomputable def fulcrumlaw08_sameLimit.cals : Cals := (Cals.cons 20 fulcrumlaw08_sameBound.sig (Cals.base tabs))
noncomputable def fulcrumlaw08_sameLimit.sig : Sig := fulcrumlaw08_sameLimit.spec.sig fulcrumlaw08_sameLimit.cals T Try.f43
noncomputable def fulcrumlaw08_sameLimit.F (x : Dt55 × Dt55 × Unit) : Option (Bool × Unit) := limF fulcrumlaw08_sameLimit.spec fulcrumlaw08_sameLimit.cals T Try.f43 x
theorem fulcrumlaw08_sameLimit.ck : CalsOk Try.prog fulcrumlaw08_sameLimit.cals := (CalsOk.cons fulcrumlaw08_sameBound.cal (CalsOk.base tabsOk))
theorem fulcrumlaw08_sameLimit.cal : CalOk Try.prog tabs 43 fulcrumlaw08_sameLimit.sig := calOk_lim' tabOk fulcrumlaw08_sameLimit.ck mix Try.func43 (by kernel_rfl) (by kernel_rfl) (by kernel_rfl) (by kernel_rfl)
noncomputable def fulcrumlaw08_sameLimit.e  (a0 : Dt55) (a1 : Dt55) : Option (Bool × Unit) :=
  (fulcrumlaw08_sameBound.F ((a0.1.1, ((((a0.1.2.1.1.1.1, a0.1.2.1.1.1.2), a0.1.2.1.1.2), ((a0.1.2.1.2.1.1, a0.1.2.1.2.1.2), a0.1.2.1.2.2)), a0.1.2.2)), (a1.1.1, ((((a1.1.2.1.1.1.1, a1.1.2.1.1.1.2), a1.1.2.1.1.2), ((a1.1.2.1.2.1.1, a1.1.2.1.2.1.2), a1.1.2.1.2.2)), a1.1.2.2)), ())).bind fun y1 =>
  bif y1.1 then ((fulcrumlaw08_sameBound.F ((a0.2.1, ((((a0.2.2.1.1.1.1, a0.2.2.1.1.1.2), a0.2.2.1.1.2), ((a0.2.2.1.2.1.1, a0.2.2.1.2.1.2), a0.2.2.1.2.2)), a0.2.2.2)), (a1.2.1, ((((a1.2.2.1.1.1.1, a1.2.2.1.1.1.2), a1.2.2.1.1.2), ((a1.2.2.1.2.1.1, a1.2.2.1.2.1.2), a1.2.2.1.2.2)), a1.2.2.2)), ())).bind fun y2 =>
  some (y2.1, ()))
  else (some (false, ()))
theorem fulcrumlaw08_sameLimit.eval (k : Nat) (a0 : Dt55) (a1 : Dt55) : evalF fulcrumlaw08_sameLimit.spec fulcrumlaw08_sameLimit.cals T Try.f43 k (a0, a1, ()) = fulcrumlaw08_sameLimit.e  a0 a1 := by kernel_rfl
theorem fulcrumlaw08_sameLimit.F_eq (a0 : Dt55) (a1 : Dt55) : fulcrumlaw08_sameLimit.F (a0, a1, ()) = limF fulcrumlaw08_sameLimit.spec fulcrumlaw08_sameLimit.cals T Try.f43 (a0, a1, ()) := by kernel_rfl
theorem fulcrumlaw08_sameLimit.of (k : Nat) (a0 : Dt55) (a1 : Dt55) {y : Bool × Unit} (h : fulcrumlaw08_sameLimit.e  a0 a1 = some y) : fulcrumlaw08_sameLimit.F (a0, a1, ()) = some y := (fulcrumlaw08_sameLimit.F_eq a0 a1).trans (limF_of (q := fulcrumlaw08_sameLimit.spec) (C := fulcrumlaw08_sameLimit.cals) (T := T) (f := Try.f43) (x := (a0, a1, ())) (y := y) k ((fulcrumlaw08_sameLimit.eval k a0 a1).trans h))

def fulcrumlaw08_sameLimits.spec : Spec := ⟨[(false, Kt26), (false, Kt26)], [(false, .bool)], .own, fun j => match j with | 4 => [(0, .lf (.z 55 Kt55 false)), (1, .lf (.z 55 Kt55 false)), (5, .lf (.v true))] | _ => []⟩
noncomputable def fulcrumlaw08_sameLimits.cals : Cals := (Cals.cons 43 fulcrumlaw08_sameLimit.sig (Cals.base tabs))
noncomputable def fulcrumlaw08_sameLimits.sig : Sig := fulcrumlaw08_sameLimits.spec.sig fulcrumlaw08_sameLimits.cals T Try.f24
noncomputable def fulcrumlaw08_sameLimits.F (x : Dt26 × Dt26 × Unit) : Option (Bool × Unit) := limF fulcrumlaw08_sameLimits.spec fulcrumlaw08_sameLimits.cals T Try.f24 x
theorem fulcrumlaw08_sameLimits.ck : CalsOk Try.prog fulcrumlaw08_sameLimits.cals := (CalsOk.cons fulcrumlaw08_sameLimit.cal (CalsOk.base tabsOk))
theorem fulcrumlaw08_sameLimits.cal : CalOk Try.prog tabs 24 fulcrumlaw08_sameLimits.sig := calOk_lim' tabOk fulcrumlaw08_sameLimits.ck mix Try.func24 (by kernel_rfl) (by kernel_rfl) (by kernel_rfl) (by kernel_rfl)
def fulcrumlaw08_sameLimits.m4 (x0 : Dt26) (x1 : Dt26) (x5 : Int) : S := ⟨[(0, .one (.lf (.val false Kt26 x0))), (1, .one (.lf (.val false Kt26 x1))), (5, .one (.lf (.val true (.int .i64) x5)))], ⟨[], []⟩⟩
noncomputable def fulcrumlaw08_sameLimits.b4 (f4 : Dt26 → Dt26 → Int → Option (Bool × Unit)) (x0 : Dt26) (x1 : Dt26) (x5 : Int) : Option (Bool × Unit) :=
  let v1 := (List.length x0 : Int)
  let v2 := decide (x5 < v1)
  bif v2 then (bif decide (0 ≤ x5) && decide (x5 < (List.length x0 : Int)) then (let v3 := ((List.getD x0 (Int.toNat x5) zt55).1).1
  let v4 := ((((((List.getD x0 (Int.toNat x5) zt55).1).2).1).1).1).1
  let v5 := ((((((List.getD x0 (Int.toNat x5) zt55).1).2).1).1).1).2
  let v6 := (((((List.getD x0 (Int.toNat x5) zt55).1).2).1).1).2
  let v7 := ((((((List.getD x0 (Int.toNat x5) zt55).1).2).1).2).1).1
  let v8 := ((((((List.getD x0 (Int.toNat x5) zt55).1).2).1).2).1).2
  let v9 := (((((List.getD x0 (Int.toNat x5) zt55).1).2).1).2).2
  let v10 := (((List.getD x0 (Int.toNat x5) zt55).1).2).2
  let v11 := ((List.getD x0 (Int.toNat x5) zt55).2).1
  let v12 := ((((((List.getD x0 (Int.toNat x5) zt55).2).2).1).1).1).1
  let v13 := ((((((List.getD x0 (Int.toNat x5) zt55).2).2).1).1).1).2
  let v14 := (((((List.getD x0 (Int.toNat x5) zt55).2).2).1).1).2
  let v15 := ((((((List.getD x0 (Int.toNat x5) zt55).2).2).1).2).1).1
  let v16 := ((((((List.getD x0 (Int.toNat x5) zt55).2).2).1).2).1).2
  let v17 := (((((List.getD x0 (Int.toNat x5) zt55).2).2).1).2).2
  let v18 := (((List.getD x0 (Int.toNat x5) zt55).2).2).2
  bif decide (0 ≤ x5) && decide (x5 < (List.length x1 : Int)) then (let v19 := ((List.getD x1 (Int.toNat x5) zt55).1).1
  let v20 := ((((((List.getD x1 (Int.toNat x5) zt55).1).2).1).1).1).1
  let v21 := ((((((List.getD x1 (Int.toNat x5) zt55).1).2).1).1).1).2
  let v22 := (((((List.getD x1 (Int.toNat x5) zt55).1).2).1).1).2
  let v23 := ((((((List.getD x1 (Int.toNat x5) zt55).1).2).1).2).1).1
  let v24 := ((((((List.getD x1 (Int.toNat x5) zt55).1).2).1).2).1).2
  let v25 := (((((List.getD x1 (Int.toNat x5) zt55).1).2).1).2).2
  let v26 := (((List.getD x1 (Int.toNat x5) zt55).1).2).2
  let v27 := ((List.getD x1 (Int.toNat x5) zt55).2).1
  let v28 := ((((((List.getD x1 (Int.toNat x5) zt55).2).2).1).1).1).1
  let v29 := ((((((List.getD x1 (Int.toNat x5) zt55).2).2).1).1).1).2
  let v30 := (((((List.getD x1 (Int.toNat x5) zt55).2).2).1).1).2
  let v31 := ((((((List.getD x1 (Int.toNat x5) zt55).2).2).1).2).1).1
  let v32 := ((((((List.getD x1 (Int.toNat x5) zt55).2).2).1).2).1).2
  let v33 := (((((List.getD x1 (Int.toNat x5) zt55).2).2).1).2).2
  let v34 := (((List.getD x1 (Int.toNat x5) zt55).2).2).2
  (fulcrumlaw08_sameLimit.F (((v3, ((((v4, v5), v6), ((v7, v8), v9)), v10)), (v11, ((((v12, v13), v14), ((v15, v16), v17)), v18))), ((v19, ((((v20, v21), v22), ((v23, v24), v25)), v26)), (v27, ((((v28, v29), v30), ((v31, v32), v33)), v34))), ())).bind fun y35 =>
  let v36 := not y35.1
  bif v36 then (some (false, ()))
  else (let v37 := IntKind.i64.wrap (x5 + (1 : Int))
  f4 x0 x1 v37))
  else none)
  else none)
  else (some (true, ()))
noncomputable def fulcrumlaw08_sameLimits.e (f4 : Dt26 → Dt26 → Int → Option (Bool × Unit)) (a0 : Dt26) (a1 : Dt26) : Option (Bool × Unit) :=
  let v1 := (List.length a0 : Int)
  let v2 := (List.length a1 : Int)
  let v3 := (v1 != v2)
  bif v3 then (some (false, ()))
  else (f4 a0 a1 (0 : Int))
noncomputable def fulcrumlaw08_sameLimits.L4 (k : Nat) (x0 : Dt26) (x1 : Dt26) (x5 : Int) : Option (Bool × Unit) := heads (fulcrumlaw08_sameLimits.spec.env fulcrumlaw08_sameLimits.cals T Try.f24) (Func.pts Try.f24) k 4 (fulcrumlaw08_sameLimits.m4 x0 x1 x5)
theorem fulcrumlaw08_sameLimits.L4_succ (k : Nat) (x0 : Dt26) (x1 : Dt26) (x5 : Int) : fulcrumlaw08_sameLimits.L4 (k + 1) x0 x1 x5 = fulcrumlaw08_sameLimits.b4 (fulcrumlaw08_sameLimits.L4 k) x0 x1 x5 := by kernel_rfl
theorem fulcrumlaw08_sameLimits.eval (k : Nat) (a0 : Dt26) (a1 : Dt26) : evalF fulcrumlaw08_sameLimits.spec fulcrumlaw08_sameLimits.cals T Try.f24 k (a0, a1, ()) = fulcrumlaw08_sameLimits.e (fulcrumlaw08_sameLimits.L4 k) a0 a1 := by kernel_rfl
theorem fulcrumlaw08_sameLimits.F_eq (a0 : Dt26) (a1 : Dt26) : fulcrumlaw08_sameLimits.F (a0, a1, ()) = limF fulcrumlaw08_sameLimits.spec fulcrumlaw08_sameLimits.cals T Try.f24 (a0, a1, ()) := by kernel_rfl
theorem fulcrumlaw08_sameLimits.of (k : Nat) (a0 : Dt26) (a1 : Dt26) {y : Bool × Unit} (h : fulcrumlaw08_sameLimits.e (fulcrumlaw08_sameLimits.L4 k) a0 a1 = some y) : fulcrumlaw08_sameLimits.F (a0, a1, ()) = some y := (fulcrumlaw08_sameLimits.F_eq a0 a1).trans (limF_of (q := fulcrumlaw08_sameLimits.spec) (C := fulcrumlaw08_sameLimits.cals) (T := T) (f := Try.f24) (x := (a0, a1, ())) (y := y) k ((fulcrumlaw08_sameLimits.eval k a0 a1).trans h))

end Go.Fx.Try
