import Derived.Test.YthmdbafinpmojaaGreatW08a
namespace Go.Fx.Tryz
open Go Go.Proofs Go.Fx
set_option linter.unusedVariables false
set_option maxRecDepth 100000


def fulcrumref08_Bound.spec : Spec := ⟨[(true, Kt66)], [(true, Kt66)], .own, fun j => match j with  | _ => []⟩
noncomputable def fulcrumref08_Bound.cals : Cals := (Cals.cons 65 fulcrumref05_Norm.sig (Cals.base tabs))
noncomputable def fulcrumref08_Bound.sig : Sig := fulcrumref08_Bound.spec.sig fulcrumref08_Bound.cals T Tryz.f87
noncomputable def fulcrumref08_Bound.F (x : Dt66 × Unit) : Option (Dt66 × Unit) := limF fulcrumref08_Bound.spec fulcrumref08_Bound.cals T Tryz.f87 x
theorem fulcrumref08_Bound.ck : CalsOk Tryz.prog fulcrumref08_Bound.cals := (CalsOk.cons fulcrumref05_Norm.cal (CalsOk.base tabsOk))
theorem fulcrumref08_Bound.cal : CalOk Tryz.prog tabs 87 fulcrumref08_Bound.sig := calOk_lim' tabOk fulcrumref08_Bound.ck mix Tryz.func87 (by kernel_rfl) (by kernel_rfl) (by kernel_rfl) (by kernel_rfl)
noncomputable def fulcrumref08_Bound.e  (a0 : Dt66) : Option (Dt66 × Unit) :=
  let v1 := not a0.1
  bif v1 then (some (zt66, ()))
  else ((fulcrumref05_Norm.F ((((a0.2.1.1.1.1, a0.2.1.1.1.2), a0.2.1.1.2), ((a0.2.1.2.1.1, a0.2.1.2.1.2), a0.2.1.2.2)), ())).bind fun y2 =>
  some ((true, ((((y2.1.1.1.1, y2.1.1.1.2), y2.1.1.2), ((y2.1.2.1.1, y2.1.2.1.2), y2.1.2.2)), a0.2.2)), ()))
theorem fulcrumref08_Bound.eval (k : Nat) (a0 : Dt66) : evalF fulcrumref08_Bound.spec fulcrumref08_Bound.cals T Tryz.f87 k (a0, ()) = fulcrumref08_Bound.e  a0 := by kernel_rfl
theorem fulcrumref08_Bound.F_eq (a0 : Dt66) : fulcrumref08_Bound.F (a0, ()) = limF fulcrumref08_Bound.spec fulcrumref08_Bound.cals T Tryz.f87 (a0, ()) := by kernel_rfl
theorem fulcrumref08_Bound.of (k : Nat) (a0 : Dt66) {y : Dt66 × Unit} (h : fulcrumref08_Bound.e  a0 = some y) : fulcrumref08_Bound.F (a0, ()) = some y := (fulcrumref08_Bound.F_eq a0).trans (limF_of (q := fulcrumref08_Bound.spec) (C := fulcrumref08_Bound.cals) (T := T) (f := Tryz.f87) (x := (a0, ())) (y := y) k ((fulcrumref08_Bound.eval k a0).trans h))

def fulcrumref08_Copy.spec : Spec := ⟨[(true, Kt32)], [(true, Kt32)], .own, fun j => match j with | 3 => [(1, .box 32 [.z 68 Kt68 false, .v false, .z 70 Kt70 false]), (2, .box 32 [.v true, .v true, .v true]), (3, .box 32 [.o 68 Kt68 true, .v false, .v true]), (4, .lf (.v true))] | 7 => [(1, .box 32 [.z 68 Kt68 false, .v false, .z 70 Kt70 false]), (2, .box 32 [.v true, .v true, .v true]), (3, .box 32 [.o 68 Kt68 true, .v false, .o 70 Kt70 true]), (5, .lf (.v true))] | _ => []⟩
noncomputable def fulcrumref08_Copy.cals : Cals := (Cals.cons 87 fulcrumref08_Bound.sig (Cals.base tabs))
noncomputable def fulcrumref08_Copy.sig : Sig := fulcrumref08_Copy.spec.sig fulcrumref08_Copy.cals T Tryz.f60
noncomputable def fulcrumref08_Copy.F (x : Dt32 × Unit) : Option (Dt32 × Unit) := limF fulcrumref08_Copy.spec fulcrumref08_Copy.cals T Tryz.f60 x
theorem fulcrumref08_Copy.ck : CalsOk Tryz.prog fulcrumref08_Copy.cals := (CalsOk.cons fulcrumref08_Bound.cal (CalsOk.base tabsOk))
theorem fulcrumref08_Copy.cal : CalOk Tryz.prog tabs 60 fulcrumref08_Copy.sig := calOk_lim' tabOk fulcrumref08_Copy.ck mix Tryz.func60 (by kernel_rfl) (by kernel_rfl) (by kernel_rfl) (by kernel_rfl)
def fulcrumref08_Copy.m3 (x1_0 : Dt29) (x1_1 : Int) (x1_2 : Dt30) (x2_1 : Int) (x3_0 : Dt29) (x3_1 : Int) (x4 : Int) : S := ⟨[(1, .box 0 0), (2, .box 1 0), (3, .box 2 0), (4, .one (.lf (.val true (.int .i64) x4)))], ⟨[some ⟨68, Kt68, true, true, x3_0⟩], [some ⟨32, [.val false Kt29 x1_0, .val false (.int .i64) x1_1, .val false Kt30 x1_2]⟩, some ⟨32, [.nil, .val true (.int .i64) x2_1, .nil]⟩, some ⟨32, [.own 0, .val false (.int .i64) x3_1, .nil]⟩]⟩⟩
def fulcrumref08_Copy.m7 (x1_0 : Dt29) (x1_1 : Int) (x1_2 : Dt30) (x2_1 : Int) (x3_0 : Dt29) (x3_1 : Int) (x3_2 : Dt30) (x5 : Int) : S := ⟨[(1, .box 0 0), (2, .box 1 0), (3, .box 2 0), (5, .one (.lf (.val true (.int .i64) x5)))], ⟨[some ⟨68, Kt68, true, true, x3_0⟩, some ⟨70, Kt70, true, true, x3_2⟩], [some ⟨32, [.val false Kt29 x1_0, .val false (.int .i64) x1_1, .val false Kt30 x1_2]⟩, some ⟨32, [.nil, .val true (.int .i64) x2_1, .nil]⟩, some ⟨32, [.own 0, .val false (.int .i64) x3_1, .own 1]⟩]⟩⟩
noncomputable def fulcrumref08_Copy.b3 (f3 : Dt29 → Int → Dt30 → Int → Dt29 → Int → Int → Option (Dt32 × Unit)) (f7 : Dt29 → Int → Dt30 → Int → Dt29 → Int → Dt30 → Int → Option (Dt32 × Unit)) (x1_0 : Dt29) (x1_1 : Int) (x1_2 : Dt30) (x2_1 : Int) (x3_0 : Dt29) (x3_1 : Int) (x4 : Int) : Option (Dt32 × Unit) :=
  let v1 := (List.length x1_0 : Int)
  let v2 := decide (x4 < v1)
  bif v2 then (bif decide (0 ≤ x4) && decide (x4 < (List.length x1_0 : Int)) then (let v3 := ((List.getD x1_0 (Int.toNat x4) zt68).1).1
  let v4 := ((((((List.getD x1_0 (Int.toNat x4) zt68).1).2).1).1).1).1
  let v5 := ((((((List.getD x1_0 (Int.toNat x4) zt68).1).2).1).1).1).2
  let v6 := (((((List.getD x1_0 (Int.toNat x4) zt68).1).2).1).1).2
  let v7 := ((((((List.getD x1_0 (Int.toNat x4) zt68).1).2).1).2).1).1
  let v8 := ((((((List.getD x1_0 (Int.toNat x4) zt68).1).2).1).2).1).2
  let v9 := (((((List.getD x1_0 (Int.toNat x4) zt68).1).2).1).2).2
  let v10 := (((List.getD x1_0 (Int.toNat x4) zt68).1).2).2
  (fulcrumref08_Bound.F ((v3, ((((v4, v5), v6), ((v7, v8), v9)), v10)), ())).bind fun y11 =>
  bif decide (0 ≤ x4) && decide (x4 < (List.length x1_0 : Int)) then (let v12 := ((List.getD x1_0 (Int.toNat x4) zt68).2).1
  let v13 := ((((((List.getD x1_0 (Int.toNat x4) zt68).2).2).1).1).1).1
  let v14 := ((((((List.getD x1_0 (Int.toNat x4) zt68).2).2).1).1).1).2
  let v15 := (((((List.getD x1_0 (Int.toNat x4) zt68).2).2).1).1).2
  let v16 := ((((((List.getD x1_0 (Int.toNat x4) zt68).2).2).1).2).1).1
  let v17 := ((((((List.getD x1_0 (Int.toNat x4) zt68).2).2).1).2).1).2
  let v18 := (((((List.getD x1_0 (Int.toNat x4) zt68).2).2).1).2).2
  let v19 := (((List.getD x1_0 (Int.toNat x4) zt68).2).2).2
  (fulcrumref08_Bound.F ((v12, ((((v13, v14), v15), ((v16, v17), v18)), v19)), ())).bind fun y20 =>
  let v21 := ([((y11.1.1, ((((y11.1.2.1.1.1.1, y11.1.2.1.1.1.2), y11.1.2.1.1.2), ((y11.1.2.1.2.1.1, y11.1.2.1.2.1.2), y11.1.2.1.2.2)), y11.1.2.2)), (y20.1.1, ((((y20.1.2.1.1.1.1, y20.1.2.1.1.1.2), y20.1.2.1.1.2), ((y20.1.2.1.2.1.1, y20.1.2.1.2.1.2), y20.1.2.1.2.2)), y20.1.2.2)))] : List Dt68)
  bif decide (List.length x3_0 + List.length v21 < 549755813888) then (let v22 := List.append x3_0 v21
  let v23 := IntKind.i64.wrap (x4 + (1 : Int))
  f3 x1_0 x1_1 x1_2 x2_1 v22 x3_1 v23)
  else none)
  else none)
  else none)
  else (f7 x1_0 x1_1 x1_2 x2_1 x3_0 x3_1 zt30 (0 : Int))
noncomputable def fulcrumref08_Copy.b7 (f3 : Dt29 → Int → Dt30 → Int → Dt29 → Int → Int → Option (Dt32 × Unit)) (f7 : Dt29 → Int → Dt30 → Int → Dt29 → Int → Dt30 → Int → Option (Dt32 × Unit)) (x1_0 : Dt29) (x1_1 : Int) (x1_2 : Dt30) (x2_1 : Int) (x3_0 : Dt29) (x3_1 : Int) (x3_2 : Dt30) (x5 : Int) : Option (Dt32 × Unit) :=
  let v1 := (List.length x1_2 : Int)
  let v2 := decide (x5 < v1)
  bif v2 then (bif decide (0 ≤ x5) && decide (x5 < (List.length x1_2 : Int)) then (let v3 := (List.getD x1_2 (Int.toNat x5) zt70).1
  let v4 := ((List.getD x1_2 (Int.toNat x5) zt70).2).1
  let v5 := (((List.getD x1_2 (Int.toNat x5) zt70).2).2).1
  let v6 := ((((List.getD x1_2 (Int.toNat x5) zt70).2).2).2).1
  let v7 := ((((((((List.getD x1_2 (Int.toNat x5) zt70).2).2).2).2).1).1).1).1
  let v8 := ((((((((List.getD x1_2 (Int.toNat x5) zt70).2).2).2).2).1).1).1).2
  let v9 := (((((((List.getD x1_2 (Int.toNat x5) zt70).2).2).2).2).1).1).2
  let v10 := ((((((((List.getD x1_2 (Int.toNat x5) zt70).2).2).2).2).1).2).1).1
  let v11 := ((((((((List.getD x1_2 (Int.toNat x5) zt70).2).2).2).2).1).2).1).2
  let v12 := (((((((List.getD x1_2 (Int.toNat x5) zt70).2).2).2).2).1).2).2
  let v13 := (((((List.getD x1_2 (Int.toNat x5) zt70).2).2).2).2).2
  (fulcrumref08_Bound.F ((v6, ((((v7, v8), v9), ((v10, v11), v12)), v13)), ())).bind fun y14 =>
  let v15 := ([(v3, (v4, (v5, (y14.1.1, ((((y14.1.2.1.1.1.1, y14.1.2.1.1.1.2), y14.1.2.1.1.2), ((y14.1.2.1.2.1.1, y14.1.2.1.2.1.2), y14.1.2.1.2.2)), y14.1.2.2)))))] : List Dt70)
  bif decide (List.length x3_2 + List.length v15 < 925904528653) then (let v16 := List.append x3_2 v15
  let v17 := IntKind.i64.wrap (x5 + (1 : Int))
  f7 x1_0 x1_1 x1_2 x2_1 x3_0 x3_1 v16 v17)
  else none)
  else none)
  else (some ((x3_0, (x3_1, x3_2)), ()))
noncomputable def fulcrumref08_Copy.e (f3 : Dt29 → Int → Dt30 → Int → Dt29 → Int → Int → Option (Dt32 × Unit)) (f7 : Dt29 → Int → Dt30 → Int → Dt29 → Int → Dt30 → Int → Option (Dt32 × Unit)) (a0 : Dt32) : Option (Dt32 × Unit) :=
  f3 a0.1 a0.2.1 a0.2.2 (0 : Int) zt29 a0.2.1 (0 : Int)
noncomputable def fulcrumref08_Copy.L3 (k : Nat) (x1_0 : Dt29) (x1_1 : Int) (x1_2 : Dt30) (x2_1 : Int) (x3_0 : Dt29) (x3_1 : Int) (x4 : Int) : Option (Dt32 × Unit) := heads (fulcrumref08_Copy.spec.env fulcrumref08_Copy.cals T Tryz.f60) (Func.pts Tryz.f60) k 3 (fulcrumref08_Copy.m3 x1_0 x1_1 x1_2 x2_1 x3_0 x3_1 x4)
noncomputable def fulcrumref08_Copy.L7 (k : Nat) (x1_0 : Dt29) (x1_1 : Int) (x1_2 : Dt30) (x2_1 : Int) (x3_0 : Dt29) (x3_1 : Int) (x3_2 : Dt30) (x5 : Int) : Option (Dt32 × Unit) := heads (fulcrumref08_Copy.spec.env fulcrumref08_Copy.cals T Tryz.f60) (Func.pts Tryz.f60) k 7 (fulcrumref08_Copy.m7 x1_0 x1_1 x1_2 x2_1 x3_0 x3_1 x3_2 x5)
theorem fulcrumref08_Copy.L3_succ (k : Nat) (x1_0 : Dt29) (x1_1 : Int) (x1_2 : Dt30) (x2_1 : Int) (x3_0 : Dt29) (x3_1 : Int) (x4 : Int) : fulcrumref08_Copy.L3 (k + 1) x1_0 x1_1 x1_2 x2_1 x3_0 x3_1 x4 = fulcrumref08_Copy.b3 (fulcrumref08_Copy.L3 k) (fulcrumref08_Copy.L7 k) x1_0 x1_1 x1_2 x2_1 x3_0 x3_1 x4 := by kernel_rfl
theorem fulcrumref08_Copy.L7_succ (k : Nat) (x1_0 : Dt29) (x1_1 : Int) (x1_2 : Dt30) (x2_1 : Int) (x3_0 : Dt29) (x3_1 : Int) (x3_2 : Dt30) (x5 : Int) : fulcrumref08_Copy.L7 (k + 1) x1_0 x1_1 x1_2 x2_1 x3_0 x3_1 x3_2 x5 = fulcrumref08_Copy.b7 (fulcrumref08_Copy.L3 k) (fulcrumref08_Copy.L7 k) x1_0 x1_1 x1_2 x2_1 x3_0 x3_1 x3_2 x5 := by kernel_rfl
theorem fulcrumref08_Copy.eval (k : Nat) (a0 : Dt32) : evalF fulcrumref08_Copy.spec fulcrumref08_Copy.cals T Tryz.f60 k (a0, ()) = fulcrumref08_Copy.e (fulcrumref08_Copy.L3 k) (fulcrumref08_Copy.L7 k) a0 := by kernel_rfl
theorem fulcrumref08_Copy.F_eq (a0 : Dt32) : fulcrumref08_Copy.F (a0, ()) = limF fulcrumref08_Copy.spec fulcrumref08_Copy.cals T Tryz.f60 (a0, ()) := by kernel_rfl
theorem fulcrumref08_Copy.of (k : Nat) (a0 : Dt32) {y : Dt32 × Unit} (h : fulcrumref08_Copy.e (fulcrumref08_Copy.L3 k) (fulcrumref08_Copy.L7 k) a0 = some y) : fulcrumref08_Copy.F (a0, ()) = some y := (fulcrumref08_Copy.F_eq a0).trans (limF_of (q := fulcrumref08_Copy.spec) (C := fulcrumref08_Copy.cals) (T := T) (f := Tryz.f60) (x := (a0, ())) (y := y) k ((fulcrumref08_Copy.eval k a0).trans h))

def fulcrumref02_Sign.spec : Spec := ⟨[(true, Kt40)], [(false, (.int .i64))], .own, fun j => match j with  | _ => []⟩
noncomputable def fulcrumref02_Sign.cals : Cals := (Cals.cons 79 fulcrumref02_Norm.sig (Cals.base tabs))
noncomputable def fulcrumref02_Sign.sig : Sig := fulcrumref02_Sign.spec.sig fulcrumref02_Sign.cals T Tryz.f56
noncomputable def fulcrumref02_Sign.F (x : Dt40 × Unit) : Option (Int × Unit) := limF fulcrumref02_Sign.spec fulcrumref02_Sign.cals T Tryz.f56 x
theorem fulcrumref02_Sign.ck : CalsOk Tryz.prog fulcrumref02_Sign.cals := (CalsOk.cons fulcrumref02_Norm.cal (CalsOk.base tabsOk))
theorem fulcrumref02_Sign.cal : CalOk Tryz.prog tabs 56 fulcrumref02_Sign.sig := calOk_lim' tabOk fulcrumref02_Sign.ck mix Tryz.func56 (by kernel_rfl) (by kernel_rfl) (by kernel_rfl) (by kernel_rfl)
noncomputable def fulcrumref02_Sign.e  (a0 : Dt40) : Option (Int × Unit) :=
  (fulcrumref02_Norm.F ((a0.1, a0.2), ())).bind fun y1 =>
  bif y1.1.1 then (some ((-1 : Int), ()))
  else (let v2 := (List.length y1.1.2 : Int)
  let v3 := decide (v2 > (0 : Int))
  bif v3 then (some ((1 : Int), ()))
  else (some ((0 : Int), ())))
theorem fulcrumref02_Sign.eval (k : Nat) (a0 : Dt40) : evalF fulcrumref02_Sign.spec fulcrumref02_Sign.cals T Tryz.f56 k (a0, ()) = fulcrumref02_Sign.e  a0 := by kernel_rfl
theorem fulcrumref02_Sign.F_eq (a0 : Dt40) : fulcrumref02_Sign.F (a0, ()) = limF fulcrumref02_Sign.spec fulcrumref02_Sign.cals T Tryz.f56 (a0, ()) := by kernel_rfl
theorem fulcrumref02_Sign.of (k : Nat) (a0 : Dt40) {y : Int × Unit} (h : fulcrumref02_Sign.e  a0 = some y) : fulcrumref02_Sign.F (a0, ()) = some y := (fulcrumref02_Sign.F_eq a0).trans (limF_of (q := fulcrumref02_Sign.spec) (C := fulcrumref02_Sign.cals) (T := T) (f := Tryz.f56) (x := (a0, ())) (y := y) k ((fulcrumref02_Sign.eval k a0).trans h))

def fulcrumref03_Sign.spec : Spec := ⟨[(true, Kt42)], [(false, (.int .i64))], .own, fun j => match j with  | _ => []⟩
noncomputable def fulcrumref03_Sign.cals : Cals := (Cals.cons 57 fulcrumref03_Norm.sig (Cals.cons 56 fulcrumref02_Sign.sig (Cals.base tabs)))
noncomputable def fulcrumref03_Sign.sig : Sig := fulcrumref03_Sign.spec.sig fulcrumref03_Sign.cals T Tryz.f24
noncomputable def fulcrumref03_Sign.F (x : Dt42 × Unit) : Option (Int × Unit) := limF fulcrumref03_Sign.spec fulcrumref03_Sign.cals T Tryz.f24 x
theorem fulcrumref03_Sign.ck : CalsOk Tryz.prog fulcrumref03_Sign.cals := (CalsOk.cons fulcrumref03_Norm.cal (CalsOk.cons fulcrumref02_Sign.cal (CalsOk.base tabsOk)))
theorem fulcrumref03_Sign.cal : CalOk Tryz.prog tabs 24 fulcrumref03_Sign.sig := calOk_lim' tabOk fulcrumref03_Sign.ck mix Tryz.func24 (by kernel_rfl) (by kernel_rfl) (by kernel_rfl) (by kernel_rfl)
noncomputable def fulcrumref03_Sign.e  (a0 : Dt42) : Option (Int × Unit) :=
  (fulcrumref03_Norm.F (((a0.1.1, a0.1.2), a0.2), ())).bind fun y1 =>
  (fulcrumref02_Sign.F ((y1.1.1.1, y1.1.1.2), ())).bind fun y2 =>
  some (y2.1, ())
theorem fulcrumref03_Sign.eval (k : Nat) (a0 : Dt42) : evalF fulcrumref03_Sign.spec fulcrumref03_Sign.cals T Tryz.f24 k (a0, ()) = fulcrumref03_Sign.e  a0 := by kernel_rfl
theorem fulcrumref03_Sign.F_eq (a0 : Dt42) : fulcrumref03_Sign.F (a0, ()) = limF fulcrumref03_Sign.spec fulcrumref03_Sign.cals T Tryz.f24 (a0, ()) := by kernel_rfl
theorem fulcrumref03_Sign.of (k : Nat) (a0 : Dt42) {y : Int × Unit} (h : fulcrumref03_Sign.e  a0 = some y) : fulcrumref03_Sign.F (a0, ()) = some y := (fulcrumref03_Sign.F_eq a0).trans (limF_of (q := fulcrumref03_Sign.spec) (C := fulcrumref03_Sign.cals) (T := T) (f := Tryz.f24) (x := (a0, ())) (y := y) k ((fulcrumref03_Sign.eval k a0).trans h))

def fulcrumref05_Sign.spec : Spec := ⟨[(true, Kt44)], [(false, (.int .i64))], .own, fun j => match j with  | _ => []⟩
noncomputable def fulcrumref05_Sign.cals : Cals := (Cals.cons 24 fulcrumref03_Sign.sig (Cals.base tabs))
noncomputable def fulcrumref05_Sign.sig : Sig := fulcrumref05_Sign.spec.sig fulcrumref05_Sign.cals T Tryz.f90
noncomputable def fulcrumref05_Sign.F (x : Dt44 × Unit) : Option (Int × Unit) := limF fulcrumref05_Sign.spec fulcrumref05_Sign.cals T Tryz.f90 x
theorem fulcrumref05_Sign.ck : CalsOk Tryz.prog fulcrumref05_Sign.cals := (CalsOk.cons fulcrumref03_Sign.cal (CalsOk.base tabsOk))
theorem fulcrumref05_Sign.cal : CalOk Tryz.prog tabs 90 fulcrumref05_Sign.sig := calOk_lim' tabOk fulcrumref05_Sign.ck mix Tryz.func90 (by kernel_rfl) (by kernel_rfl) (by kernel_rfl) (by kernel_rfl)
noncomputable def fulcrumref05_Sign.e  (a0 : Dt44) : Option (Int × Unit) :=
  (fulcrumref03_Sign.F (((a0.1.1.1, a0.1.1.2), a0.1.2), ())).bind fun y1 =>
  let v2 := (y1.1 != (0 : Int))
  bif v2 then (some (y1.1, ()))
  else ((fulcrumref03_Sign.F (((a0.2.1.1, a0.2.1.2), a0.2.2), ())).bind fun y3 =>
  some (y3.1, ()))
theorem fulcrumref05_Sign.eval (k : Nat) (a0 : Dt44) : evalF fulcrumref05_Sign.spec fulcrumref05_Sign.cals T Tryz.f90 k (a0, ()) = fulcrumref05_Sign.e  a0 := by kernel_rfl
theorem fulcrumref05_Sign.F_eq (a0 : Dt44) : fulcrumref05_Sign.F (a0, ()) = limF fulcrumref05_Sign.spec fulcrumref05_Sign.cals T Tryz.f90 (a0, ()) := by kernel_rfl
theorem fulcrumref05_Sign.of (k : Nat) (a0 : Dt44) {y : Int × Unit} (h : fulcrumref05_Sign.e  a0 = some y) : fulcrumref05_Sign.F (a0, ()) = some y := (fulcrumref05_Sign.F_eq a0).trans (limF_of (q := fulcrumref05_Sign.spec) (C := fulcrumref05_Sign.cals) (T := T) (f := Tryz.f90) (x := (a0, ())) (y := y) k ((fulcrumref05_Sign.eval k a0).trans h))

def fulcrumref01_Add.spec : Spec := ⟨[(false, Kt38), (false, Kt38)], [(false, Kt38)], .own, fun j => match j with | 7 => [(0, .lf (.z 114 (.int .u32) false)), (1, .lf (.z 114 (.int .u32) false)), (5, .lf (.v true)), (6, .lf (.o 114 (.int .u32) true)), (7, .lf (.v true)), (8, .lf (.v true))] | _ => []⟩
noncomputable def fulcrumref01_Add.cals : Cals := (Cals.cons 103 fulcrumref01_at.sig (Cals.cons 80 fulcrumref01_Norm.sig (Cals.base tabs)))
noncomputable def fulcrumref01_Add.sig : Sig := fulcrumref01_Add.spec.sig fulcrumref01_Add.cals T Tryz.f134
noncomputable def fulcrumref01_Add.F (x : Dt38 × Dt38 × Unit) : Option (Dt38 × Unit) := limF fulcrumref01_Add.spec fulcrumref01_Add.cals T Tryz.f134 x
theorem fulcrumref01_Add.ck : CalsOk Tryz.prog fulcrumref01_Add.cals := (CalsOk.cons fulcrumref01_at.cal (CalsOk.cons fulcrumref01_Norm.cal (CalsOk.base tabsOk)))
theorem fulcrumref01_Add.cal : CalOk Tryz.prog tabs 134 fulcrumref01_Add.sig := calOk_lim' tabOk fulcrumref01_Add.ck mix Tryz.func134 (by kernel_rfl) (by kernel_rfl) (by kernel_rfl) (by kernel_rfl)
def fulcrumref01_Add.m7 (x0 : Dt38) (x1 : Dt38) (x5 : Int) (x6 : Dt38) (x7 : Int) (x8 : Int) : S := ⟨[(0, .one (.lf (.val false Kt38 x0))), (1, .one (.lf (.val false Kt38 x1))), (5, .one (.lf (.val true (.int .i64) x5))), (6, .one (.lf (.own 0))), (7, .one (.lf (.val true (.int .u64) x7))), (8, .one (.lf (.val true (.int .i64) x8)))], ⟨[some ⟨114, (.int .u32), true, true, x6⟩], []⟩⟩
noncomputable def fulcrumref01_Add.b7 (f7 : Dt38 → Dt38 → Int → Dt38 → Int → Int → Option (Dt38 × Unit)) (x0 : Dt38) (x1 : Dt38) (x5 : Int) (x6 : Dt38) (x7 : Int) (x8 : Int) : Option (Dt38 × Unit) :=
  let v1 := decide (x8 ≤ x5)
  bif v1 then ((fulcrumref01_at.F (x0, x8, ())).bind fun y2 =>
  (fulcrumref01_at.F (x1, x8, ())).bind fun y3 =>
  let v4 := IntKind.u64.wrap (y2.1 + y3.1)
  let v5 := IntKind.u64.wrap (v4 + x7)
  let v6 := IntKind.u32.wrap v5
  bif decide (0 ≤ x8) && decide (x8 < (List.length x6 : Int)) then (let v7 := List.set x6 (Int.toNat x8) v6
  bif decide ((32 : Int) < 0) then none
  else (let v8 := shrI .u64 v5 (32 : Int)
  let v9 := IntKind.i64.wrap (x8 + (1 : Int))
  f7 x0 x1 x5 v7 v8 v9))
  else none)
  else ((fulcrumref01_Norm.F (x6, ())).bind fun y10 =>
  some (y10.1, ()))
noncomputable def fulcrumref01_Add.e (f7 : Dt38 → Dt38 → Int → Dt38 → Int → Int → Option (Dt38 × Unit)) (a0 : Dt38) (a1 : Dt38) : Option (Dt38 × Unit) :=
  let v1 := (List.length a0 : Int)
  let v2 := (List.length a1 : Int)
  let v3 := decide (v2 > v1)
  bif v3 then (let v4 := (List.length a1 : Int)
  let v5 := IntKind.i64.wrap (v4 + (1 : Int))
  bif decide (0 ≤ v5) && (decide (v5 ≤ v5) && (decide (Int.toNat v5 * 4 ≤ 281474976710656) && Nat.blt 0 4)) then (let v6 := List.replicate (Int.toNat v5) (0 : Int)
  f7 a0 a1 v4 v6 (0 : Int) (0 : Int))
  else none)
  else (let v7 := IntKind.i64.wrap (v1 + (1 : Int))
  bif decide (0 ≤ v7) && (decide (v7 ≤ v7) && (decide (Int.toNat v7 * 4 ≤ 281474976710656) && Nat.blt 0 4)) then (let v8 := List.replicate (Int.toNat v7) (0 : Int)
  f7 a0 a1 v1 v8 (0 : Int) (0 : Int))
  else none)
noncomputable def fulcrumref01_Add.L7 (k : Nat) (x0 : Dt38) (x1 : Dt38) (x5 : Int) (x6 : Dt38) (x7 : Int) (x8 : Int) : Option (Dt38 × Unit) := heads (fulcrumref01_Add.spec.env fulcrumref01_Add.cals T Tryz.f134) (Func.pts Tryz.f134) k 7 (fulcrumref01_Add.m7 x0 x1 x5 x6 x7 x8)
theorem fulcrumref01_Add.L7_succ (k : Nat) (x0 : Dt38) (x1 : Dt38) (x5 : Int) (x6 : Dt38) (x7 : Int) (x8 : Int) : fulcrumref01_Add.L7 (k + 1) x0 x1 x5 x6 x7 x8 = fulcrumref01_Add.b7 (fulcrumref01_Add.L7 k) x0 x1 x5 x6 x7 x8 := by kernel_rfl
theorem fulcrumref01_Add.eval (k : Nat) (a0 : Dt38) (a1 : Dt38) : evalF fulcrumref01_Add.spec fulcrumref01_Add.cals T Tryz.f134 k (a0, a1, ()) = fulcrumref01_Add.e (fulcrumref01_Add.L7 k) a0 a1 := by kernel_rfl
theorem fulcrumref01_Add.F_eq (a0 : Dt38) (a1 : Dt38) : fulcrumref01_Add.F (a0, a1, ()) = limF fulcrumref01_Add.spec fulcrumref01_Add.cals T Tryz.f134 (a0, a1, ()) := by kernel_rfl
theorem fulcrumref01_Add.of (k : Nat) (a0 : Dt38) (a1 : Dt38) {y : Dt38 × Unit} (h : fulcrumref01_Add.e (fulcrumref01_Add.L7 k) a0 a1 = some y) : fulcrumref01_Add.F (a0, a1, ()) = some y := (fulcrumref01_Add.F_eq a0 a1).trans (limF_of (q := fulcrumref01_Add.spec) (C := fulcrumref01_Add.cals) (T := T) (f := Tryz.f134) (x := (a0, a1, ())) (y := y) k ((fulcrumref01_Add.eval k a0 a1).trans h))

def fulcrumref02_Add.spec : Spec := ⟨[(true, Kt40), (true, Kt40)], [(true, Kt40)], .own, fun j => match j with  | _ => []⟩
noncomputable def fulcrumref02_Add.cals : Cals := (Cals.cons 134 fulcrumref01_Add.sig (Cals.cons 83 fulcrumref02_made.sig (Cals.cons 93 fulcrumref01_Cmp.sig (Cals.cons 96 fulcrumref01_Sub.sig (Cals.base tabs)))))
noncomputable def fulcrumref02_Add.sig : Sig := fulcrumref02_Add.spec.sig fulcrumref02_Add.cals T Tryz.f123
noncomputable def fulcrumref02_Add.F (x : Dt40 × Dt40 × Unit) : Option (Dt40 × Unit) := limF fulcrumref02_Add.spec fulcrumref02_Add.cals T Tryz.f123 x
theorem fulcrumref02_Add.ck : CalsOk Tryz.prog fulcrumref02_Add.cals := (CalsOk.cons fulcrumref01_Add.cal (CalsOk.cons fulcrumref02_made.cal (CalsOk.cons fulcrumref01_Cmp.cal (CalsOk.cons fulcrumref01_Sub.cal (CalsOk.base tabsOk)))))
theorem fulcrumref02_Add.cal : CalOk Tryz.prog tabs 123 fulcrumref02_Add.sig := calOk_lim' tabOk fulcrumref02_Add.ck mix Tryz.func123 (by kernel_rfl) (by kernel_rfl) (by kernel_rfl) (by kernel_rfl)
noncomputable def fulcrumref02_Add.e  (a0 : Dt40) (a1 : Dt40) : Option (Dt40 × Unit) :=
  let v1 := (a0.1 == a1.1)
  bif v1 then ((fulcrumref01_Add.F (a0.2, a1.2, ())).bind fun y2 =>
  (fulcrumref02_made.F (a0.1, y2.1, ())).bind fun y3 =>
  some ((y3.1.1, y3.1.2), ()))
  else ((fulcrumref01_Cmp.F (a0.2, a1.2, ())).bind fun y4 =>
  let v5 := decide (y4.1 ≥ (0 : Int))
  bif v5 then ((fulcrumref01_Sub.F (a0.2, a1.2, ())).bind fun y6 =>
  (fulcrumref02_made.F (a0.1, y6.1, ())).bind fun y7 =>
  some ((y7.1.1, y7.1.2), ()))
  else ((fulcrumref01_Sub.F (a1.2, a0.2, ())).bind fun y8 =>
  (fulcrumref02_made.F (a1.1, y8.1, ())).bind fun y9 =>
  some ((y9.1.1, y9.1.2), ())))
theorem fulcrumref02_Add.eval (k : Nat) (a0 : Dt40) (a1 : Dt40) : evalF fulcrumref02_Add.spec fulcrumref02_Add.cals T Tryz.f123 k (a0, a1, ()) = fulcrumref02_Add.e  a0 a1 := by kernel_rfl
theorem fulcrumref02_Add.F_eq (a0 : Dt40) (a1 : Dt40) : fulcrumref02_Add.F (a0, a1, ()) = limF fulcrumref02_Add.spec fulcrumref02_Add.cals T Tryz.f123 (a0, a1, ()) := by kernel_rfl
theorem fulcrumref02_Add.of (k : Nat) (a0 : Dt40) (a1 : Dt40) {y : Dt40 × Unit} (h : fulcrumref02_Add.e  a0 a1 = some y) : fulcrumref02_Add.F (a0, a1, ()) = some y := (fulcrumref02_Add.F_eq a0 a1).trans (limF_of (q := fulcrumref02_Add.spec) (C := fulcrumref02_Add.cals) (T := T) (f := Tryz.f123) (x := (a0, a1, ())) (y := y) k ((fulcrumref02_Add.eval k a0 a1).trans h))

def fulcrumref01_Mul.spec : Spec := ⟨[(false, Kt38), (false, Kt38)], [(false, Kt38)], .own, fun j => match j with | 3 => [(0, .lf (.z 114 (.int .u32) false)), (1, .lf (.z 114 (.int .u32) false)), (5, .lf (.o 114 (.int .u32) true)), (6, .lf (.v true))] | 7 => [(0, .lf (.z 114 (.int .u32) false)), (1, .lf (.z 114 (.int .u32) false)), (5, .lf (.o 114 (.int .u32) true)), (6, .lf (.v true)), (7, .lf (.v true)), (8, .lf (.v true))] | _ => []⟩
noncomputable def fulcrumref01_Mul.cals : Cals := (Cals.cons 80 fulcrumref01_Norm.sig (Cals.base tabs))
noncomputable def fulcrumref01_Mul.sig : Sig := fulcrumref01_Mul.spec.sig fulcrumref01_Mul.cals T Tryz.f126
noncomputable def fulcrumref01_Mul.F (x : Dt38 × Dt38 × Unit) : Option (Dt38 × Unit) := limF fulcrumref01_Mul.spec fulcrumref01_Mul.cals T Tryz.f126 x
theorem fulcrumref01_Mul.ck : CalsOk Tryz.prog fulcrumref01_Mul.cals := (CalsOk.cons fulcrumref01_Norm.cal (CalsOk.base tabsOk))
theorem fulcrumref01_Mul.cal : CalOk Tryz.prog tabs 126 fulcrumref01_Mul.sig := calOk_lim' tabOk fulcrumref01_Mul.ck mix Tryz.func126 (by kernel_rfl) (by kernel_rfl) (by kernel_rfl) (by kernel_rfl)
def fulcrumref01_Mul.m3 (x0 : Dt38) (x1 : Dt38) (x5 : Dt38) (x6 : Int) : S := ⟨[(0, .one (.lf (.val false Kt38 x0))), (1, .one (.lf (.val false Kt38 x1))), (5, .one (.lf (.own 0))), (6, .one (.lf (.val true (.int .i64) x6)))], ⟨[some ⟨114, (.int .u32), true, true, x5⟩], []⟩⟩
def fulcrumref01_Mul.m7 (x0 : Dt38) (x1 : Dt38) (x5 : Dt38) (x6 : Int) (x7 : Int) (x8 : Int) : S := ⟨[(0, .one (.lf (.val false Kt38 x0))), (1, .one (.lf (.val false Kt38 x1))), (5, .one (.lf (.own 0))), (6, .one (.lf (.val true (.int .i64) x6))), (7, .one (.lf (.val true (.int .u64) x7))), (8, .one (.lf (.val true (.int .i64) x8)))], ⟨[some ⟨114, (.int .u32), true, true, x5⟩], []⟩⟩
noncomputable def fulcrumref01_Mul.b3 (f3 : Dt38 → Dt38 → Dt38 → Int → Option (Dt38 × Unit)) (f7 : Dt38 → Dt38 → Dt38 → Int → Int → Int → Option (Dt38 × Unit)) (x0 : Dt38) (x1 : Dt38) (x5 : Dt38) (x6 : Int) : Option (Dt38 × Unit) :=
  let v1 := (List.length x0 : Int)
  let v2 := decide (x6 < v1)
  bif v2 then (f7 x0 x1 x5 x6 (0 : Int) (0 : Int))
  else ((fulcrumref01_Norm.F (x5, ())).bind fun y3 =>
  some (y3.1, ()))
noncomputable def fulcrumref01_Mul.b7 (f3 : Dt38 → Dt38 → Dt38 → Int → Option (Dt38 × Unit)) (f7 : Dt38 → Dt38 → Dt38 → Int → Int → Int → Option (Dt38 × Unit)) (x0 : Dt38) (x1 : Dt38) (x5 : Dt38) (x6 : Int) (x7 : Int) (x8 : Int) : Option (Dt38 × Unit) :=
  let v1 := (List.length x1 : Int)
  let v2 := decide (x8 < v1)
  bif v2 then (bif decide (0 ≤ x6) && decide (x6 < (List.length x0 : Int)) then (let v3 := List.getD x0 (Int.toNat x6) (0 : Int)
  let v4 := IntKind.u64.wrap v3
  bif decide (0 ≤ x8) && decide (x8 < (List.length x1 : Int)) then (let v5 := List.getD x1 (Int.toNat x8) (0 : Int)
  let v6 := IntKind.u64.wrap v5
  let v7 := IntKind.u64.wrap (v4 * v6)
  let v8 := IntKind.i64.wrap (x6 + x8)
  bif decide (0 ≤ v8) && decide (v8 < (List.length x5 : Int)) then (let v9 := List.getD x5 (Int.toNat v8) (0 : Int)
  let v10 := IntKind.u64.wrap v9
  let v11 := IntKind.u64.wrap (v7 + v10)
  let v12 := IntKind.u64.wrap (v11 + x7)
  let v13 := IntKind.i64.wrap (x6 + x8)
  let v14 := IntKind.u32.wrap v12
  bif decide (0 ≤ v13) && decide (v13 < (List.length x5 : Int)) then (let v15 := List.set x5 (Int.toNat v13) v14
  bif decide ((32 : Int) < 0) then none
  else (let v16 := shrI .u64 v12 (32 : Int)
  let v17 := IntKind.i64.wrap (x8 + (1 : Int))
  f7 x0 x1 v15 x6 v16 v17))
  else none)
  else none)
  else none)
  else none)
  else (let v18 := (List.length x1 : Int)
  let v19 := IntKind.i64.wrap (x6 + v18)
  let v20 := IntKind.u32.wrap x7
  bif decide (0 ≤ v19) && decide (v19 < (List.length x5 : Int)) then (let v21 := List.set x5 (Int.toNat v19) v20
  let v22 := IntKind.i64.wrap (x6 + (1 : Int))
  f3 x0 x1 v21 v22)
  else none)
noncomputable def fulcrumref01_Mul.e (f3 : Dt38 → Dt38 → Dt38 → Int → Option (Dt38 × Unit)) (f7 : Dt38 → Dt38 → Dt38 → Int → Int → Int → Option (Dt38 × Unit)) (a0 : Dt38) (a1 : Dt38) : Option (Dt38 × Unit) :=
  let v1 := (List.length a0 : Int)
  let v2 := (List.length a1 : Int)
  let v3 := IntKind.i64.wrap (v1 + v2)
  bif decide (0 ≤ v3) && (decide (v3 ≤ v3) && (decide (Int.toNat v3 * 4 ≤ 281474976710656) && Nat.blt 0 4)) then (let v4 := List.replicate (Int.toNat v3) (0 : Int)
  f3 a0 a1 v4 (0 : Int))
  else none
noncomputable def fulcrumref01_Mul.L3 (k : Nat) (x0 : Dt38) (x1 : Dt38) (x5 : Dt38) (x6 : Int) : Option (Dt38 × Unit) := heads (fulcrumref01_Mul.spec.env fulcrumref01_Mul.cals T Tryz.f126) (Func.pts Tryz.f126) k 3 (fulcrumref01_Mul.m3 x0 x1 x5 x6)
noncomputable def fulcrumref01_Mul.L7 (k : Nat) (x0 : Dt38) (x1 : Dt38) (x5 : Dt38) (x6 : Int) (x7 : Int) (x8 : Int) : Option (Dt38 × Unit) := heads (fulcrumref01_Mul.spec.env fulcrumref01_Mul.cals T Tryz.f126) (Func.pts Tryz.f126) k 7 (fulcrumref01_Mul.m7 x0 x1 x5 x6 x7 x8)
theorem fulcrumref01_Mul.L3_succ (k : Nat) (x0 : Dt38) (x1 : Dt38) (x5 : Dt38) (x6 : Int) : fulcrumref01_Mul.L3 (k + 1) x0 x1 x5 x6 = fulcrumref01_Mul.b3 (fulcrumref01_Mul.L3 k) (fulcrumref01_Mul.L7 k) x0 x1 x5 x6 := by kernel_rfl
theorem fulcrumref01_Mul.L7_succ (k : Nat) (x0 : Dt38) (x1 : Dt38) (x5 : Dt38) (x6 : Int) (x7 : Int) (x8 : Int) : fulcrumref01_Mul.L7 (k + 1) x0 x1 x5 x6 x7 x8 = fulcrumref01_Mul.b7 (fulcrumref01_Mul.L3 k) (fulcrumref01_Mul.L7 k) x0 x1 x5 x6 x7 x8 := by kernel_rfl
theorem fulcrumref01_Mul.eval (k : Nat) (a0 : Dt38) (a1 : Dt38) : evalF fulcrumref01_Mul.spec fulcrumref01_Mul.cals T Tryz.f126 k (a0, a1, ()) = fulcrumref01_Mul.e (fulcrumref01_Mul.L3 k) (fulcrumref01_Mul.L7 k) a0 a1 := by kernel_rfl
theorem fulcrumref01_Mul.F_eq (a0 : Dt38) (a1 : Dt38) : fulcrumref01_Mul.F (a0, a1, ()) = limF fulcrumref01_Mul.spec fulcrumref01_Mul.cals T Tryz.f126 (a0, a1, ()) := by kernel_rfl
theorem fulcrumref01_Mul.of (k : Nat) (a0 : Dt38) (a1 : Dt38) {y : Dt38 × Unit} (h : fulcrumref01_Mul.e (fulcrumref01_Mul.L3 k) (fulcrumref01_Mul.L7 k) a0 a1 = some y) : fulcrumref01_Mul.F (a0, a1, ()) = some y := (fulcrumref01_Mul.F_eq a0 a1).trans (limF_of (q := fulcrumref01_Mul.spec) (C := fulcrumref01_Mul.cals) (T := T) (f := Tryz.f126) (x := (a0, a1, ())) (y := y) k ((fulcrumref01_Mul.eval k a0 a1).trans h))

def fulcrumref02_Mul.spec : Spec := ⟨[(true, Kt40), (true, Kt40)], [(true, Kt40)], .own, fun j => match j with  | _ => []⟩
noncomputable def fulcrumref02_Mul.cals : Cals := (Cals.cons 126 fulcrumref01_Mul.sig (Cals.cons 83 fulcrumref02_made.sig (Cals.base tabs)))
noncomputable def fulcrumref02_Mul.sig : Sig := fulcrumref02_Mul.spec.sig fulcrumref02_Mul.cals T Tryz.f124
noncomputable def fulcrumref02_Mul.F (x : Dt40 × Dt40 × Unit) : Option (Dt40 × Unit) := limF fulcrumref02_Mul.spec fulcrumref02_Mul.cals T Tryz.f124 x
theorem fulcrumref02_Mul.ck : CalsOk Tryz.prog fulcrumref02_Mul.cals := (CalsOk.cons fulcrumref01_Mul.cal (CalsOk.cons fulcrumref02_made.cal (CalsOk.base tabsOk)))
theorem fulcrumref02_Mul.cal : CalOk Tryz.prog tabs 124 fulcrumref02_Mul.sig := calOk_lim' tabOk fulcrumref02_Mul.ck mix Tryz.func124 (by kernel_rfl) (by kernel_rfl) (by kernel_rfl) (by kernel_rfl)
noncomputable def fulcrumref02_Mul.e  (a0 : Dt40) (a1 : Dt40) : Option (Dt40 × Unit) :=
  let v1 := (!(a0.1 == a1.1))
  (fulcrumref01_Mul.F (a0.2, a1.2, ())).bind fun y2 =>
  (fulcrumref02_made.F (v1, y2.1, ())).bind fun y3 =>
  some ((y3.1.1, y3.1.2), ())
theorem fulcrumref02_Mul.eval (k : Nat) (a0 : Dt40) (a1 : Dt40) : evalF fulcrumref02_Mul.spec fulcrumref02_Mul.cals T Tryz.f124 k (a0, a1, ()) = fulcrumref02_Mul.e  a0 a1 := by kernel_rfl
theorem fulcrumref02_Mul.F_eq (a0 : Dt40) (a1 : Dt40) : fulcrumref02_Mul.F (a0, a1, ()) = limF fulcrumref02_Mul.spec fulcrumref02_Mul.cals T Tryz.f124 (a0, a1, ()) := by kernel_rfl
theorem fulcrumref02_Mul.of (k : Nat) (a0 : Dt40) (a1 : Dt40) {y : Dt40 × Unit} (h : fulcrumref02_Mul.e  a0 a1 = some y) : fulcrumref02_Mul.F (a0, a1, ()) = some y := (fulcrumref02_Mul.F_eq a0 a1).trans (limF_of (q := fulcrumref02_Mul.spec) (C := fulcrumref02_Mul.cals) (T := T) (f := Tryz.f124) (x := (a0, a1, ())) (y := y) k ((fulcrumref02_Mul.eval k a0 a1).trans h))

def fulcrumref03_positive.spec : Spec := ⟨[(false, Kt38)], [(true, Kt40)], .shared, fun j => match j with  | _ => []⟩
noncomputable def fulcrumref03_positive.cals : Cals := (Cals.base tabs)
noncomputable def fulcrumref03_positive.sig : Sig := fulcrumref03_positive.spec.sig fulcrumref03_positive.cals T Tryz.f125
noncomputable def fulcrumref03_positive.F (x : Dt38 × Unit) : Option (Dt40 × Unit) := limF fulcrumref03_positive.spec fulcrumref03_positive.cals T Tryz.f125 x
theorem fulcrumref03_positive.ck : CalsOk Tryz.prog fulcrumref03_positive.cals := (CalsOk.base tabsOk)
theorem fulcrumref03_positive.cal : CalOk Tryz.prog tabs 125 fulcrumref03_positive.sig := calOk_lim' tabOk fulcrumref03_positive.ck mix Tryz.func125 (by kernel_rfl) (by kernel_rfl) (by kernel_rfl) (by kernel_rfl)
noncomputable def fulcrumref03_positive.e  (a0 : Dt38) : Option (Dt40 × Unit) :=
  some ((false, a0), ())
theorem fulcrumref03_positive.eval (k : Nat) (a0 : Dt38) : evalF fulcrumref03_positive.spec fulcrumref03_positive.cals T Tryz.f125 k (a0, ()) = fulcrumref03_positive.e  a0 := by kernel_rfl
theorem fulcrumref03_positive.F_eq (a0 : Dt38) : fulcrumref03_positive.F (a0, ()) = limF fulcrumref03_positive.spec fulcrumref03_positive.cals T Tryz.f125 (a0, ()) := by kernel_rfl
theorem fulcrumref03_positive.of (k : Nat) (a0 : Dt38) {y : Dt40 × Unit} (h : fulcrumref03_positive.e  a0 = some y) : fulcrumref03_positive.F (a0, ()) = some y := (fulcrumref03_positive.F_eq a0).trans (limF_of (q := fulcrumref03_positive.spec) (C := fulcrumref03_positive.cals) (T := T) (f := Tryz.f125) (x := (a0, ())) (y := y) k ((fulcrumref03_positive.eval k a0).trans h))

def fulcrumref03_Add.spec : Spec := ⟨[(true, Kt42), (true, Kt42)], [(true, Kt42)], .own, fun j => match j with  | _ => []⟩
noncomputable def fulcrumref03_Add.cals : Cals := (Cals.cons 57 fulcrumref03_Norm.sig (Cals.cons 125 fulcrumref03_positive.sig (Cals.cons 124 fulcrumref02_Mul.sig (Cals.cons 123 fulcrumref02_Add.sig (Cals.cons 126 fulcrumref01_Mul.sig (Cals.base tabs))))))
noncomputable def fulcrumref03_Add.sig : Sig := fulcrumref03_Add.spec.sig fulcrumref03_Add.cals T Tryz.f113
noncomputable def fulcrumref03_Add.F (x : Dt42 × Dt42 × Unit) : Option (Dt42 × Unit) := limF fulcrumref03_Add.spec fulcrumref03_Add.cals T Tryz.f113 x
theorem fulcrumref03_Add.ck : CalsOk Tryz.prog fulcrumref03_Add.cals := (CalsOk.cons fulcrumref03_Norm.cal (CalsOk.cons fulcrumref03_positive.cal (CalsOk.cons fulcrumref02_Mul.cal (CalsOk.cons fulcrumref02_Add.cal (CalsOk.cons fulcrumref01_Mul.cal (CalsOk.base tabsOk))))))
theorem fulcrumref03_Add.cal : CalOk Tryz.prog tabs 113 fulcrumref03_Add.sig := calOk_lim' tabOk fulcrumref03_Add.ck mix Tryz.func113 (by kernel_rfl) (by kernel_rfl) (by kernel_rfl) (by kernel_rfl)
noncomputable def fulcrumref03_Add.e  (a0 : Dt42) (a1 : Dt42) : Option (Dt42 × Unit) :=
  (fulcrumref03_Norm.F (((a0.1.1, a0.1.2), a0.2), ())).bind fun y1 =>
  (fulcrumref03_Norm.F (((a1.1.1, a1.1.2), a1.2), ())).bind fun y2 =>
  (fulcrumref03_positive.F (y2.1.2, ())).bind fun y3 =>
  (fulcrumref02_Mul.F ((y1.1.1.1, y1.1.1.2), (y3.1.1, y3.1.2), ())).bind fun y4 =>
  (fulcrumref03_positive.F (y1.1.2, ())).bind fun y5 =>
  (fulcrumref02_Mul.F ((y2.1.1.1, y2.1.1.2), (y5.1.1, y5.1.2), ())).bind fun y6 =>
  (fulcrumref02_Add.F ((y4.1.1, y4.1.2), (y6.1.1, y6.1.2), ())).bind fun y7 =>
  (fulcrumref01_Mul.F (y1.1.2, y2.1.2, ())).bind fun y8 =>
  (fulcrumref03_Norm.F (((y7.1.1, y7.1.2), y8.1), ())).bind fun y9 =>
  some (((y9.1.1.1, y9.1.1.2), y9.1.2), ())
theorem fulcrumref03_Add.eval (k : Nat) (a0 : Dt42) (a1 : Dt42) : evalF fulcrumref03_Add.spec fulcrumref03_Add.cals T Tryz.f113 k (a0, a1, ()) = fulcrumref03_Add.e  a0 a1 := by kernel_rfl
theorem fulcrumref03_Add.F_eq (a0 : Dt42) (a1 : Dt42) : fulcrumref03_Add.F (a0, a1, ()) = limF fulcrumref03_Add.spec fulcrumref03_Add.cals T Tryz.f113 (a0, a1, ()) := by kernel_rfl
theorem fulcrumref03_Add.of (k : Nat) (a0 : Dt42) (a1 : Dt42) {y : Dt42 × Unit} (h : fulcrumref03_Add.e  a0 a1 = some y) : fulcrumref03_Add.F (a0, a1, ()) = some y := (fulcrumref03_Add.F_eq a0 a1).trans (limF_of (q := fulcrumref03_Add.spec) (C := fulcrumref03_Add.cals) (T := T) (f := Tryz.f113) (x := (a0, a1, ())) (y := y) k ((fulcrumref03_Add.eval k a0 a1).trans h))

def fulcrumref02_Neg.spec : Spec := ⟨[(true, Kt40)], [(true, Kt40)], .own, fun j => match j with  | _ => []⟩
noncomputable def fulcrumref02_Neg.cals : Cals := (Cals.cons 83 fulcrumref02_made.sig (Cals.base tabs))
noncomputable def fulcrumref02_Neg.sig : Sig := fulcrumref02_Neg.spec.sig fulcrumref02_Neg.cals T Tryz.f127
noncomputable def fulcrumref02_Neg.F (x : Dt40 × Unit) : Option (Dt40 × Unit) := limF fulcrumref02_Neg.spec fulcrumref02_Neg.cals T Tryz.f127 x
theorem fulcrumref02_Neg.ck : CalsOk Tryz.prog fulcrumref02_Neg.cals := (CalsOk.cons fulcrumref02_made.cal (CalsOk.base tabsOk))
theorem fulcrumref02_Neg.cal : CalOk Tryz.prog tabs 127 fulcrumref02_Neg.sig := calOk_lim' tabOk fulcrumref02_Neg.ck mix Tryz.func127 (by kernel_rfl) (by kernel_rfl) (by kernel_rfl) (by kernel_rfl)
noncomputable def fulcrumref02_Neg.e  (a0 : Dt40) : Option (Dt40 × Unit) :=
  let v1 := not a0.1
  (fulcrumref02_made.F (v1, a0.2, ())).bind fun y2 =>
  some ((y2.1.1, y2.1.2), ())
theorem fulcrumref02_Neg.eval (k : Nat) (a0 : Dt40) : evalF fulcrumref02_Neg.spec fulcrumref02_Neg.cals T Tryz.f127 k (a0, ()) = fulcrumref02_Neg.e  a0 := by kernel_rfl
theorem fulcrumref02_Neg.F_eq (a0 : Dt40) : fulcrumref02_Neg.F (a0, ()) = limF fulcrumref02_Neg.spec fulcrumref02_Neg.cals T Tryz.f127 (a0, ()) := by kernel_rfl
theorem fulcrumref02_Neg.of (k : Nat) (a0 : Dt40) {y : Dt40 × Unit} (h : fulcrumref02_Neg.e  a0 = some y) : fulcrumref02_Neg.F (a0, ()) = some y := (fulcrumref02_Neg.F_eq a0).trans (limF_of (q := fulcrumref02_Neg.spec) (C := fulcrumref02_Neg.cals) (T := T) (f := Tryz.f127) (x := (a0, ())) (y := y) k ((fulcrumref02_Neg.eval k a0).trans h))

def fulcrumref03_Neg.spec : Spec := ⟨[(true, Kt42)], [(true, Kt42)], .own, fun j => match j with  | _ => []⟩
noncomputable def fulcrumref03_Neg.cals : Cals := (Cals.cons 57 fulcrumref03_Norm.sig (Cals.cons 127 fulcrumref02_Neg.sig (Cals.base tabs)))
noncomputable def fulcrumref03_Neg.sig : Sig := fulcrumref03_Neg.spec.sig fulcrumref03_Neg.cals T Tryz.f114
noncomputable def fulcrumref03_Neg.F (x : Dt42 × Unit) : Option (Dt42 × Unit) := limF fulcrumref03_Neg.spec fulcrumref03_Neg.cals T Tryz.f114 x
theorem fulcrumref03_Neg.ck : CalsOk Tryz.prog fulcrumref03_Neg.cals := (CalsOk.cons fulcrumref03_Norm.cal (CalsOk.cons fulcrumref02_Neg.cal (CalsOk.base tabsOk)))
theorem fulcrumref03_Neg.cal : CalOk Tryz.prog tabs 114 fulcrumref03_Neg.sig := calOk_lim' tabOk fulcrumref03_Neg.ck mix Tryz.func114 (by kernel_rfl) (by kernel_rfl) (by kernel_rfl) (by kernel_rfl)
noncomputable def fulcrumref03_Neg.e  (a0 : Dt42) : Option (Dt42 × Unit) :=
  (fulcrumref03_Norm.F (((a0.1.1, a0.1.2), a0.2), ())).bind fun y1 =>
  (fulcrumref02_Neg.F ((y1.1.1.1, y1.1.1.2), ())).bind fun y2 =>
  (fulcrumref03_Norm.F (((y2.1.1, y2.1.2), y1.1.2), ())).bind fun y3 =>
  some (((y3.1.1.1, y3.1.1.2), y3.1.2), ())
theorem fulcrumref03_Neg.eval (k : Nat) (a0 : Dt42) : evalF fulcrumref03_Neg.spec fulcrumref03_Neg.cals T Tryz.f114 k (a0, ()) = fulcrumref03_Neg.e  a0 := by kernel_rfl
theorem fulcrumref03_Neg.F_eq (a0 : Dt42) : fulcrumref03_Neg.F (a0, ()) = limF fulcrumref03_Neg.spec fulcrumref03_Neg.cals T Tryz.f114 (a0, ()) := by kernel_rfl
theorem fulcrumref03_Neg.of (k : Nat) (a0 : Dt42) {y : Dt42 × Unit} (h : fulcrumref03_Neg.e  a0 = some y) : fulcrumref03_Neg.F (a0, ()) = some y := (fulcrumref03_Neg.F_eq a0).trans (limF_of (q := fulcrumref03_Neg.spec) (C := fulcrumref03_Neg.cals) (T := T) (f := Tryz.f114) (x := (a0, ())) (y := y) k ((fulcrumref03_Neg.eval k a0).trans h))

def fulcrumref03_Sub.spec : Spec := ⟨[(true, Kt42), (true, Kt42)], [(true, Kt42)], .own, fun j => match j with  | _ => []⟩
noncomputable def fulcrumref03_Sub.cals : Cals := (Cals.cons 114 fulcrumref03_Neg.sig (Cals.cons 113 fulcrumref03_Add.sig (Cals.base tabs)))
noncomputable def fulcrumref03_Sub.sig : Sig := fulcrumref03_Sub.spec.sig fulcrumref03_Sub.cals T Tryz.f102
noncomputable def fulcrumref03_Sub.F (x : Dt42 × Dt42 × Unit) : Option (Dt42 × Unit) := limF fulcrumref03_Sub.spec fulcrumref03_Sub.cals T Tryz.f102 x
theorem fulcrumref03_Sub.ck : CalsOk Tryz.prog fulcrumref03_Sub.cals := (CalsOk.cons fulcrumref03_Neg.cal (CalsOk.cons fulcrumref03_Add.cal (CalsOk.base tabsOk)))
theorem fulcrumref03_Sub.cal : CalOk Tryz.prog tabs 102 fulcrumref03_Sub.sig := calOk_lim' tabOk fulcrumref03_Sub.ck mix Tryz.func102 (by kernel_rfl) (by kernel_rfl) (by kernel_rfl) (by kernel_rfl)
noncomputable def fulcrumref03_Sub.e  (a0 : Dt42) (a1 : Dt42) : Option (Dt42 × Unit) :=
  (fulcrumref03_Neg.F (((a1.1.1, a1.1.2), a1.2), ())).bind fun y1 =>
  (fulcrumref03_Add.F (((a0.1.1, a0.1.2), a0.2), ((y1.1.1.1, y1.1.1.2), y1.1.2), ())).bind fun y2 =>
  some (((y2.1.1.1, y2.1.1.2), y2.1.2), ())
theorem fulcrumref03_Sub.eval (k : Nat) (a0 : Dt42) (a1 : Dt42) : evalF fulcrumref03_Sub.spec fulcrumref03_Sub.cals T Tryz.f102 k (a0, a1, ()) = fulcrumref03_Sub.e  a0 a1 := by kernel_rfl
theorem fulcrumref03_Sub.F_eq (a0 : Dt42) (a1 : Dt42) : fulcrumref03_Sub.F (a0, a1, ()) = limF fulcrumref03_Sub.spec fulcrumref03_Sub.cals T Tryz.f102 (a0, a1, ()) := by kernel_rfl
theorem fulcrumref03_Sub.of (k : Nat) (a0 : Dt42) (a1 : Dt42) {y : Dt42 × Unit} (h : fulcrumref03_Sub.e  a0 a1 = some y) : fulcrumref03_Sub.F (a0, a1, ()) = some y := (fulcrumref03_Sub.F_eq a0 a1).trans (limF_of (q := fulcrumref03_Sub.spec) (C := fulcrumref03_Sub.cals) (T := T) (f := Tryz.f102) (x := (a0, a1, ())) (y := y) k ((fulcrumref03_Sub.eval k a0 a1).trans h))

def fulcrumref05_Sub.spec : Spec := ⟨[(true, Kt44), (true, Kt44)], [(true, Kt44)], .own, fun j => match j with  | _ => []⟩
noncomputable def fulcrumref05_Sub.cals : Cals := (Cals.cons 102 fulcrumref03_Sub.sig (Cals.base tabs))
noncomputable def fulcrumref05_Sub.sig : Sig := fulcrumref05_Sub.spec.sig fulcrumref05_Sub.cals T Tryz.f91
noncomputable def fulcrumref05_Sub.F (x : Dt44 × Dt44 × Unit) : Option (Dt44 × Unit) := limF fulcrumref05_Sub.spec fulcrumref05_Sub.cals T Tryz.f91 x
theorem fulcrumref05_Sub.ck : CalsOk Tryz.prog fulcrumref05_Sub.cals := (CalsOk.cons fulcrumref03_Sub.cal (CalsOk.base tabsOk))
theorem fulcrumref05_Sub.cal : CalOk Tryz.prog tabs 91 fulcrumref05_Sub.sig := calOk_lim' tabOk fulcrumref05_Sub.ck mix Tryz.func91 (by kernel_rfl) (by kernel_rfl) (by kernel_rfl) (by kernel_rfl)
noncomputable def fulcrumref05_Sub.e  (a0 : Dt44) (a1 : Dt44) : Option (Dt44 × Unit) :=
  (fulcrumref03_Sub.F (((a0.1.1.1, a0.1.1.2), a0.1.2), ((a1.1.1.1, a1.1.1.2), a1.1.2), ())).bind fun y1 =>
  (fulcrumref03_Sub.F (((a0.2.1.1, a0.2.1.2), a0.2.2), ((a1.2.1.1, a1.2.1.2), a1.2.2), ())).bind fun y2 =>
  some ((((y1.1.1.1, y1.1.1.2), y1.1.2), ((y2.1.1.1, y2.1.1.2), y2.1.2)), ())
theorem fulcrumref05_Sub.eval (k : Nat) (a0 : Dt44) (a1 : Dt44) : evalF fulcrumref05_Sub.spec fulcrumref05_Sub.cals T Tryz.f91 k (a0, a1, ()) = fulcrumref05_Sub.e  a0 a1 := by kernel_rfl
theorem fulcrumref05_Sub.F_eq (a0 : Dt44) (a1 : Dt44) : fulcrumref05_Sub.F (a0, a1, ()) = limF fulcrumref05_Sub.spec fulcrumref05_Sub.cals T Tryz.f91 (a0, a1, ()) := by kernel_rfl
theorem fulcrumref05_Sub.of (k : Nat) (a0 : Dt44) (a1 : Dt44) {y : Dt44 × Unit} (h : fulcrumref05_Sub.e  a0 a1 = some y) : fulcrumref05_Sub.F (a0, a1, ()) = some y := (fulcrumref05_Sub.F_eq a0 a1).trans (limF_of (q := fulcrumref05_Sub.spec) (C := fulcrumref05_Sub.cals) (T := T) (f := Tryz.f91) (x := (a0, a1, ())) (y := y) k ((fulcrumref05_Sub.eval k a0 a1).trans h))

def fulcrumref05_Cmp.spec : Spec := ⟨[(true, Kt44), (true, Kt44)], [(false, (.int .i64))], .own, fun j => match j with  | _ => []⟩
noncomputable def fulcrumref05_Cmp.cals : Cals := (Cals.cons 91 fulcrumref05_Sub.sig (Cals.cons 90 fulcrumref05_Sign.sig (Cals.base tabs)))
noncomputable def fulcrumref05_Cmp.sig : Sig := fulcrumref05_Cmp.spec.sig fulcrumref05_Cmp.cals T Tryz.f69
noncomputable def fulcrumref05_Cmp.F (x : Dt44 × Dt44 × Unit) : Option (Int × Unit) := limF fulcrumref05_Cmp.spec fulcrumref05_Cmp.cals T Tryz.f69 x
theorem fulcrumref05_Cmp.ck : CalsOk Tryz.prog fulcrumref05_Cmp.cals := (CalsOk.cons fulcrumref05_Sub.cal (CalsOk.cons fulcrumref05_Sign.cal (CalsOk.base tabsOk)))
theorem fulcrumref05_Cmp.cal : CalOk Tryz.prog tabs 69 fulcrumref05_Cmp.sig := calOk_lim' tabOk fulcrumref05_Cmp.ck mix Tryz.func69 (by kernel_rfl) (by kernel_rfl) (by kernel_rfl) (by kernel_rfl)
noncomputable def fulcrumref05_Cmp.e  (a0 : Dt44) (a1 : Dt44) : Option (Int × Unit) :=
  (fulcrumref05_Sub.F ((((a0.1.1.1, a0.1.1.2), a0.1.2), ((a0.2.1.1, a0.2.1.2), a0.2.2)), (((a1.1.1.1, a1.1.1.2), a1.1.2), ((a1.2.1.1, a1.2.1.2), a1.2.2)), ())).bind fun y1 =>
  (fulcrumref05_Sign.F ((((y1.1.1.1.1, y1.1.1.1.2), y1.1.1.2), ((y1.1.2.1.1, y1.1.2.1.2), y1.1.2.2)), ())).bind fun y2 =>
  some (y2.1, ())
theorem fulcrumref05_Cmp.eval (k : Nat) (a0 : Dt44) (a1 : Dt44) : evalF fulcrumref05_Cmp.spec fulcrumref05_Cmp.cals T Tryz.f69 k (a0, a1, ()) = fulcrumref05_Cmp.e  a0 a1 := by kernel_rfl
theorem fulcrumref05_Cmp.F_eq (a0 : Dt44) (a1 : Dt44) : fulcrumref05_Cmp.F (a0, a1, ()) = limF fulcrumref05_Cmp.spec fulcrumref05_Cmp.cals T Tryz.f69 (a0, a1, ()) := by kernel_rfl
theorem fulcrumref05_Cmp.of (k : Nat) (a0 : Dt44) (a1 : Dt44) {y : Int × Unit} (h : fulcrumref05_Cmp.e  a0 a1 = some y) : fulcrumref05_Cmp.F (a0, a1, ()) = some y := (fulcrumref05_Cmp.F_eq a0 a1).trans (limF_of (q := fulcrumref05_Cmp.spec) (C := fulcrumref05_Cmp.cals) (T := T) (f := Tryz.f69) (x := (a0, a1, ())) (y := y) k ((fulcrumref05_Cmp.eval k a0 a1).trans h))

def fulcrumref08_tighter.spec : Spec := ⟨[(false, .bool), (true, Kt44), (true, Kt44)], [(false, .bool)], .own, fun j => match j with  | _ => []⟩
noncomputable def fulcrumref08_tighter.cals : Cals := (Cals.cons 69 fulcrumref05_Cmp.sig (Cals.base tabs))
noncomputable def fulcrumref08_tighter.sig : Sig := fulcrumref08_tighter.spec.sig fulcrumref08_tighter.cals T Tryz.f64
noncomputable def fulcrumref08_tighter.F (x : Bool × Dt44 × Dt44 × Unit) : Option (Bool × Unit) := limF fulcrumref08_tighter.spec fulcrumref08_tighter.cals T Tryz.f64 x
theorem fulcrumref08_tighter.ck : CalsOk Tryz.prog fulcrumref08_tighter.cals := (CalsOk.cons fulcrumref05_Cmp.cal (CalsOk.base tabsOk))
theorem fulcrumref08_tighter.cal : CalOk Tryz.prog tabs 64 fulcrumref08_tighter.sig := calOk_lim' tabOk fulcrumref08_tighter.ck mix Tryz.func64 (by kernel_rfl) (by kernel_rfl) (by kernel_rfl) (by kernel_rfl)
noncomputable def fulcrumref08_tighter.e  (a0 : Bool) (a1 : Dt44) (a2 : Dt44) : Option (Bool × Unit) :=
  bif a0 then ((fulcrumref05_Cmp.F ((((a1.1.1.1, a1.1.1.2), a1.1.2), ((a1.2.1.1, a1.2.1.2), a1.2.2)), (((a2.1.1.1, a2.1.1.2), a2.1.2), ((a2.2.1.1, a2.2.1.2), a2.2.2)), ())).bind fun y1 =>
  let v2 := decide (y1.1 < (0 : Int))
  some (v2, ()))
  else ((fulcrumref05_Cmp.F ((((a1.1.1.1, a1.1.1.2), a1.1.2), ((a1.2.1.1, a1.2.1.2), a1.2.2)), (((a2.1.1.1, a2.1.1.2), a2.1.2), ((a2.2.1.1, a2.2.1.2), a2.2.2)), ())).bind fun y3 =>
  let v4 := decide (y3.1 > (0 : Int))
  some (v4, ()))
theorem fulcrumref08_tighter.eval (k : Nat) (a0 : Bool) (a1 : Dt44) (a2 : Dt44) : evalF fulcrumref08_tighter.spec fulcrumref08_tighter.cals T Tryz.f64 k (a0, a1, a2, ()) = fulcrumref08_tighter.e  a0 a1 a2 := by kernel_rfl
theorem fulcrumref08_tighter.F_eq (a0 : Bool) (a1 : Dt44) (a2 : Dt44) : fulcrumref08_tighter.F (a0, a1, a2, ()) = limF fulcrumref08_tighter.spec fulcrumref08_tighter.cals T Tryz.f64 (a0, a1, a2, ()) := by kernel_rfl
theorem fulcrumref08_tighter.of (k : Nat) (a0 : Bool) (a1 : Dt44) (a2 : Dt44) {y : Bool × Unit} (h : fulcrumref08_tighter.e  a0 a1 a2 = some y) : fulcrumref08_tighter.F (a0, a1, a2, ()) = some y := (fulcrumref08_tighter.F_eq a0 a1 a2).trans (limF_of (q := fulcrumref08_tighter.spec) (C := fulcrumref08_tighter.cals) (T := T) (f := Tryz.f64) (x := (a0, a1, a2, ())) (y := y) k ((fulcrumref08_tighter.eval k a0 a1 a2).trans h))

def fulcrumref08_Assert.spec : Spec := ⟨[(true, Kt32), (false, (.int .i64)), (false, .bool), (true, Kt44), (false, (.int .i64))], [(true, Kt32), (true, Kt83), (false, (.int .i64))], .shared, fun j => match j with  | _ => []⟩
noncomputable def fulcrumref08_Assert.cals : Cals := (Cals.cons 37 fulcrumref08_Is.sig (Cals.cons 64 fulcrumref08_tighter.sig (Cals.cons 60 fulcrumref08_Copy.sig (Cals.cons 65 fulcrumref05_Norm.sig (Cals.base tabs)))))
noncomputable def fulcrumref08_Assert.sig : Sig := fulcrumref08_Assert.spec.sig fulcrumref08_Assert.cals T Tryz.f29
noncomputable def fulcrumref08_Assert.F (x : Dt32 × Int × Bool × Dt44 × Int × Unit) : Option (Dt32 × Dt83 × Int × Unit) := limF fulcrumref08_Assert.spec fulcrumref08_Assert.cals T Tryz.f29 x
theorem fulcrumref08_Assert.ck : CalsOk Tryz.prog fulcrumref08_Assert.cals := (CalsOk.cons fulcrumref08_Is.cal (CalsOk.cons fulcrumref08_tighter.cal (CalsOk.cons fulcrumref08_Copy.cal (CalsOk.cons fulcrumref05_Norm.cal (CalsOk.base tabsOk)))))
theorem fulcrumref08_Assert.cal : CalOk Tryz.prog tabs 29 fulcrumref08_Assert.sig := calOk_lim' tabOk fulcrumref08_Assert.ck mix Tryz.func29 (by kernel_rfl) (by kernel_rfl) (by kernel_rfl) (by kernel_rfl)
noncomputable def fulcrumref08_Assert.e  (a0 : Dt32) (a1 : Int) (a2 : Bool) (a3 : Dt44) (a4 : Int) : Option (Dt32 × Dt83 × Int × Unit) :=
  (fulcrumref08_Is.F ((a0.1, (a0.2.1, a0.2.2)), a1, ())).bind fun y1 =>
  let v2 := not y1.1
  bif v2 then (some ((a0.1, (a0.2.1, a0.2.2)), zt83, (61 : Int), ()))
  else (bif decide (0 ≤ a1) && decide (a1 < (List.length a0.1 : Int)) then (let v3 := ((List.getD a0.1 (Int.toNat a1) zt68).1).1
  let v4 := ((((((List.getD a0.1 (Int.toNat a1) zt68).1).2).1).1).1).1
  let v5 := ((((((List.getD a0.1 (Int.toNat a1) zt68).1).2).1).1).1).2
  let v6 := (((((List.getD a0.1 (Int.toNat a1) zt68).1).2).1).1).2
  let v7 := ((((((List.getD a0.1 (Int.toNat a1) zt68).1).2).1).2).1).1
  let v8 := ((((((List.getD a0.1 (Int.toNat a1) zt68).1).2).1).2).1).2
  let v9 := (((((List.getD a0.1 (Int.toNat a1) zt68).1).2).1).2).2
  let v10 := (((List.getD a0.1 (Int.toNat a1) zt68).1).2).2
  bif decide (0 ≤ a1) && decide (a1 < (List.length a0.1 : Int)) then (let v11 := ((List.getD a0.1 (Int.toNat a1) zt68).2).1
  let v12 := ((((((List.getD a0.1 (Int.toNat a1) zt68).2).2).1).1).1).1
  let v13 := ((((((List.getD a0.1 (Int.toNat a1) zt68).2).2).1).1).1).2
  let v14 := (((((List.getD a0.1 (Int.toNat a1) zt68).2).2).1).1).2
  let v15 := ((((((List.getD a0.1 (Int.toNat a1) zt68).2).2).1).2).1).1
  let v16 := ((((((List.getD a0.1 (Int.toNat a1) zt68).2).2).1).2).1).2
  let v17 := (((((List.getD a0.1 (Int.toNat a1) zt68).2).2).1).2).2
  let v18 := (((List.getD a0.1 (Int.toNat a1) zt68).2).2).2
  bif a2 then (bif v11 then ((fulcrumref08_tighter.F (a2, (((a3.1.1.1, a3.1.1.2), a3.1.2), ((a3.2.1.1, a3.2.1.2), a3.2.2)), (((v12, v13), v14), ((v15, v16), v17)), ())).bind fun y19 =>
  let v20 := not y19.1
  bif v20 then (some ((a0.1, (a0.2.1, a0.2.2)), zt83, (0 : Int), ()))
  else (bif v3 then ((fulcrumref08_tighter.F (a2, (((a3.1.1.1, a3.1.1.2), a3.1.2), ((a3.2.1.1, a3.2.1.2), a3.2.2)), (((v4, v5), v6), ((v7, v8), v9)), ())).bind fun y21 =>
  bif y21.1 then (some ((a0.1, (a0.2.1, a0.2.2)), ((2 : Int), v10), (0 : Int), ()))
  else ((fulcrumref08_Copy.F ((a0.1, (a0.2.1, a0.2.2)), ())).bind fun y22 =>
  let v23 := ([(a1, (a2, (a0.2.1, (v11, ((((v12, v13), v14), ((v15, v16), v17)), v18)))))] : List Dt70)
  bif decide (List.length y22.1.2.2 + List.length v23 < 925904528653) then (let v24 := List.append y22.1.2.2 v23
  (fulcrumref05_Norm.F ((((a3.1.1.1, a3.1.1.2), a3.1.2), ((a3.2.1.1, a3.2.1.2), a3.2.2)), ())).bind fun y25 =>
  bif a2 then (bif decide (0 ≤ a1) && decide (a1 < (List.length y22.1.1 : Int)) then (let v26 := List.set y22.1.1 (Int.toNat a1) ((((List.getD y22.1.1 (Int.toNat a1) zt68).1).1, ((((((((((List.getD y22.1.1 (Int.toNat a1) zt68).1).2).1).1).1).1, ((((((List.getD y22.1.1 (Int.toNat a1) zt68).1).2).1).1).1).2), (((((List.getD y22.1.1 (Int.toNat a1) zt68).1).2).1).1).2), ((((((((List.getD y22.1.1 (Int.toNat a1) zt68).1).2).1).2).1).1, ((((((List.getD y22.1.1 (Int.toNat a1) zt68).1).2).1).2).1).2), (((((List.getD y22.1.1 (Int.toNat a1) zt68).1).2).1).2).2)), (((List.getD y22.1.1 (Int.toNat a1) zt68).1).2).2)), (true, ((((y25.1.1.1.1, y25.1.1.1.2), y25.1.1.2), ((y25.1.2.1.1, y25.1.2.1.2), y25.1.2.2)), a4)))
  some ((v26, (y22.1.2.1, v24)), ((1 : Int), (0 : Int)), (0 : Int), ()))
  else none)
  else (bif decide (0 ≤ a1) && decide (a1 < (List.length y22.1.1 : Int)) then (let v27 := List.set y22.1.1 (Int.toNat a1) ((true, ((((y25.1.1.1.1, y25.1.1.1.2), y25.1.1.2), ((y25.1.2.1.1, y25.1.2.1.2), y25.1.2.2)), a4)), (((List.getD y22.1.1 (Int.toNat a1) zt68).2).1, ((((((((((List.getD y22.1.1 (Int.toNat a1) zt68).2).2).1).1).1).1, ((((((List.getD y22.1.1 (Int.toNat a1) zt68).2).2).1).1).1).2), (((((List.getD y22.1.1 (Int.toNat a1) zt68).2).2).1).1).2), ((((((((List.getD y22.1.1 (Int.toNat a1) zt68).2).2).1).2).1).1, ((((((List.getD y22.1.1 (Int.toNat a1) zt68).2).2).1).2).1).2), (((((List.getD y22.1.1 (Int.toNat a1) zt68).2).2).1).2).2)), (((List.getD y22.1.1 (Int.toNat a1) zt68).2).2).2)))
  some ((v27, (y22.1.2.1, v24)), ((1 : Int), (0 : Int)), (0 : Int), ()))
  else none))
  else none))
  else ((fulcrumref08_Copy.F ((a0.1, (a0.2.1, a0.2.2)), ())).bind fun y28 =>
  let v29 := ([(a1, (a2, (a0.2.1, (v11, ((((v12, v13), v14), ((v15, v16), v17)), v18)))))] : List Dt70)
  bif decide (List.length y28.1.2.2 + List.length v29 < 925904528653) then (let v30 := List.append y28.1.2.2 v29
  (fulcrumref05_Norm.F ((((a3.1.1.1, a3.1.1.2), a3.1.2), ((a3.2.1.1, a3.2.1.2), a3.2.2)), ())).bind fun y31 =>
  bif a2 then (bif decide (0 ≤ a1) && decide (a1 < (List.length y28.1.1 : Int)) then (let v32 := List.set y28.1.1 (Int.toNat a1) ((((List.getD y28.1.1 (Int.toNat a1) zt68).1).1, ((((((((((List.getD y28.1.1 (Int.toNat a1) zt68).1).2).1).1).1).1, ((((((List.getD y28.1.1 (Int.toNat a1) zt68).1).2).1).1).1).2), (((((List.getD y28.1.1 (Int.toNat a1) zt68).1).2).1).1).2), ((((((((List.getD y28.1.1 (Int.toNat a1) zt68).1).2).1).2).1).1, ((((((List.getD y28.1.1 (Int.toNat a1) zt68).1).2).1).2).1).2), (((((List.getD y28.1.1 (Int.toNat a1) zt68).1).2).1).2).2)), (((List.getD y28.1.1 (Int.toNat a1) zt68).1).2).2)), (true, ((((y31.1.1.1.1, y31.1.1.1.2), y31.1.1.2), ((y31.1.2.1.1, y31.1.2.1.2), y31.1.2.2)), a4)))
  some ((v32, (y28.1.2.1, v30)), ((1 : Int), (0 : Int)), (0 : Int), ()))
  else none)
  else (bif decide (0 ≤ a1) && decide (a1 < (List.length y28.1.1 : Int)) then (let v33 := List.set y28.1.1 (Int.toNat a1) ((true, ((((y31.1.1.1.1, y31.1.1.1.2), y31.1.1.2), ((y31.1.2.1.1, y31.1.2.1.2), y31.1.2.2)), a4)), (((List.getD y28.1.1 (Int.toNat a1) zt68).2).1, ((((((((((List.getD y28.1.1 (Int.toNat a1) zt68).2).2).1).1).1).1, ((((((List.getD y28.1.1 (Int.toNat a1) zt68).2).2).1).1).1).2), (((((List.getD y28.1.1 (Int.toNat a1) zt68).2).2).1).1).2), ((((((((List.getD y28.1.1 (Int.toNat a1) zt68).2).2).1).2).1).1, ((((((List.getD y28.1.1 (Int.toNat a1) zt68).2).2).1).2).1).2), (((((List.getD y28.1.1 (Int.toNat a1) zt68).2).2).1).2).2)), (((List.getD y28.1.1 (Int.toNat a1) zt68).2).2).2)))
  some ((v33, (y28.1.2.1, v30)), ((1 : Int), (0 : Int)), (0 : Int), ()))
  else none))
  else none)))
  else (bif v3 then ((fulcrumref08_tighter.F (a2, (((a3.1.1.1, a3.1.1.2), a3.1.2), ((a3.2.1.1, a3.2.1.2), a3.2.2)), (((v4, v5), v6), ((v7, v8), v9)), ())).bind fun y34 =>
  bif y34.1 then (some ((a0.1, (a0.2.1, a0.2.2)), ((2 : Int), v10), (0 : Int), ()))
  else ((fulcrumref08_Copy.F ((a0.1, (a0.2.1, a0.2.2)), ())).bind fun y35 =>
  let v36 := ([(a1, (a2, (a0.2.1, (v11, ((((v12, v13), v14), ((v15, v16), v17)), v18)))))] : List Dt70)
  bif decide (List.length y35.1.2.2 + List.length v36 < 925904528653) then (let v37 := List.append y35.1.2.2 v36
  (fulcrumref05_Norm.F ((((a3.1.1.1, a3.1.1.2), a3.1.2), ((a3.2.1.1, a3.2.1.2), a3.2.2)), ())).bind fun y38 =>
  bif a2 then (bif decide (0 ≤ a1) && decide (a1 < (List.length y35.1.1 : Int)) then (let v39 := List.set y35.1.1 (Int.toNat a1) ((((List.getD y35.1.1 (Int.toNat a1) zt68).1).1, ((((((((((List.getD y35.1.1 (Int.toNat a1) zt68).1).2).1).1).1).1, ((((((List.getD y35.1.1 (Int.toNat a1) zt68).1).2).1).1).1).2), (((((List.getD y35.1.1 (Int.toNat a1) zt68).1).2).1).1).2), ((((((((List.getD y35.1.1 (Int.toNat a1) zt68).1).2).1).2).1).1, ((((((List.getD y35.1.1 (Int.toNat a1) zt68).1).2).1).2).1).2), (((((List.getD y35.1.1 (Int.toNat a1) zt68).1).2).1).2).2)), (((List.getD y35.1.1 (Int.toNat a1) zt68).1).2).2)), (true, ((((y38.1.1.1.1, y38.1.1.1.2), y38.1.1.2), ((y38.1.2.1.1, y38.1.2.1.2), y38.1.2.2)), a4)))
  some ((v39, (y35.1.2.1, v37)), ((1 : Int), (0 : Int)), (0 : Int), ()))
  else none)
  else (bif decide (0 ≤ a1) && decide (a1 < (List.length y35.1.1 : Int)) then (let v40 := List.set y35.1.1 (Int.toNat a1) ((true, ((((y38.1.1.1.1, y38.1.1.1.2), y38.1.1.2), ((y38.1.2.1.1, y38.1.2.1.2), y38.1.2.2)), a4)), (((List.getD y35.1.1 (Int.toNat a1) zt68).2).1, ((((((((((List.getD y35.1.1 (Int.toNat a1) zt68).2).2).1).1).1).1, ((((((List.getD y35.1.1 (Int.toNat a1) zt68).2).2).1).1).1).2), (((((List.getD y35.1.1 (Int.toNat a1) zt68).2).2).1).1).2), ((((((((List.getD y35.1.1 (Int.toNat a1) zt68).2).2).1).2).1).1, ((((((List.getD y35.1.1 (Int.toNat a1) zt68).2).2).1).2).1).2), (((((List.getD y35.1.1 (Int.toNat a1) zt68).2).2).1).2).2)), (((List.getD y35.1.1 (Int.toNat a1) zt68).2).2).2)))
  some ((v40, (y35.1.2.1, v37)), ((1 : Int), (0 : Int)), (0 : Int), ()))
  else none))
  else none))
  else ((fulcrumref08_Copy.F ((a0.1, (a0.2.1, a0.2.2)), ())).bind fun y41 =>
  let v42 := ([(a1, (a2, (a0.2.1, (v11, ((((v12, v13), v14), ((v15, v16), v17)), v18)))))] : List Dt70)
  bif decide (List.length y41.1.2.2 + List.length v42 < 925904528653) then (let v43 := List.append y41.1.2.2 v42
  (fulcrumref05_Norm.F ((((a3.1.1.1, a3.1.1.2), a3.1.2), ((a3.2.1.1, a3.2.1.2), a3.2.2)), ())).bind fun y44 =>
  bif a2 then (bif decide (0 ≤ a1) && decide (a1 < (List.length y41.1.1 : Int)) then (let v45 := List.set y41.1.1 (Int.toNat a1) ((((List.getD y41.1.1 (Int.toNat a1) zt68).1).1, ((((((((((List.getD y41.1.1 (Int.toNat a1) zt68).1).2).1).1).1).1, ((((((List.getD y41.1.1 (Int.toNat a1) zt68).1).2).1).1).1).2), (((((List.getD y41.1.1 (Int.toNat a1) zt68).1).2).1).1).2), ((((((((List.getD y41.1.1 (Int.toNat a1) zt68).1).2).1).2).1).1, ((((((List.getD y41.1.1 (Int.toNat a1) zt68).1).2).1).2).1).2), (((((List.getD y41.1.1 (Int.toNat a1) zt68).1).2).1).2).2)), (((List.getD y41.1.1 (Int.toNat a1) zt68).1).2).2)), (true, ((((y44.1.1.1.1, y44.1.1.1.2), y44.1.1.2), ((y44.1.2.1.1, y44.1.2.1.2), y44.1.2.2)), a4)))
  some ((v45, (y41.1.2.1, v43)), ((1 : Int), (0 : Int)), (0 : Int), ()))
  else none)
  else (bif decide (0 ≤ a1) && decide (a1 < (List.length y41.1.1 : Int)) then (let v46 := List.set y41.1.1 (Int.toNat a1) ((true, ((((y44.1.1.1.1, y44.1.1.1.2), y44.1.1.2), ((y44.1.2.1.1, y44.1.2.1.2), y44.1.2.2)), a4)), (((List.getD y41.1.1 (Int.toNat a1) zt68).2).1, ((((((((((List.getD y41.1.1 (Int.toNat a1) zt68).2).2).1).1).1).1, ((((((List.getD y41.1.1 (Int.toNat a1) zt68).2).2).1).1).1).2), (((((List.getD y41.1.1 (Int.toNat a1) zt68).2).2).1).1).2), ((((((((List.getD y41.1.1 (Int.toNat a1) zt68).2).2).1).2).1).1, ((((((List.getD y41.1.1 (Int.toNat a1) zt68).2).2).1).2).1).2), (((((List.getD y41.1.1 (Int.toNat a1) zt68).2).2).1).2).2)), (((List.getD y41.1.1 (Int.toNat a1) zt68).2).2).2)))
  some ((v46, (y41.1.2.1, v43)), ((1 : Int), (0 : Int)), (0 : Int), ()))
  else none))
  else none)))
  else (bif v3 then ((fulcrumref08_tighter.F (a2, (((a3.1.1.1, a3.1.1.2), a3.1.2), ((a3.2.1.1, a3.2.1.2), a3.2.2)), (((v4, v5), v6), ((v7, v8), v9)), ())).bind fun y47 =>
  let v48 := not y47.1
  bif v48 then (some ((a0.1, (a0.2.1, a0.2.2)), zt83, (0 : Int), ()))
  else (bif v11 then ((fulcrumref08_tighter.F (a2, (((a3.1.1.1, a3.1.1.2), a3.1.2), ((a3.2.1.1, a3.2.1.2), a3.2.2)), (((v12, v13), v14), ((v15, v16), v17)), ())).bind fun y49 =>
  bif y49.1 then (some ((a0.1, (a0.2.1, a0.2.2)), ((2 : Int), v18), (0 : Int), ()))
  else ((fulcrumref08_Copy.F ((a0.1, (a0.2.1, a0.2.2)), ())).bind fun y50 =>
  let v51 := ([(a1, (a2, (a0.2.1, (v3, ((((v4, v5), v6), ((v7, v8), v9)), v10)))))] : List Dt70)
  bif decide (List.length y50.1.2.2 + List.length v51 < 925904528653) then (let v52 := List.append y50.1.2.2 v51
  (fulcrumref05_Norm.F ((((a3.1.1.1, a3.1.1.2), a3.1.2), ((a3.2.1.1, a3.2.1.2), a3.2.2)), ())).bind fun y53 =>
  bif a2 then (bif decide (0 ≤ a1) && decide (a1 < (List.length y50.1.1 : Int)) then (let v54 := List.set y50.1.1 (Int.toNat a1) ((((List.getD y50.1.1 (Int.toNat a1) zt68).1).1, ((((((((((List.getD y50.1.1 (Int.toNat a1) zt68).1).2).1).1).1).1, ((((((List.getD y50.1.1 (Int.toNat a1) zt68).1).2).1).1).1).2), (((((List.getD y50.1.1 (Int.toNat a1) zt68).1).2).1).1).2), ((((((((List.getD y50.1.1 (Int.toNat a1) zt68).1).2).1).2).1).1, ((((((List.getD y50.1.1 (Int.toNat a1) zt68).1).2).1).2).1).2), (((((List.getD y50.1.1 (Int.toNat a1) zt68).1).2).1).2).2)), (((List.getD y50.1.1 (Int.toNat a1) zt68).1).2).2)), (true, ((((y53.1.1.1.1, y53.1.1.1.2), y53.1.1.2), ((y53.1.2.1.1, y53.1.2.1.2), y53.1.2.2)), a4)))
  some ((v54, (y50.1.2.1, v52)), ((1 : Int), (0 : Int)), (0 : Int), ()))
  else none)
  else (bif decide (0 ≤ a1) && decide (a1 < (List.length y50.1.1 : Int)) then (let v55 := List.set y50.1.1 (Int.toNat a1) ((true, ((((y53.1.1.1.1, y53.1.1.1.2), y53.1.1.2), ((y53.1.2.1.1, y53.1.2.1.2), y53.1.2.2)), a4)), (((List.getD y50.1.1 (Int.toNat a1) zt68).2).1, ((((((((((List.getD y50.1.1 (Int.toNat a1) zt68).2).2).1).1).1).1, ((((((List.getD y50.1.1 (Int.toNat a1) zt68).2).2).1).1).1).2), (((((List.getD y50.1.1 (Int.toNat a1) zt68).2).2).1).1).2), ((((((((List.getD y50.1.1 (Int.toNat a1) zt68).2).2).1).2).1).1, ((((((List.getD y50.1.1 (Int.toNat a1) zt68).2).2).1).2).1).2), (((((List.getD y50.1.1 (Int.toNat a1) zt68).2).2).1).2).2)), (((List.getD y50.1.1 (Int.toNat a1) zt68).2).2).2)))
  some ((v55, (y50.1.2.1, v52)), ((1 : Int), (0 : Int)), (0 : Int), ()))
  else none))
  else none))
  else ((fulcrumref08_Copy.F ((a0.1, (a0.2.1, a0.2.2)), ())).bind fun y56 =>
  let v57 := ([(a1, (a2, (a0.2.1, (v3, ((((v4, v5), v6), ((v7, v8), v9)), v10)))))] : List Dt70)
  bif decide (List.length y56.1.2.2 + List.length v57 < 925904528653) then (let v58 := List.append y56.1.2.2 v57
  (fulcrumref05_Norm.F ((((a3.1.1.1, a3.1.1.2), a3.1.2), ((a3.2.1.1, a3.2.1.2), a3.2.2)), ())).bind fun y59 =>
  bif a2 then (bif decide (0 ≤ a1) && decide (a1 < (List.length y56.1.1 : Int)) then (let v60 := List.set y56.1.1 (Int.toNat a1) ((((List.getD y56.1.1 (Int.toNat a1) zt68).1).1, ((((((((((List.getD y56.1.1 (Int.toNat a1) zt68).1).2).1).1).1).1, ((((((List.getD y56.1.1 (Int.toNat a1) zt68).1).2).1).1).1).2), (((((List.getD y56.1.1 (Int.toNat a1) zt68).1).2).1).1).2), ((((((((List.getD y56.1.1 (Int.toNat a1) zt68).1).2).1).2).1).1, ((((((List.getD y56.1.1 (Int.toNat a1) zt68).1).2).1).2).1).2), (((((List.getD y56.1.1 (Int.toNat a1) zt68).1).2).1).2).2)), (((List.getD y56.1.1 (Int.toNat a1) zt68).1).2).2)), (true, ((((y59.1.1.1.1, y59.1.1.1.2), y59.1.1.2), ((y59.1.2.1.1, y59.1.2.1.2), y59.1.2.2)), a4)))
  some ((v60, (y56.1.2.1, v58)), ((1 : Int), (0 : Int)), (0 : Int), ()))
  else none)
  else (bif decide (0 ≤ a1) && decide (a1 < (List.length y56.1.1 : Int)) then (let v61 := List.set y56.1.1 (Int.toNat a1) ((true, ((((y59.1.1.1.1, y59.1.1.1.2), y59.1.1.2), ((y59.1.2.1.1, y59.1.2.1.2), y59.1.2.2)), a4)), (((List.getD y56.1.1 (Int.toNat a1) zt68).2).1, ((((((((((List.getD y56.1.1 (Int.toNat a1) zt68).2).2).1).1).1).1, ((((((List.getD y56.1.1 (Int.toNat a1) zt68).2).2).1).1).1).2), (((((List.getD y56.1.1 (Int.toNat a1) zt68).2).2).1).1).2), ((((((((List.getD y56.1.1 (Int.toNat a1) zt68).2).2).1).2).1).1, ((((((List.getD y56.1.1 (Int.toNat a1) zt68).2).2).1).2).1).2), (((((List.getD y56.1.1 (Int.toNat a1) zt68).2).2).1).2).2)), (((List.getD y56.1.1 (Int.toNat a1) zt68).2).2).2)))
  some ((v61, (y56.1.2.1, v58)), ((1 : Int), (0 : Int)), (0 : Int), ()))
  else none))
  else none)))
  else (bif v11 then ((fulcrumref08_tighter.F (a2, (((a3.1.1.1, a3.1.1.2), a3.1.2), ((a3.2.1.1, a3.2.1.2), a3.2.2)), (((v12, v13), v14), ((v15, v16), v17)), ())).bind fun y62 =>
  bif y62.1 then (some ((a0.1, (a0.2.1, a0.2.2)), ((2 : Int), v18), (0 : Int), ()))
  else ((fulcrumref08_Copy.F ((a0.1, (a0.2.1, a0.2.2)), ())).bind fun y63 =>
  let v64 := ([(a1, (a2, (a0.2.1, (v3, ((((v4, v5), v6), ((v7, v8), v9)), v10)))))] : List Dt70)
  bif decide (List.length y63.1.2.2 + List.length v64 < 925904528653) then (let v65 := List.append y63.1.2.2 v64
  (fulcrumref05_Norm.F ((((a3.1.1.1, a3.1.1.2), a3.1.2), ((a3.2.1.1, a3.2.1.2), a3.2.2)), ())).bind fun y66 =>
  bif a2 then (bif decide (0 ≤ a1) && decide (a1 < (List.length y63.1.1 : Int)) then (let v67 := List.set y63.1.1 (Int.toNat a1) ((((List.getD y63.1.1 (Int.toNat a1) zt68).1).1, ((((((((((List.getD y63.1.1 (Int.toNat a1) zt68).1).2).1).1).1).1, ((((((List.getD y63.1.1 (Int.toNat a1) zt68).1).2).1).1).1).2), (((((List.getD y63.1.1 (Int.toNat a1) zt68).1).2).1).1).2), ((((((((List.getD y63.1.1 (Int.toNat a1) zt68).1).2).1).2).1).1, ((((((List.getD y63.1.1 (Int.toNat a1) zt68).1).2).1).2).1).2), (((((List.getD y63.1.1 (Int.toNat a1) zt68).1).2).1).2).2)), (((List.getD y63.1.1 (Int.toNat a1) zt68).1).2).2)), (true, ((((y66.1.1.1.1, y66.1.1.1.2), y66.1.1.2), ((y66.1.2.1.1, y66.1.2.1.2), y66.1.2.2)), a4)))
  some ((v67, (y63.1.2.1, v65)), ((1 : Int), (0 : Int)), (0 : Int), ()))
  else none)
  else (bif decide (0 ≤ a1) && decide (a1 < (List.length y63.1.1 : Int)) then (let v68 := List.set y63.1.1 (Int.toNat a1) ((true, ((((y66.1.1.1.1, y66.1.1.1.2), y66.1.1.2), ((y66.1.2.1.1, y66.1.2.1.2), y66.1.2.2)), a4)), (((List.getD y63.1.1 (Int.toNat a1) zt68).2).1, ((((((((((List.getD y63.1.1 (Int.toNat a1) zt68).2).2).1).1).1).1, ((((((List.getD y63.1.1 (Int.toNat a1) zt68).2).2).1).1).1).2), (((((List.getD y63.1.1 (Int.toNat a1) zt68).2).2).1).1).2), ((((((((List.getD y63.1.1 (Int.toNat a1) zt68).2).2).1).2).1).1, ((((((List.getD y63.1.1 (Int.toNat a1) zt68).2).2).1).2).1).2), (((((List.getD y63.1.1 (Int.toNat a1) zt68).2).2).1).2).2)), (((List.getD y63.1.1 (Int.toNat a1) zt68).2).2).2)))
  some ((v68, (y63.1.2.1, v65)), ((1 : Int), (0 : Int)), (0 : Int), ()))
  else none))
  else none))
  else ((fulcrumref08_Copy.F ((a0.1, (a0.2.1, a0.2.2)), ())).bind fun y69 =>
  let v70 := ([(a1, (a2, (a0.2.1, (v3, ((((v4, v5), v6), ((v7, v8), v9)), v10)))))] : List Dt70)
  bif decide (List.length y69.1.2.2 + List.length v70 < 925904528653) then (let v71 := List.append y69.1.2.2 v70
  (fulcrumref05_Norm.F ((((a3.1.1.1, a3.1.1.2), a3.1.2), ((a3.2.1.1, a3.2.1.2), a3.2.2)), ())).bind fun y72 =>
  bif a2 then (bif decide (0 ≤ a1) && decide (a1 < (List.length y69.1.1 : Int)) then (let v73 := List.set y69.1.1 (Int.toNat a1) ((((List.getD y69.1.1 (Int.toNat a1) zt68).1).1, ((((((((((List.getD y69.1.1 (Int.toNat a1) zt68).1).2).1).1).1).1, ((((((List.getD y69.1.1 (Int.toNat a1) zt68).1).2).1).1).1).2), (((((List.getD y69.1.1 (Int.toNat a1) zt68).1).2).1).1).2), ((((((((List.getD y69.1.1 (Int.toNat a1) zt68).1).2).1).2).1).1, ((((((List.getD y69.1.1 (Int.toNat a1) zt68).1).2).1).2).1).2), (((((List.getD y69.1.1 (Int.toNat a1) zt68).1).2).1).2).2)), (((List.getD y69.1.1 (Int.toNat a1) zt68).1).2).2)), (true, ((((y72.1.1.1.1, y72.1.1.1.2), y72.1.1.2), ((y72.1.2.1.1, y72.1.2.1.2), y72.1.2.2)), a4)))
  some ((v73, (y69.1.2.1, v71)), ((1 : Int), (0 : Int)), (0 : Int), ()))
  else none)
  else (bif decide (0 ≤ a1) && decide (a1 < (List.length y69.1.1 : Int)) then (let v74 := List.set y69.1.1 (Int.toNat a1) ((true, ((((y72.1.1.1.1, y72.1.1.1.2), y72.1.1.2), ((y72.1.2.1.1, y72.1.2.1.2), y72.1.2.2)), a4)), (((List.getD y69.1.1 (Int.toNat a1) zt68).2).1, ((((((((((List.getD y69.1.1 (Int.toNat a1) zt68).2).2).1).1).1).1, ((((((List.getD y69.1.1 (Int.toNat a1) zt68).2).2).1).1).1).2), (((((List.getD y69.1.1 (Int.toNat a1) zt68).2).2).1).1).2), ((((((((List.getD y69.1.1 (Int.toNat a1) zt68).2).2).1).2).1).1, ((((((List.getD y69.1.1 (Int.toNat a1) zt68).2).2).1).2).1).2), (((((List.getD y69.1.1 (Int.toNat a1) zt68).2).2).1).2).2)), (((List.getD y69.1.1 (Int.toNat a1) zt68).2).2).2)))
  some ((v74, (y69.1.2.1, v71)), ((1 : Int), (0 : Int)), (0 : Int), ()))
  else none))
  else none))))
  else none)
  else none)
theorem fulcrumref08_Assert.eval (k : Nat) (a0 : Dt32) (a1 : Int) (a2 : Bool) (a3 : Dt44) (a4 : Int) : evalF fulcrumref08_Assert.spec fulcrumref08_Assert.cals T Tryz.f29 k (a0, a1, a2, a3, a4, ()) = fulcrumref08_Assert.e  a0 a1 a2 a3 a4 := by kernel_rfl
theorem fulcrumref08_Assert.F_eq (a0 : Dt32) (a1 : Int) (a2 : Bool) (a3 : Dt44) (a4 : Int) : fulcrumref08_Assert.F (a0, a1, a2, a3, a4, ()) = limF fulcrumref08_Assert.spec fulcrumref08_Assert.cals T Tryz.f29 (a0, a1, a2, a3, a4, ()) := by kernel_rfl
theorem fulcrumref08_Assert.of (k : Nat) (a0 : Dt32) (a1 : Int) (a2 : Bool) (a3 : Dt44) (a4 : Int) {y : Dt32 × Dt83 × Int × Unit} (h : fulcrumref08_Assert.e  a0 a1 a2 a3 a4 = some y) : fulcrumref08_Assert.F (a0, a1, a2, a3, a4, ()) = some y := (fulcrumref08_Assert.F_eq a0 a1 a2 a3 a4).trans (limF_of (q := fulcrumref08_Assert.spec) (C := fulcrumref08_Assert.cals) (T := T) (f := Tryz.f29) (x := (a0, a1, a2, a3, a4, ())) (y := y) k ((fulcrumref08_Assert.eval k a0 a1 a2 a3 a4).trans h))

def bounds_Store_Push.spec : XSpec := ⟨some ⟨81, 0, Kt81, 0⟩, false, [], false, none, [], false, fun j => match j with  | _ => []⟩
noncomputable def bounds_Store_Push.cals : Cals := (Cals.consX 36 false bounds_Store_is.sig (Cals.base tabs))
noncomputable def bounds_Store_Push.sig : XSig := bounds_Store_Push.spec.sig bounds_Store_Push.cals T Tryz.f30
noncomputable def bounds_Store_Push.F (d : Dt81) (x : Unit) : Option (Unit × (Unit) × Dt81) := limX bounds_Store_Push.spec bounds_Store_Push.cals T Tryz.f30 d x
theorem bounds_Store_Push.ck : CalsOk Tryz.prog bounds_Store_Push.cals := (CalsOk.consX bounds_Store_is.cal (CalsOk.base tabsOk))
theorem bounds_Store_Push.cal : XOk Tryz.prog tabs 30 bounds_Store_Push.sig := xok_of tabOk bounds_Store_Push.ck mix Tryz.func30 (by kernel_rfl) (by kernel_rfl) (by kernel_rfl) (by kernel_rfl)
noncomputable def bounds_Store_Push.e  (G : Gh) (d : Dt81)  : Option ((Unit × (Unit) × Dt81) × Nat × List Value) :=
  (bounds_Store_is.F ((d.1.1, d.1.2), (d.2.1, d.2.2)) ()).bind fun y1 =>
  bif y1.2.1.1 then (let v2 := IntKind.i64.wrap (y1.2.2.1.1 + (1 : Int))
  some (((), (), ((v2, y1.2.2.1.2), (y1.2.2.2.1, y1.2.2.2.2))), G.b, []))
  else (some (((), (), ((y1.2.2.1.1, y1.2.2.1.2), (y1.2.2.2.1, y1.2.2.2.2))), G.b, []))
theorem bounds_Store_Push.eval (k : Nat) (G : Gh) (d : Dt81)  : evalX bounds_Store_Push.spec bounds_Store_Push.cals T Tryz.f30 k G d () = bounds_Store_Push.e  G d  := by kernel_rfl
theorem bounds_Store_Push.of (d : Dt81)  (y : (Unit × (Unit) × Dt81)) (h : ∀ G : Gh, ∃ k : Nat, bounds_Store_Push.e  G d  = some (y, (G.b, []))) : bounds_Store_Push.F d () = some y := limX_of (q := bounds_Store_Push.spec) (C := bounds_Store_Push.cals) (T := T) (f := Tryz.f30) (d := d) (x := ()) y fun G => (h G).imp fun k hk => (bounds_Store_Push.eval k G d ).trans hk

def fulcrumref08_Push.spec : Spec := ⟨[(true, Kt32)], [(true, Kt32)], .own, fun j => match j with  | _ => []⟩
noncomputable def fulcrumref08_Push.cals : Cals := (Cals.cons 60 fulcrumref08_Copy.sig (Cals.base tabs))
noncomputable def fulcrumref08_Push.sig : Sig := fulcrumref08_Push.spec.sig fulcrumref08_Push.cals T Tryz.f31
noncomputable def fulcrumref08_Push.F (x : Dt32 × Unit) : Option (Dt32 × Unit) := limF fulcrumref08_Push.spec fulcrumref08_Push.cals T Tryz.f31 x
theorem fulcrumref08_Push.ck : CalsOk Tryz.prog fulcrumref08_Push.cals := (CalsOk.cons fulcrumref08_Copy.cal (CalsOk.base tabsOk))
theorem fulcrumref08_Push.cal : CalOk Tryz.prog tabs 31 fulcrumref08_Push.sig := calOk_lim' tabOk fulcrumref08_Push.ck mix Tryz.func31 (by kernel_rfl) (by kernel_rfl) (by kernel_rfl) (by kernel_rfl)
noncomputable def fulcrumref08_Push.e  (a0 : Dt32) : Option (Dt32 × Unit) :=
  (fulcrumref08_Copy.F ((a0.1, (a0.2.1, a0.2.2)), ())).bind fun y1 =>
  let v2 := IntKind.i64.wrap (y1.1.2.1 + (1 : Int))
  some ((y1.1.1, (v2, y1.1.2.2)), ())
theorem fulcrumref08_Push.eval (k : Nat) (a0 : Dt32) : evalF fulcrumref08_Push.spec fulcrumref08_Push.cals T Tryz.f31 k (a0, ()) = fulcrumref08_Push.e  a0 := by kernel_rfl
theorem fulcrumref08_Push.F_eq (a0 : Dt32) : fulcrumref08_Push.F (a0, ()) = limF fulcrumref08_Push.spec fulcrumref08_Push.cals T Tryz.f31 (a0, ()) := by kernel_rfl
theorem fulcrumref08_Push.of (k : Nat) (a0 : Dt32) {y : Dt32 × Unit} (h : fulcrumref08_Push.e  a0 = some y) : fulcrumref08_Push.F (a0, ()) = some y := (fulcrumref08_Push.F_eq a0).trans (limF_of (q := fulcrumref08_Push.spec) (C := fulcrumref08_Push.cals) (T := T) (f := Tryz.f31) (x := (a0, ())) (y := y) k ((fulcrumref08_Push.eval k a0).trans h))

def bounds_trail_last.spec : XSpec := ⟨some ⟨81, 0, Kt79, 2⟩, false, [(false, (.int .i64))], false, none, [(true, Kt70), (false, .bool)], false, fun j => match j with  | _ => []⟩
noncomputable def bounds_trail_last.cals : Cals := (Cals.base tabs)
noncomputable def bounds_trail_last.sig : XSig := bounds_trail_last.spec.sig bounds_trail_last.cals T Tryz.f66
noncomputable def bounds_trail_last.F (d : Dt79) (x : Int × Unit) : Option (Unit × (Dt70 × Bool × Unit) × Dt79) := limX bounds_trail_last.spec bounds_trail_last.cals T Tryz.f66 d x
theorem bounds_trail_last.ck : CalsOk Tryz.prog bounds_trail_last.cals := (CalsOk.base tabsOk)
theorem bounds_trail_last.cal : XOk Tryz.prog tabs 66 bounds_trail_last.sig := xok_of tabOk bounds_trail_last.ck mix Tryz.func66 (by kernel_rfl) (by kernel_rfl) (by kernel_rfl) (by kernel_rfl)
noncomputable def bounds_trail_last.e  (G : Gh) (d : Dt79) (a0 : Int) : Option ((Unit × (Dt70 × Bool × Unit) × Dt79) × Nat × List Value) :=
  let v1 := (List.length d.2 : Int)
  let v2 := IntKind.i64.wrap (v1 - (1 : Int))
  let v3 := decide (v2 < (0 : Int))
  bif v3 then (some (((), (zt70, false, ()), (d.1, d.2)), G.b, [G.v 0, G.v 1]))
  else (bif decide (0 ≤ v2) && decide (v2 < (List.length d.2 : Int)) then (let v4 := (((List.getD d.2 (Int.toNat v2) zt70).2).2).1
  let v5 := decide (v4 ≤ a0)
  bif v5 then (some (((), (zt70, false, ()), (d.1, d.2)), G.b, [G.v 0, G.v 1]))
  else (bif decide (0 ≤ v2) && decide (v2 < (List.length d.2 : Int)) then (let v6 := (List.getD d.2 (Int.toNat v2) zt70).1
  let v7 := ((List.getD d.2 (Int.toNat v2) zt70).2).1
  let v8 := (((List.getD d.2 (Int.toNat v2) zt70).2).2).1
  let v9 := ((((List.getD d.2 (Int.toNat v2) zt70).2).2).2).1
  let v10 := ((((((((List.getD d.2 (Int.toNat v2) zt70).2).2).2).2).1).1).1).1
  let v11 := ((((((((List.getD d.2 (Int.toNat v2) zt70).2).2).2).2).1).1).1).2
  let v12 := (((((((List.getD d.2 (Int.toNat v2) zt70).2).2).2).2).1).1).2
  let v13 := ((((((((List.getD d.2 (Int.toNat v2) zt70).2).2).2).2).1).2).1).1
  let v14 := ((((((((List.getD d.2 (Int.toNat v2) zt70).2).2).2).2).1).2).1).2
  let v15 := (((((((List.getD d.2 (Int.toNat v2) zt70).2).2).2).2).1).2).2
  let v16 := (((((List.getD d.2 (Int.toNat v2) zt70).2).2).2).2).2
  bif decide (0 ≤ v2) && decide (v2 ≤ (List.length d.2 : Int)) then (let v17 := List.take (Int.toNat v2) d.2
  some (((), ((v6, (v7, (v8, (v9, ((((v10, v11), v12), ((v13, v14), v15)), v16))))), true, ()), (d.1, v17)), G.b, [G.v 0, G.v 1]))
  else none)
  else none))
  else none)
theorem bounds_trail_last.eval (k : Nat) (G : Gh) (d : Dt79) (a0 : Int) : evalX bounds_trail_last.spec bounds_trail_last.cals T Tryz.f66 k G d (a0, ()) = bounds_trail_last.e  G d a0 := by kernel_rfl
theorem bounds_trail_last.of (d : Dt79) (a0 : Int) (y : (Unit × (Dt70 × Bool × Unit) × Dt79)) (h : ∀ G : Gh, ∃ k : Nat, bounds_trail_last.e  G d a0 = some (y, (G.b, [G.v 0, G.v 1]))) : bounds_trail_last.F d (a0, ()) = some y := limX_of (q := bounds_trail_last.spec) (C := bounds_trail_last.cals) (T := T) (f := Tryz.f66) (d := d) (x := (a0, ())) y fun G => (h G).imp fun k hk => (bounds_trail_last.eval k G d a0).trans hk

def bounds_Store_Back.spec : XSpec := ⟨some ⟨81, 0, Kt81, 0⟩, false, [(false, (.int .i64))], false, none, [(false, (.int .i64))], false, fun j => match j with | 6 => [(0, .pbox 81 [.v true, .o 70 Kt70 true, .v true, .o 68 Kt68 true]), (1, .lf (.v true)), (5, .box 70 [.v true, .v true, .v true, .v true, .v true, .z 114 (.int .u32) true, .z 114 (.int .u32) true, .v true, .z 114 (.int .u32) true, .z 114 (.int .u32) true, .v true]), (6, .lf (.v true))] | _ => []⟩
noncomputable def bounds_Store_Back.cals : Cals := (Cals.consX 36 false bounds_Store_is.sig (Cals.consX 66 false bounds_trail_last.sig (Cals.base tabs)))
noncomputable def bounds_Store_Back.sig : XSig := bounds_Store_Back.spec.sig bounds_Store_Back.cals T Tryz.f32
noncomputable def bounds_Store_Back.F (d : Dt81) (x : Int × Unit) : Option (Unit × (Int × Unit) × Dt81) := limX bounds_Store_Back.spec bounds_Store_Back.cals T Tryz.f32 d x
theorem bounds_Store_Back.ck : CalsOk Tryz.prog bounds_Store_Back.cals := (CalsOk.consX bounds_Store_is.cal (CalsOk.consX bounds_trail_last.cal (CalsOk.base tabsOk)))
theorem bounds_Store_Back.cal : XOk Tryz.prog tabs 32 bounds_Store_Back.sig := xok_of tabOk bounds_Store_Back.ck mix Tryz.func32 (by kernel_rfl) (by kernel_rfl) (by kernel_rfl) (by kernel_rfl)
def bounds_Store_Back.m6 (x0_g : Nat) (x0_0 : Int) (x0_1 : Dt30) (x0_2 : Bool) (x0_3 : Dt29) (x1 : Int) (x5_0 : Int) (x5_1 : Bool) (x5_2 : Int) (x5_3 : Bool) (x5_4 : Bool) (x5_5 : Dt38) (x5_6 : Dt38) (x5_7 : Bool) (x5_8 : Dt38) (x5_9 : Dt38) (x5_10 : Int) (x6 : Bool) : S := ⟨[(0, .pbox 0 0 x0_g), (1, .one (.lf (.val true (.int .i64) x1))), (5, .box 1 0), (6, .one (.lf (.val true .bool x6)))], ⟨[some ⟨70, Kt70, true, true, x0_1⟩, some ⟨68, Kt68, true, true, x0_3⟩], [some ⟨81, [.val true (.int .i64) x0_0, .own 0, .val true .bool x0_2, .own 1]⟩, some ⟨70, [.val true (.int .i64) x5_0, .val true .bool x5_1, .val true (.int .i64) x5_2, .val true .bool x5_3, .val true .bool x5_4, .val true Kt38 x5_5, .val true Kt38 x5_6, .val true .bool x5_7, .val true Kt38 x5_8, .val true Kt38 x5_9, .val true (.int .i64) x5_10]⟩]⟩⟩
noncomputable def bounds_Store_Back.b6 (f6 : Nat → Int → Dt30 → Bool → Dt29 → Int → Int → Bool → Int → Bool → Bool → Dt38 → Dt38 → Bool → Dt38 → Dt38 → Int → Bool → Option ((Unit × (Int × Unit) × Dt81) × Nat × List Value)) (x0_g : Nat) (x0_0 : Int) (x0_1 : Dt30) (x0_2 : Bool) (x0_3 : Dt29) (x1 : Int) (x5_0 : Int) (x5_1 : Bool) (x5_2 : Int) (x5_3 : Bool) (x5_4 : Bool) (x5_5 : Dt38) (x5_6 : Dt38) (x5_7 : Bool) (x5_8 : Dt38) (x5_9 : Dt38) (x5_10 : Int) (x6 : Bool) : Option ((Unit × (Int × Unit) × Dt81) × Nat × List Value) :=
  bif x6 then (bif x5_1 then (bif decide (0 ≤ x5_0) && decide (x5_0 < (List.length x0_3 : Int)) then (let v1 := List.set x0_3 (Int.toNat x5_0) ((((List.getD x0_3 (Int.toNat x5_0) zt68).1).1, ((((((((((List.getD x0_3 (Int.toNat x5_0) zt68).1).2).1).1).1).1, ((((((List.getD x0_3 (Int.toNat x5_0) zt68).1).2).1).1).1).2), (((((List.getD x0_3 (Int.toNat x5_0) zt68).1).2).1).1).2), ((((((((List.getD x0_3 (Int.toNat x5_0) zt68).1).2).1).2).1).1, ((((((List.getD x0_3 (Int.toNat x5_0) zt68).1).2).1).2).1).2), (((((List.getD x0_3 (Int.toNat x5_0) zt68).1).2).1).2).2)), (((List.getD x0_3 (Int.toNat x5_0) zt68).1).2).2)), (x5_3, ((((x5_4, x5_5), x5_6), ((x5_7, x5_8), x5_9)), x5_10)))
  (bounds_trail_last.F (x0_0, x0_1) (x1, ())).bind fun y2 =>
  f6 x0_g y2.2.2.1 y2.2.2.2 x0_2 v1 x1 y2.2.1.1.1 y2.2.1.1.2.1 y2.2.1.1.2.2.1 y2.2.1.1.2.2.2.1 y2.2.1.1.2.2.2.2.1.1.1.1 y2.2.1.1.2.2.2.2.1.1.1.2 y2.2.1.1.2.2.2.2.1.1.2 y2.2.1.1.2.2.2.2.1.2.1.1 y2.2.1.1.2.2.2.2.1.2.1.2 y2.2.1.1.2.2.2.2.1.2.2 y2.2.1.1.2.2.2.2.2 y2.2.1.2.1)
  else none)
  else (bif decide (0 ≤ x5_0) && decide (x5_0 < (List.length x0_3 : Int)) then (let v3 := List.set x0_3 (Int.toNat x5_0) ((x5_3, ((((x5_4, x5_5), x5_6), ((x5_7, x5_8), x5_9)), x5_10)), (((List.getD x0_3 (Int.toNat x5_0) zt68).2).1, ((((((((((List.getD x0_3 (Int.toNat x5_0) zt68).2).2).1).1).1).1, ((((((List.getD x0_3 (Int.toNat x5_0) zt68).2).2).1).1).1).2), (((((List.getD x0_3 (Int.toNat x5_0) zt68).2).2).1).1).2), ((((((((List.getD x0_3 (Int.toNat x5_0) zt68).2).2).1).2).1).1, ((((((List.getD x0_3 (Int.toNat x5_0) zt68).2).2).1).2).1).2), (((((List.getD x0_3 (Int.toNat x5_0) zt68).2).2).1).2).2)), (((List.getD x0_3 (Int.toNat x5_0) zt68).2).2).2)))
  (bounds_trail_last.F (x0_0, x0_1) (x1, ())).bind fun y4 =>
  f6 x0_g y4.2.2.1 y4.2.2.2 x0_2 v3 x1 y4.2.1.1.1 y4.2.1.1.2.1 y4.2.1.1.2.2.1 y4.2.1.1.2.2.2.1 y4.2.1.1.2.2.2.2.1.1.1.1 y4.2.1.1.2.2.2.2.1.1.1.2 y4.2.1.1.2.2.2.2.1.1.2 y4.2.1.1.2.2.2.2.1.2.1.1 y4.2.1.1.2.2.2.2.1.2.1.2 y4.2.1.1.2.2.2.2.1.2.2 y4.2.1.1.2.2.2.2.2 y4.2.1.2.1)
  else none))
  else (some (((), ((0 : Int), ()), ((x1, x0_1), (x0_2, x0_3))), x0_g, []))
noncomputable def bounds_Store_Back.e (f6 : Nat → Int → Dt30 → Bool → Dt29 → Int → Int → Bool → Int → Bool → Bool → Dt38 → Dt38 → Bool → Dt38 → Dt38 → Int → Bool → Option ((Unit × (Int × Unit) × Dt81) × Nat × List Value)) (G : Gh) (d : Dt81) (a0 : Int) : Option ((Unit × (Int × Unit) × Dt81) × Nat × List Value) :=
  (bounds_Store_is.F ((d.1.1, d.1.2), (d.2.1, d.2.2)) ()).bind fun y1 =>
  let v2 := not y1.2.1.1
  bif v2 then (some (((), ((1 : Int), ()), ((y1.2.2.1.1, y1.2.2.1.2), (y1.2.2.2.1, y1.2.2.2.2))), G.b, []))
  else (let v3 := decide (a0 < (0 : Int))
  bif v3 then (some (((), ((80 : Int), ()), ((y1.2.2.1.1, y1.2.2.1.2), (y1.2.2.2.1, y1.2.2.2.2))), G.b, []))
  else (let v4 := decide (a0 > y1.2.2.1.1)
  bif v4 then (some (((), ((80 : Int), ()), ((y1.2.2.1.1, y1.2.2.1.2), (y1.2.2.2.1, y1.2.2.2.2))), G.b, []))
  else ((bounds_trail_last.F (y1.2.2.1.1, y1.2.2.1.2) (a0, ())).bind fun y5 =>
  f6 G.b y5.2.2.1 y5.2.2.2 y1.2.2.2.1 y1.2.2.2.2 a0 y5.2.1.1.1 y5.2.1.1.2.1 y5.2.1.1.2.2.1 y5.2.1.1.2.2.2.1 y5.2.1.1.2.2.2.2.1.1.1.1 y5.2.1.1.2.2.2.2.1.1.1.2 y5.2.1.1.2.2.2.2.1.1.2 y5.2.1.1.2.2.2.2.1.2.1.1 y5.2.1.1.2.2.2.2.1.2.1.2 y5.2.1.1.2.2.2.2.1.2.2 y5.2.1.1.2.2.2.2.2 y5.2.1.2.1)))
noncomputable def bounds_Store_Back.L6 (k : Nat) (x0_g : Nat) (x0_0 : Int) (x0_1 : Dt30) (x0_2 : Bool) (x0_3 : Dt29) (x1 : Int) (x5_0 : Int) (x5_1 : Bool) (x5_2 : Int) (x5_3 : Bool) (x5_4 : Bool) (x5_5 : Dt38) (x5_6 : Dt38) (x5_7 : Bool) (x5_8 : Dt38) (x5_9 : Dt38) (x5_10 : Int) (x6 : Bool) : Option ((Unit × (Int × Unit) × Dt81) × Nat × List Value) := heads (bounds_Store_Back.spec.env bounds_Store_Back.cals T Tryz.f32) (Func.pts Tryz.f32) k 6 (bounds_Store_Back.m6 x0_g x0_0 x0_1 x0_2 x0_3 x1 x5_0 x5_1 x5_2 x5_3 x5_4 x5_5 x5_6 x5_7 x5_8 x5_9 x5_10 x6)
theorem bounds_Store_Back.L6_succ (k : Nat) (x0_g : Nat) (x0_0 : Int) (x0_1 : Dt30) (x0_2 : Bool) (x0_3 : Dt29) (x1 : Int) (x5_0 : Int) (x5_1 : Bool) (x5_2 : Int) (x5_3 : Bool) (x5_4 : Bool) (x5_5 : Dt38) (x5_6 : Dt38) (x5_7 : Bool) (x5_8 : Dt38) (x5_9 : Dt38) (x5_10 : Int) (x6 : Bool) : bounds_Store_Back.L6 (k + 1) x0_g x0_0 x0_1 x0_2 x0_3 x1 x5_0 x5_1 x5_2 x5_3 x5_4 x5_5 x5_6 x5_7 x5_8 x5_9 x5_10 x6 = bounds_Store_Back.b6 (bounds_Store_Back.L6 k) x0_g x0_0 x0_1 x0_2 x0_3 x1 x5_0 x5_1 x5_2 x5_3 x5_4 x5_5 x5_6 x5_7 x5_8 x5_9 x5_10 x6 := by kernel_rfl
theorem bounds_Store_Back.eval (k : Nat) (G : Gh) (d : Dt81) (a0 : Int) : evalX bounds_Store_Back.spec bounds_Store_Back.cals T Tryz.f32 k G d (a0, ()) = bounds_Store_Back.e (bounds_Store_Back.L6 k) G d a0 := by kernel_rfl
theorem bounds_Store_Back.of (d : Dt81) (a0 : Int) (y : (Unit × (Int × Unit) × Dt81)) (h : ∀ G : Gh, ∃ k : Nat, bounds_Store_Back.e (bounds_Store_Back.L6 k) G d a0 = some (y, (G.b, []))) : bounds_Store_Back.F d (a0, ()) = some y := limX_of (q := bounds_Store_Back.spec) (C := bounds_Store_Back.cals) (T := T) (f := Tryz.f32) (d := d) (x := (a0, ())) y fun G => (h G).imp fun k hk => (bounds_Store_Back.eval k G d a0).trans hk

def fulcrumref08_undo.spec : XSpec := ⟨none, false, [(true, Kt32)], true, none, [(true, Kt32)], true, fun j => match j with  | _ => []⟩
noncomputable def fulcrumref08_undo.cals : Cals := (Cals.base tabs)
noncomputable def fulcrumref08_undo.sig : XSig := fulcrumref08_undo.spec.sig fulcrumref08_undo.cals T Tryz.f67
noncomputable def fulcrumref08_undo.F (d : Unit) (x : Dt32 × Unit) : Option (Unit × (Dt32 × Unit) × Unit) := limX fulcrumref08_undo.spec fulcrumref08_undo.cals T Tryz.f67 d x
theorem fulcrumref08_undo.ck : CalsOk Tryz.prog fulcrumref08_undo.cals := (CalsOk.base tabsOk)
theorem fulcrumref08_undo.cal : XOk Tryz.prog tabs 67 fulcrumref08_undo.sig := xok_of tabOk fulcrumref08_undo.ck mix Tryz.func67 (by kernel_rfl) (by kernel_rfl) (by kernel_rfl) (by kernel_rfl)
noncomputable def fulcrumref08_undo.e  (G : Gh) (d : Unit) (a0 : Dt32) : Option ((Unit × (Dt32 × Unit) × Unit) × Nat × List Value) :=
  let v1 := (List.length a0.2.2 : Int)
  let v2 := IntKind.i64.wrap (v1 - (1 : Int))
  bif decide (0 ≤ v2) && decide (v2 < (List.length a0.2.2 : Int)) then (let v3 := (List.getD a0.2.2 (Int.toNat v2) zt70).1
  let v4 := ((List.getD a0.2.2 (Int.toNat v2) zt70).2).1
  let v5 := (((List.getD a0.2.2 (Int.toNat v2) zt70).2).2).1
  let v6 := ((((List.getD a0.2.2 (Int.toNat v2) zt70).2).2).2).1
  let v7 := ((((((((List.getD a0.2.2 (Int.toNat v2) zt70).2).2).2).2).1).1).1).1
  let v8 := ((((((((List.getD a0.2.2 (Int.toNat v2) zt70).2).2).2).2).1).1).1).2
  let v9 := (((((((List.getD a0.2.2 (Int.toNat v2) zt70).2).2).2).2).1).1).2
  let v10 := ((((((((List.getD a0.2.2 (Int.toNat v2) zt70).2).2).2).2).1).2).1).1
  let v11 := ((((((((List.getD a0.2.2 (Int.toNat v2) zt70).2).2).2).2).1).2).1).2
  let v12 := (((((((List.getD a0.2.2 (Int.toNat v2) zt70).2).2).2).2).1).2).2
  let v13 := (((((List.getD a0.2.2 (Int.toNat v2) zt70).2).2).2).2).2
  let v14 := (List.length a0.2.2 : Int)
  let v15 := IntKind.i64.wrap (v14 - (1 : Int))
  bif decide (0 ≤ v15) && decide (v15 ≤ (List.length a0.2.2 : Int)) then (let v16 := List.take (Int.toNat v15) a0.2.2
  bif v4 then (bif decide (0 ≤ v3) && decide (v3 < (List.length a0.1 : Int)) then (let v17 := List.set a0.1 (Int.toNat v3) ((((List.getD a0.1 (Int.toNat v3) zt68).1).1, ((((((((((List.getD a0.1 (Int.toNat v3) zt68).1).2).1).1).1).1, ((((((List.getD a0.1 (Int.toNat v3) zt68).1).2).1).1).1).2), (((((List.getD a0.1 (Int.toNat v3) zt68).1).2).1).1).2), ((((((((List.getD a0.1 (Int.toNat v3) zt68).1).2).1).2).1).1, ((((((List.getD a0.1 (Int.toNat v3) zt68).1).2).1).2).1).2), (((((List.getD a0.1 (Int.toNat v3) zt68).1).2).1).2).2)), (((List.getD a0.1 (Int.toNat v3) zt68).1).2).2)), (v6, ((((v7, v8), v9), ((v10, v11), v12)), v13)))
  some (((), ((v17, (a0.2.1, v16)), ()), ()), 0, []))
  else none)
  else (bif decide (0 ≤ v3) && decide (v3 < (List.length a0.1 : Int)) then (let v18 := List.set a0.1 (Int.toNat v3) ((v6, ((((v7, v8), v9), ((v10, v11), v12)), v13)), (((List.getD a0.1 (Int.toNat v3) zt68).2).1, ((((((((((List.getD a0.1 (Int.toNat v3) zt68).2).2).1).1).1).1, ((((((List.getD a0.1 (Int.toNat v3) zt68).2).2).1).1).1).2), (((((List.getD a0.1 (Int.toNat v3) zt68).2).2).1).1).2), ((((((((List.getD a0.1 (Int.toNat v3) zt68).2).2).1).2).1).1, ((((((List.getD a0.1 (Int.toNat v3) zt68).2).2).1).2).1).2), (((((List.getD a0.1 (Int.toNat v3) zt68).2).2).1).2).2)), (((List.getD a0.1 (Int.toNat v3) zt68).2).2).2)))
  some (((), ((v18, (a0.2.1, v16)), ()), ()), 0, []))
  else none))
  else none)
  else none
theorem fulcrumref08_undo.eval (k : Nat) (G : Gh) (d : Unit) (a0 : Dt32) : evalX fulcrumref08_undo.spec fulcrumref08_undo.cals T Tryz.f67 k G d (a0, ()) = fulcrumref08_undo.e  G d a0 := by kernel_rfl
theorem fulcrumref08_undo.of (d : Unit) (a0 : Dt32) (y : (Unit × (Dt32 × Unit) × Unit)) (h : ∀ G : Gh, ∃ k : Nat, fulcrumref08_undo.e  G d a0 = some (y, (0, []))) : fulcrumref08_undo.F d (a0, ()) = some y := limX_of (q := fulcrumref08_undo.spec) (C := fulcrumref08_undo.cals) (T := T) (f := Tryz.f67) (d := d) (x := (a0, ())) y fun G => (h G).imp fun k hk => (fulcrumref08_undo.eval k G d a0).trans hk

def fulcrumref08_Back.spec : Spec := ⟨[(true, Kt32), (false, (.int .i64))], [(true, Kt32), (false, (.int .i64))], .shared, fun j => match j with | 4 => [(1, .lf (.v true)), (4, .box 32 [.v true, .v true, .v true]), (6, .box 32 [.o 68 Kt68 true, .v true, .o 70 Kt70 true])] | _ => []⟩
noncomputable def fulcrumref08_Back.cals : Cals := (Cals.consX 67 false fulcrumref08_undo.sig (Cals.cons 60 fulcrumref08_Copy.sig (Cals.base tabs)))
noncomputable def fulcrumref08_Back.sig : Sig := fulcrumref08_Back.spec.sig fulcrumref08_Back.cals T Tryz.f33
noncomputable def fulcrumref08_Back.F (x : Dt32 × Int × Unit) : Option (Dt32 × Int × Unit) := limF fulcrumref08_Back.spec fulcrumref08_Back.cals T Tryz.f33 x
theorem fulcrumref08_Back.ck : CalsOk Tryz.prog fulcrumref08_Back.cals := (CalsOk.consX fulcrumref08_undo.cal (CalsOk.cons fulcrumref08_Copy.cal (CalsOk.base tabsOk)))
theorem fulcrumref08_Back.cal : CalOk Tryz.prog tabs 33 fulcrumref08_Back.sig := calOk_lim' tabOk fulcrumref08_Back.ck mix Tryz.func33 (by kernel_rfl) (by kernel_rfl) (by kernel_rfl) (by kernel_rfl)
def fulcrumref08_Back.m4 (x1 : Int) (x4_1 : Int) (x6_0 : Dt29) (x6_1 : Int) (x6_2 : Dt30) : S := ⟨[(1, .one (.lf (.val true (.int .i64) x1))), (4, .box 0 0), (6, .box 1 0)], ⟨[some ⟨68, Kt68, true, true, x6_0⟩, some ⟨70, Kt70, true, true, x6_2⟩], [some ⟨32, [.nil, .val true (.int .i64) x4_1, .nil]⟩, some ⟨32, [.own 0, .val true (.int .i64) x6_1, .own 1]⟩]⟩⟩
noncomputable def fulcrumref08_Back.b4 (f4 : Int → Int → Dt29 → Int → Dt30 → Option (Dt32 × Int × Unit)) (x1 : Int) (x4_1 : Int) (x6_0 : Dt29) (x6_1 : Int) (x6_2 : Dt30) : Option (Dt32 × Int × Unit) :=
  let v1 := (List.length x6_2 : Int)
  let v2 := decide (v1 > (0 : Int))
  bif v2 then (let v3 := (List.length x6_2 : Int)
  let v4 := IntKind.i64.wrap (v3 - (1 : Int))
  bif decide (0 ≤ v4) && decide (v4 < (List.length x6_2 : Int)) then (let v5 := (((List.getD x6_2 (Int.toNat v4) zt70).2).2).1
  let v6 := decide (v5 > x1)
  bif v6 then ((fulcrumref08_undo.F () ((x6_0, (x6_1, x6_2)), ())).bind fun y7 =>
  f4 x1 x4_1 y7.2.1.1.1 y7.2.1.1.2.1 y7.2.1.1.2.2)
  else (some ((x6_0, (x1, x6_2)), (0 : Int), ())))
  else none)
  else (some ((x6_0, (x1, x6_2)), (0 : Int), ()))
noncomputable def fulcrumref08_Back.e (f4 : Int → Int → Dt29 → Int → Dt30 → Option (Dt32 × Int × Unit)) (a0 : Dt32) (a1 : Int) : Option (Dt32 × Int × Unit) :=
  let v1 := decide (a1 < (0 : Int))
  bif v1 then (some ((a0.1, (a0.2.1, a0.2.2)), (80 : Int), ()))
  else (let v2 := decide (a1 > a0.2.1)
  bif v2 then (some ((a0.1, (a0.2.1, a0.2.2)), (80 : Int), ()))
  else ((fulcrumref08_Copy.F ((a0.1, (a0.2.1, a0.2.2)), ())).bind fun y3 =>
  f4 a1 (0 : Int) y3.1.1 y3.1.2.1 y3.1.2.2))
noncomputable def fulcrumref08_Back.L4 (k : Nat) (x1 : Int) (x4_1 : Int) (x6_0 : Dt29) (x6_1 : Int) (x6_2 : Dt30) : Option (Dt32 × Int × Unit) := heads (fulcrumref08_Back.spec.env fulcrumref08_Back.cals T Tryz.f33) (Func.pts Tryz.f33) k 4 (fulcrumref08_Back.m4 x1 x4_1 x6_0 x6_1 x6_2)
theorem fulcrumref08_Back.L4_succ (k : Nat) (x1 : Int) (x4_1 : Int) (x6_0 : Dt29) (x6_1 : Int) (x6_2 : Dt30) : fulcrumref08_Back.L4 (k + 1) x1 x4_1 x6_0 x6_1 x6_2 = fulcrumref08_Back.b4 (fulcrumref08_Back.L4 k) x1 x4_1 x6_0 x6_1 x6_2 := by kernel_rfl
theorem fulcrumref08_Back.eval (k : Nat) (a0 : Dt32) (a1 : Int) : evalF fulcrumref08_Back.spec fulcrumref08_Back.cals T Tryz.f33 k (a0, a1, ()) = fulcrumref08_Back.e (fulcrumref08_Back.L4 k) a0 a1 := by kernel_rfl
theorem fulcrumref08_Back.F_eq (a0 : Dt32) (a1 : Int) : fulcrumref08_Back.F (a0, a1, ()) = limF fulcrumref08_Back.spec fulcrumref08_Back.cals T Tryz.f33 (a0, a1, ()) := by kernel_rfl
theorem fulcrumref08_Back.of (k : Nat) (a0 : Dt32) (a1 : Int) {y : Dt32 × Int × Unit} (h : fulcrumref08_Back.e (fulcrumref08_Back.L4 k) a0 a1 = some y) : fulcrumref08_Back.F (a0, a1, ()) = some y := (fulcrumref08_Back.F_eq a0 a1).trans (limF_of (q := fulcrumref08_Back.spec) (C := fulcrumref08_Back.cals) (T := T) (f := Tryz.f33) (x := (a0, a1, ())) (y := y) k ((fulcrumref08_Back.eval k a0 a1).trans h))

def bounds_Store_Grow.spec : XSpec := ⟨some ⟨81, 0, Kt81, 0⟩, false, [], false, none, [(false, (.int .i64)), (false, (.int .i64))], false, fun j => match j with  | _ => []⟩
noncomputable def bounds_Store_Grow.cals : Cals := (Cals.consX 36 false bounds_Store_is.sig (Cals.base tabs))
noncomputable def bounds_Store_Grow.sig : XSig := bounds_Store_Grow.spec.sig bounds_Store_Grow.cals T Tryz.f34
noncomputable def bounds_Store_Grow.F (d : Dt81) (x : Unit) : Option (Unit × (Int × Int × Unit) × Dt81) := limX bounds_Store_Grow.spec bounds_Store_Grow.cals T Tryz.f34 d x
theorem bounds_Store_Grow.ck : CalsOk Tryz.prog bounds_Store_Grow.cals := (CalsOk.consX bounds_Store_is.cal (CalsOk.base tabsOk))
theorem bounds_Store_Grow.cal : XOk Tryz.prog tabs 34 bounds_Store_Grow.sig := xok_of tabOk bounds_Store_Grow.ck mix Tryz.func34 (by kernel_rfl) (by kernel_rfl) (by kernel_rfl) (by kernel_rfl)
noncomputable def bounds_Store_Grow.e  (G : Gh) (d : Dt81)  : Option ((Unit × (Int × Int × Unit) × Dt81) × Nat × List Value) :=
  (bounds_Store_is.F ((d.1.1, d.1.2), (d.2.1, d.2.2)) ()).bind fun y1 =>
  let v2 := not y1.2.1.1
  bif v2 then (some (((), ((0 : Int), (1 : Int), ()), ((y1.2.2.1.1, y1.2.2.1.2), (y1.2.2.2.1, y1.2.2.2.2))), G.b, []))
  else (let v3 := (List.length y1.2.2.2.2 : Int)
  let v4 := (v3 == (65536 : Int))
  bif v4 then (some (((), ((0 : Int), (2 : Int), ()), ((y1.2.2.1.1, y1.2.2.1.2), (y1.2.2.2.1, y1.2.2.2.2))), G.b, []))
  else (let v5 := ([zt68] : List Dt68)
  bif decide (List.length y1.2.2.2.2 + List.length v5 < 549755813888) then (let v6 := List.append y1.2.2.2.2 v5
  let v7 := (List.length v6 : Int)
  let v8 := IntKind.i64.wrap (v7 - (1 : Int))
  some (((), (v8, (0 : Int), ()), ((y1.2.2.1.1, y1.2.2.1.2), (y1.2.2.2.1, v6))), G.b, []))
  else none))
theorem bounds_Store_Grow.eval (k : Nat) (G : Gh) (d : Dt81)  : evalX bounds_Store_Grow.spec bounds_Store_Grow.cals T Tryz.f34 k G d () = bounds_Store_Grow.e  G d  := by kernel_rfl
theorem bounds_Store_Grow.of (d : Dt81)  (y : (Unit × (Int × Int × Unit) × Dt81)) (h : ∀ G : Gh, ∃ k : Nat, bounds_Store_Grow.e  G d  = some (y, (G.b, []))) : bounds_Store_Grow.F d () = some y := limX_of (q := bounds_Store_Grow.spec) (C := bounds_Store_Grow.cals) (T := T) (f := Tryz.f34) (d := d) (x := ()) y fun G => (h G).imp fun k hk => (bounds_Store_Grow.eval k G d ).trans hk

def fulcrumref08_Grow.spec : Spec := ⟨[(true, Kt32)], [(true, Kt32), (false, (.int .i64)), (false, (.int .i64))], .shared, fun j => match j with  | _ => []⟩
noncomputable def fulcrumref08_Grow.cals : Cals := (Cals.cons 60 fulcrumref08_Copy.sig (Cals.base tabs))
noncomputable def fulcrumref08_Grow.sig : Sig := fulcrumref08_Grow.spec.sig fulcrumref08_Grow.cals T Tryz.f35
noncomputable def fulcrumref08_Grow.F (x : Dt32 × Unit) : Option (Dt32 × Int × Int × Unit) := limF fulcrumref08_Grow.spec fulcrumref08_Grow.cals T Tryz.f35 x
theorem fulcrumref08_Grow.ck : CalsOk Tryz.prog fulcrumref08_Grow.cals := (CalsOk.cons fulcrumref08_Copy.cal (CalsOk.base tabsOk))
theorem fulcrumref08_Grow.cal : CalOk Tryz.prog tabs 35 fulcrumref08_Grow.sig := calOk_lim' tabOk fulcrumref08_Grow.ck mix Tryz.func35 (by kernel_rfl) (by kernel_rfl) (by kernel_rfl) (by kernel_rfl)
noncomputable def fulcrumref08_Grow.e  (a0 : Dt32) : Option (Dt32 × Int × Int × Unit) :=
  let v1 := (List.length a0.1 : Int)
  let v2 := decide (v1 ≥ (65536 : Int))
  bif v2 then (some ((a0.1, (a0.2.1, a0.2.2)), (0 : Int), (2 : Int), ()))
  else ((fulcrumref08_Copy.F ((a0.1, (a0.2.1, a0.2.2)), ())).bind fun y3 =>
  let v4 := ([zt68] : List Dt68)
  bif decide (List.length y3.1.1 + List.length v4 < 549755813888) then (let v5 := List.append y3.1.1 v4
  let v6 := (List.length a0.1 : Int)
  some ((v5, (y3.1.2.1, y3.1.2.2)), v6, (0 : Int), ()))
  else none)
theorem fulcrumref08_Grow.eval (k : Nat) (a0 : Dt32) : evalF fulcrumref08_Grow.spec fulcrumref08_Grow.cals T Tryz.f35 k (a0, ()) = fulcrumref08_Grow.e  a0 := by kernel_rfl
theorem fulcrumref08_Grow.F_eq (a0 : Dt32) : fulcrumref08_Grow.F (a0, ()) = limF fulcrumref08_Grow.spec fulcrumref08_Grow.cals T Tryz.f35 (a0, ()) := by kernel_rfl
theorem fulcrumref08_Grow.of (k : Nat) (a0 : Dt32) {y : Dt32 × Int × Int × Unit} (h : fulcrumref08_Grow.e  a0 = some y) : fulcrumref08_Grow.F (a0, ()) = some y := (fulcrumref08_Grow.F_eq a0).trans (limF_of (q := fulcrumref08_Grow.spec) (C := fulcrumref08_Grow.cals) (T := T) (f := Tryz.f35) (x := (a0, ())) (y := y) k ((fulcrumref08_Grow.eval k a0).trans h))

def fulcrumlaw08_move.spec : XSpec := ⟨some ⟨81, 0, Kt81, 0⟩, false, [(true, Kt32), (true, Kt47)], false, none, [(true, Kt32), (false, .bool)], false, fun j => match j with  | _ => []⟩
noncomputable def fulcrumlaw08_move.cals : Cals := (Cals.withEq 83 2 (Cals.consX 27 false bounds_Store_Lift.sig (Cals.consX 28 false bounds_Store_Press.sig (Cals.consX 30 false bounds_Store_Push.sig (Cals.consX 32 false bounds_Store_Back.sig (Cals.consX 34 false bounds_Store_Grow.sig (Cals.cons 29 fulcrumref08_Assert.sig (Cals.cons 31 fulcrumref08_Push.sig (Cals.cons 33 fulcrumref08_Back.sig (Cals.cons 35 fulcrumref08_Grow.sig (Cals.base tabs)))))))))))
noncomputable def fulcrumlaw08_move.sig : XSig := fulcrumlaw08_move.spec.sig fulcrumlaw08_move.cals T Tryz.f9
noncomputable def fulcrumlaw08_move.F (d : Dt81) (x : Dt32 × Dt47 × Unit) : Option (Unit × (Dt32 × Bool × Unit) × Dt81) := limX fulcrumlaw08_move.spec fulcrumlaw08_move.cals T Tryz.f9 d x
theorem fulcrumlaw08_move.ck : CalsOk Tryz.prog fulcrumlaw08_move.cals := (CalsOk.withEq eqOk83 (CalsOk.consX bounds_Store_Lift.cal (CalsOk.consX bounds_Store_Press.cal (CalsOk.consX bounds_Store_Push.cal (CalsOk.consX bounds_Store_Back.cal (CalsOk.consX bounds_Store_Grow.cal (CalsOk.cons fulcrumref08_Assert.cal (CalsOk.cons fulcrumref08_Push.cal (CalsOk.cons fulcrumref08_Back.cal (CalsOk.cons fulcrumref08_Grow.cal (CalsOk.base tabsOk)))))))))))
theorem fulcrumlaw08_move.cal : XOk Tryz.prog tabs 9 fulcrumlaw08_move.sig := xok_of tabOk fulcrumlaw08_move.ck mix Tryz.func9 (by kernel_rfl) (by kernel_rfl) (by kernel_rfl) (by kernel_rfl)
noncomputable def fulcrumlaw08_move.e  (G : Gh) (d : Dt81) (a0 : Dt32) (a1 : Dt47) : Option ((Unit × (Dt32 × Bool × Unit) × Dt81) × Nat × List Value) :=
  let v1 := (a1.1 == (0 : Int))
  bif v1 then (let v2 := (a1.1 == (0 : Int))
  bif v2 then ((bounds_Store_Lift.F ((d.1.1, d.1.2), (d.2.1, d.2.2)) (a1.2.1, (((a1.2.2.1.1.1.1, a1.2.2.1.1.1.2), a1.2.2.1.1.2), ((a1.2.2.1.2.1.1, a1.2.2.1.2.1.2), a1.2.2.1.2.2)), a1.2.2.2.1, ())).bind fun y3 =>
  let v4 := (a1.1 == (1 : Int))
  (fulcrumref08_Assert.F ((a0.1, (a0.2.1, a0.2.2)), a1.2.1, v4, (((a1.2.2.1.1.1.1, a1.2.2.1.1.1.2), a1.2.2.1.1.2), ((a1.2.2.1.2.1.1, a1.2.2.1.2.1.2), a1.2.2.1.2.2)), a1.2.2.2.1, ())).bind fun y5 =>
  let v6 := eqI y3.2.1.1.1 y5.2.1.1 && (eqI y3.2.1.1.2 y5.2.1.2 && true)
  bif v6 then (let v7 := (y3.2.1.2.1 == y5.2.2.1)
  some (((), ((y5.1.1, (y5.1.2.1, y5.1.2.2)), v7, ()), ((y3.2.2.1.1, y3.2.2.1.2), (y3.2.2.2.1, y3.2.2.2.2))), G.b, []))
  else (some (((), ((y5.1.1, (y5.1.2.1, y5.1.2.2)), false, ()), ((y3.2.2.1.1, y3.2.2.1.2), (y3.2.2.2.1, y3.2.2.2.2))), G.b, [])))
  else ((bounds_Store_Press.F ((d.1.1, d.1.2), (d.2.1, d.2.2)) (a1.2.1, (((a1.2.2.1.1.1.1, a1.2.2.1.1.1.2), a1.2.2.1.1.2), ((a1.2.2.1.2.1.1, a1.2.2.1.2.1.2), a1.2.2.1.2.2)), a1.2.2.2.1, ())).bind fun y8 =>
  let v9 := (a1.1 == (1 : Int))
  (fulcrumref08_Assert.F ((a0.1, (a0.2.1, a0.2.2)), a1.2.1, v9, (((a1.2.2.1.1.1.1, a1.2.2.1.1.1.2), a1.2.2.1.1.2), ((a1.2.2.1.2.1.1, a1.2.2.1.2.1.2), a1.2.2.1.2.2)), a1.2.2.2.1, ())).bind fun y10 =>
  let v11 := eqI y8.2.1.1.1 y10.2.1.1 && (eqI y8.2.1.1.2 y10.2.1.2 && true)
  bif v11 then (let v12 := (y8.2.1.2.1 == y10.2.2.1)
  some (((), ((y10.1.1, (y10.1.2.1, y10.1.2.2)), v12, ()), ((y8.2.2.1.1, y8.2.2.1.2), (y8.2.2.2.1, y8.2.2.2.2))), G.b, []))
  else (some (((), ((y10.1.1, (y10.1.2.1, y10.1.2.2)), false, ()), ((y8.2.2.1.1, y8.2.2.1.2), (y8.2.2.2.1, y8.2.2.2.2))), G.b, []))))
  else (let v13 := (a1.1 == (1 : Int))
  bif v13 then (let v14 := (a1.1 == (0 : Int))
  bif v14 then ((bounds_Store_Lift.F ((d.1.1, d.1.2), (d.2.1, d.2.2)) (a1.2.1, (((a1.2.2.1.1.1.1, a1.2.2.1.1.1.2), a1.2.2.1.1.2), ((a1.2.2.1.2.1.1, a1.2.2.1.2.1.2), a1.2.2.1.2.2)), a1.2.2.2.1, ())).bind fun y15 =>
  let v16 := (a1.1 == (1 : Int))
  (fulcrumref08_Assert.F ((a0.1, (a0.2.1, a0.2.2)), a1.2.1, v16, (((a1.2.2.1.1.1.1, a1.2.2.1.1.1.2), a1.2.2.1.1.2), ((a1.2.2.1.2.1.1, a1.2.2.1.2.1.2), a1.2.2.1.2.2)), a1.2.2.2.1, ())).bind fun y17 =>
  let v18 := eqI y15.2.1.1.1 y17.2.1.1 && (eqI y15.2.1.1.2 y17.2.1.2 && true)
  bif v18 then (let v19 := (y15.2.1.2.1 == y17.2.2.1)
  some (((), ((y17.1.1, (y17.1.2.1, y17.1.2.2)), v19, ()), ((y15.2.2.1.1, y15.2.2.1.2), (y15.2.2.2.1, y15.2.2.2.2))), G.b, []))
  else (some (((), ((y17.1.1, (y17.1.2.1, y17.1.2.2)), false, ()), ((y15.2.2.1.1, y15.2.2.1.2), (y15.2.2.2.1, y15.2.2.2.2))), G.b, [])))
  else ((bounds_Store_Press.F ((d.1.1, d.1.2), (d.2.1, d.2.2)) (a1.2.1, (((a1.2.2.1.1.1.1, a1.2.2.1.1.1.2), a1.2.2.1.1.2), ((a1.2.2.1.2.1.1, a1.2.2.1.2.1.2), a1.2.2.1.2.2)), a1.2.2.2.1, ())).bind fun y20 =>
  let v21 := (a1.1 == (1 : Int))
  (fulcrumref08_Assert.F ((a0.1, (a0.2.1, a0.2.2)), a1.2.1, v21, (((a1.2.2.1.1.1.1, a1.2.2.1.1.1.2), a1.2.2.1.1.2), ((a1.2.2.1.2.1.1, a1.2.2.1.2.1.2), a1.2.2.1.2.2)), a1.2.2.2.1, ())).bind fun y22 =>
  let v23 := eqI y20.2.1.1.1 y22.2.1.1 && (eqI y20.2.1.1.2 y22.2.1.2 && true)
  bif v23 then (let v24 := (y20.2.1.2.1 == y22.2.2.1)
  some (((), ((y22.1.1, (y22.1.2.1, y22.1.2.2)), v24, ()), ((y20.2.2.1.1, y20.2.2.1.2), (y20.2.2.2.1, y20.2.2.2.2))), G.b, []))
  else (some (((), ((y22.1.1, (y22.1.2.1, y22.1.2.2)), false, ()), ((y20.2.2.1.1, y20.2.2.1.2), (y20.2.2.2.1, y20.2.2.2.2))), G.b, []))))
  else (let v25 := (a1.1 == (2 : Int))
  bif v25 then ((bounds_Store_Push.F ((d.1.1, d.1.2), (d.2.1, d.2.2)) ()).bind fun y26 =>
  (fulcrumref08_Push.F ((a0.1, (a0.2.1, a0.2.2)), ())).bind fun y27 =>
  some (((), ((y27.1.1, (y27.1.2.1, y27.1.2.2)), true, ()), ((y26.2.2.1.1, y26.2.2.1.2), (y26.2.2.2.1, y26.2.2.2.2))), G.b, []))
  else (let v28 := (a1.1 == (3 : Int))
  bif v28 then ((bounds_Store_Back.F ((d.1.1, d.1.2), (d.2.1, d.2.2)) (a1.2.2.2.1, ())).bind fun y29 =>
  (fulcrumref08_Back.F ((a0.1, (a0.2.1, a0.2.2)), a1.2.2.2.1, ())).bind fun y30 =>
  let v31 := (y29.2.1.1 == y30.2.1)
  some (((), ((y30.1.1, (y30.1.2.1, y30.1.2.2)), v31, ()), ((y29.2.2.1.1, y29.2.2.1.2), (y29.2.2.2.1, y29.2.2.2.2))), G.b, []))
  else (let v32 := (a1.1 == (4 : Int))
  bif v32 then ((bounds_Store_Grow.F ((d.1.1, d.1.2), (d.2.1, d.2.2)) ()).bind fun y33 =>
  (fulcrumref08_Grow.F ((a0.1, (a0.2.1, a0.2.2)), ())).bind fun y34 =>
  let v35 := (y33.2.1.1 == y34.2.1)
  bif v35 then (let v36 := (y33.2.1.2.1 == y34.2.2.1)
  some (((), ((y34.1.1, (y34.1.2.1, y34.1.2.2)), v36, ()), ((y33.2.2.1.1, y33.2.2.1.2), (y33.2.2.2.1, y33.2.2.2.2))), G.b, []))
  else (some (((), ((y34.1.1, (y34.1.2.1, y34.1.2.2)), false, ()), ((y33.2.2.1.1, y33.2.2.1.2), (y33.2.2.2.1, y33.2.2.2.2))), G.b, [])))
  else (some (((), ((a0.1, (a0.2.1, a0.2.2)), true, ()), ((d.1.1, d.1.2), (d.2.1, d.2.2))), G.b, []))))))
theorem fulcrumlaw08_move.eval (k : Nat) (G : Gh) (d : Dt81) (a0 : Dt32) (a1 : Dt47) : evalX fulcrumlaw08_move.spec fulcrumlaw08_move.cals T Tryz.f9 k G d (a0, a1, ()) = fulcrumlaw08_move.e  G d a0 a1 := by kernel_rfl
theorem fulcrumlaw08_move.of (d : Dt81) (a0 : Dt32) (a1 : Dt47) (y : (Unit × (Dt32 × Bool × Unit) × Dt81)) (h : ∀ G : Gh, ∃ k : Nat, fulcrumlaw08_move.e  G d a0 a1 = some (y, (G.b, []))) : fulcrumlaw08_move.F d (a0, a1, ()) = some y := limX_of (q := fulcrumlaw08_move.spec) (C := fulcrumlaw08_move.cals) (T := T) (f := Tryz.f9) (d := d) (x := (a0, a1, ())) y fun G => (h G).imp fun k hk => (fulcrumlaw08_move.eval k G d a0 a1).trans hk

def bounds_Store_Vars.spec : XSpec := ⟨some ⟨81, 0, Kt81, 0⟩, false, [], false, none, [(false, (.int .i64))], false, fun j => match j with  | _ => []⟩
noncomputable def bounds_Store_Vars.cals : Cals := (Cals.consX 36 false bounds_Store_is.sig (Cals.base tabs))
noncomputable def bounds_Store_Vars.sig : XSig := bounds_Store_Vars.spec.sig bounds_Store_Vars.cals T Tryz.f10
noncomputable def bounds_Store_Vars.F (d : Dt81) (x : Unit) : Option (Unit × (Int × Unit) × Dt81) := limX bounds_Store_Vars.spec bounds_Store_Vars.cals T Tryz.f10 d x
theorem bounds_Store_Vars.ck : CalsOk Tryz.prog bounds_Store_Vars.cals := (CalsOk.consX bounds_Store_is.cal (CalsOk.base tabsOk))
theorem bounds_Store_Vars.cal : XOk Tryz.prog tabs 10 bounds_Store_Vars.sig := xok_of tabOk bounds_Store_Vars.ck mix Tryz.func10 (by kernel_rfl) (by kernel_rfl) (by kernel_rfl) (by kernel_rfl)
noncomputable def bounds_Store_Vars.e  (G : Gh) (d : Dt81)  : Option ((Unit × (Int × Unit) × Dt81) × Nat × List Value) :=
  (bounds_Store_is.F ((d.1.1, d.1.2), (d.2.1, d.2.2)) ()).bind fun y1 =>
  let v2 := not y1.2.1.1
  bif v2 then (some (((), ((0 : Int), ()), ((y1.2.2.1.1, y1.2.2.1.2), (y1.2.2.2.1, y1.2.2.2.2))), G.b, []))
  else (let v3 := (List.length y1.2.2.2.2 : Int)
  some (((), (v3, ()), ((y1.2.2.1.1, y1.2.2.1.2), (y1.2.2.2.1, y1.2.2.2.2))), G.b, []))
theorem bounds_Store_Vars.eval (k : Nat) (G : Gh) (d : Dt81)  : evalX bounds_Store_Vars.spec bounds_Store_Vars.cals T Tryz.f10 k G d () = bounds_Store_Vars.e  G d  := by kernel_rfl
theorem bounds_Store_Vars.of (d : Dt81)  (y : (Unit × (Int × Unit) × Dt81)) (h : ∀ G : Gh, ∃ k : Nat, bounds_Store_Vars.e  G d  = some (y, (G.b, []))) : bounds_Store_Vars.F d () = some y := limX_of (q := bounds_Store_Vars.spec) (C := bounds_Store_Vars.cals) (T := T) (f := Tryz.f10) (d := d) (x := ()) y fun G => (h G).imp fun k hk => (bounds_Store_Vars.eval k G d ).trans hk

def bounds_Store_Level.spec : XSpec := ⟨some ⟨81, 0, Kt81, 0⟩, false, [], false, none, [(false, (.int .i64))], false, fun j => match j with  | _ => []⟩
noncomputable def bounds_Store_Level.cals : Cals := (Cals.consX 36 false bounds_Store_is.sig (Cals.base tabs))
noncomputable def bounds_Store_Level.sig : XSig := bounds_Store_Level.spec.sig bounds_Store_Level.cals T Tryz.f11
noncomputable def bounds_Store_Level.F (d : Dt81) (x : Unit) : Option (Unit × (Int × Unit) × Dt81) := limX bounds_Store_Level.spec bounds_Store_Level.cals T Tryz.f11 d x
theorem bounds_Store_Level.ck : CalsOk Tryz.prog bounds_Store_Level.cals := (CalsOk.consX bounds_Store_is.cal (CalsOk.base tabsOk))
theorem bounds_Store_Level.cal : XOk Tryz.prog tabs 11 bounds_Store_Level.sig := xok_of tabOk bounds_Store_Level.ck mix Tryz.func11 (by kernel_rfl) (by kernel_rfl) (by kernel_rfl) (by kernel_rfl)
noncomputable def bounds_Store_Level.e  (G : Gh) (d : Dt81)  : Option ((Unit × (Int × Unit) × Dt81) × Nat × List Value) :=
  (bounds_Store_is.F ((d.1.1, d.1.2), (d.2.1, d.2.2)) ()).bind fun y1 =>
  let v2 := not y1.2.1.1
  bif v2 then (some (((), ((0 : Int), ()), ((y1.2.2.1.1, y1.2.2.1.2), (y1.2.2.2.1, y1.2.2.2.2))), G.b, []))
  else (some (((), (y1.2.2.1.1, ()), ((y1.2.2.1.1, y1.2.2.1.2), (y1.2.2.2.1, y1.2.2.2.2))), G.b, []))
theorem bounds_Store_Level.eval (k : Nat) (G : Gh) (d : Dt81)  : evalX bounds_Store_Level.spec bounds_Store_Level.cals T Tryz.f11 k G d () = bounds_Store_Level.e  G d  := by kernel_rfl
theorem bounds_Store_Level.of (d : Dt81)  (y : (Unit × (Int × Unit) × Dt81)) (h : ∀ G : Gh, ∃ k : Nat, bounds_Store_Level.e  G d  = some (y, (G.b, []))) : bounds_Store_Level.F d () = some y := limX_of (q := bounds_Store_Level.spec) (C := bounds_Store_Level.cals) (T := T) (f := Tryz.f11) (d := d) (x := ()) y fun G => (h G).imp fun k hk => (bounds_Store_Level.eval k G d ).trans hk

def fulcrummem_SameNat.spec : Spec := ⟨[(false, Kt38), (false, Kt38)], [(false, .bool)], .own, fun j => match j with | 4 => [(0, .lf (.z 114 (.int .u32) false)), (1, .lf (.z 114 (.int .u32) false)), (5, .lf (.v true))] | _ => []⟩
noncomputable def fulcrummem_SameNat.cals : Cals := (Cals.base tabs)
noncomputable def fulcrummem_SameNat.sig : Sig := fulcrummem_SameNat.spec.sig fulcrummem_SameNat.cals T Tryz.f78
noncomputable def fulcrummem_SameNat.F (x : Dt38 × Dt38 × Unit) : Option (Bool × Unit) := limF fulcrummem_SameNat.spec fulcrummem_SameNat.cals T Tryz.f78 x
theorem fulcrummem_SameNat.ck : CalsOk Tryz.prog fulcrummem_SameNat.cals := (CalsOk.base tabsOk)
theorem fulcrummem_SameNat.cal : CalOk Tryz.prog tabs 78 fulcrummem_SameNat.sig := calOk_lim' tabOk fulcrummem_SameNat.ck mix Tryz.func78 (by kernel_rfl) (by kernel_rfl) (by kernel_rfl) (by kernel_rfl)
def fulcrummem_SameNat.m4 (x0 : Dt38) (x1 : Dt38) (x5 : Int) : S := ⟨[(0, .one (.lf (.val false Kt38 x0))), (1, .one (.lf (.val false Kt38 x1))), (5, .one (.lf (.val true (.int .i64) x5)))], ⟨[], []⟩⟩
noncomputable def fulcrummem_SameNat.b4 (f4 : Dt38 → Dt38 → Int → Option (Bool × Unit)) (x0 : Dt38) (x1 : Dt38) (x5 : Int) : Option (Bool × Unit) :=
  let v1 := (List.length x0 : Int)
  let v2 := decide (x5 < v1)
  bif v2 then (bif decide (0 ≤ x5) && decide (x5 < (List.length x0 : Int)) then (let v3 := List.getD x0 (Int.toNat x5) (0 : Int)
  bif decide (0 ≤ x5) && decide (x5 < (List.length x1 : Int)) then (let v4 := List.getD x1 (Int.toNat x5) (0 : Int)
  let v5 := (v3 != v4)
  bif v5 then (some (false, ()))
  else (let v6 := IntKind.i64.wrap (x5 + (1 : Int))
  f4 x0 x1 v6))
  else none)
  else none)
  else (some (true, ()))
noncomputable def fulcrummem_SameNat.e (f4 : Dt38 → Dt38 → Int → Option (Bool × Unit)) (a0 : Dt38) (a1 : Dt38) : Option (Bool × Unit) :=
  let v1 := (List.length a0 : Int)
  let v2 := (List.length a1 : Int)
  let v3 := (v1 != v2)
  bif v3 then (some (false, ()))
  else (f4 a0 a1 (0 : Int))
noncomputable def fulcrummem_SameNat.L4 (k : Nat) (x0 : Dt38) (x1 : Dt38) (x5 : Int) : Option (Bool × Unit) := heads (fulcrummem_SameNat.spec.env fulcrummem_SameNat.cals T Tryz.f78) (Func.pts Tryz.f78) k 4 (fulcrummem_SameNat.m4 x0 x1 x5)
theorem fulcrummem_SameNat.L4_succ (k : Nat) (x0 : Dt38) (x1 : Dt38) (x5 : Int) : fulcrummem_SameNat.L4 (k + 1) x0 x1 x5 = fulcrummem_SameNat.b4 (fulcrummem_SameNat.L4 k) x0 x1 x5 := by kernel_rfl
theorem fulcrummem_SameNat.eval (k : Nat) (a0 : Dt38) (a1 : Dt38) : evalF fulcrummem_SameNat.spec fulcrummem_SameNat.cals T Tryz.f78 k (a0, a1, ()) = fulcrummem_SameNat.e (fulcrummem_SameNat.L4 k) a0 a1 := by kernel_rfl
theorem fulcrummem_SameNat.F_eq (a0 : Dt38) (a1 : Dt38) : fulcrummem_SameNat.F (a0, a1, ()) = limF fulcrummem_SameNat.spec fulcrummem_SameNat.cals T Tryz.f78 (a0, a1, ()) := by kernel_rfl
theorem fulcrummem_SameNat.of (k : Nat) (a0 : Dt38) (a1 : Dt38) {y : Bool × Unit} (h : fulcrummem_SameNat.e (fulcrummem_SameNat.L4 k) a0 a1 = some y) : fulcrummem_SameNat.F (a0, a1, ()) = some y := (fulcrummem_SameNat.F_eq a0 a1).trans (limF_of (q := fulcrummem_SameNat.spec) (C := fulcrummem_SameNat.cals) (T := T) (f := Tryz.f78) (x := (a0, a1, ())) (y := y) k ((fulcrummem_SameNat.eval k a0 a1).trans h))

def fulcrummem_SameInt.spec : Spec := ⟨[(true, Kt40), (true, Kt40)], [(false, .bool)], .own, fun j => match j with  | _ => []⟩
noncomputable def fulcrummem_SameInt.cals : Cals := (Cals.cons 78 fulcrummem_SameNat.sig (Cals.base tabs))
noncomputable def fulcrummem_SameInt.sig : Sig := fulcrummem_SameInt.spec.sig fulcrummem_SameInt.cals T Tryz.f77
noncomputable def fulcrummem_SameInt.F (x : Dt40 × Dt40 × Unit) : Option (Bool × Unit) := limF fulcrummem_SameInt.spec fulcrummem_SameInt.cals T Tryz.f77 x
theorem fulcrummem_SameInt.ck : CalsOk Tryz.prog fulcrummem_SameInt.cals := (CalsOk.cons fulcrummem_SameNat.cal (CalsOk.base tabsOk))
theorem fulcrummem_SameInt.cal : CalOk Tryz.prog tabs 77 fulcrummem_SameInt.sig := calOk_lim' tabOk fulcrummem_SameInt.ck mix Tryz.func77 (by kernel_rfl) (by kernel_rfl) (by kernel_rfl) (by kernel_rfl)
noncomputable def fulcrummem_SameInt.e  (a0 : Dt40) (a1 : Dt40) : Option (Bool × Unit) :=
  let v1 := (a0.1 == a1.1)
  bif v1 then ((fulcrummem_SameNat.F (a0.2, a1.2, ())).bind fun y2 =>
  some (y2.1, ()))
  else (some (false, ()))
theorem fulcrummem_SameInt.eval (k : Nat) (a0 : Dt40) (a1 : Dt40) : evalF fulcrummem_SameInt.spec fulcrummem_SameInt.cals T Tryz.f77 k (a0, a1, ()) = fulcrummem_SameInt.e  a0 a1 := by kernel_rfl
theorem fulcrummem_SameInt.F_eq (a0 : Dt40) (a1 : Dt40) : fulcrummem_SameInt.F (a0, a1, ()) = limF fulcrummem_SameInt.spec fulcrummem_SameInt.cals T Tryz.f77 (a0, a1, ()) := by kernel_rfl
theorem fulcrummem_SameInt.of (k : Nat) (a0 : Dt40) (a1 : Dt40) {y : Bool × Unit} (h : fulcrummem_SameInt.e  a0 a1 = some y) : fulcrummem_SameInt.F (a0, a1, ()) = some y := (fulcrummem_SameInt.F_eq a0 a1).trans (limF_of (q := fulcrummem_SameInt.spec) (C := fulcrummem_SameInt.cals) (T := T) (f := Tryz.f77) (x := (a0, a1, ())) (y := y) k ((fulcrummem_SameInt.eval k a0 a1).trans h))

def fulcrummem_SameRat.spec : Spec := ⟨[(true, Kt42), (true, Kt42)], [(false, .bool)], .own, fun j => match j with  | _ => []⟩
noncomputable def fulcrummem_SameRat.cals : Cals := (Cals.cons 77 fulcrummem_SameInt.sig (Cals.cons 78 fulcrummem_SameNat.sig (Cals.base tabs)))
noncomputable def fulcrummem_SameRat.sig : Sig := fulcrummem_SameRat.spec.sig fulcrummem_SameRat.cals T Tryz.f53
noncomputable def fulcrummem_SameRat.F (x : Dt42 × Dt42 × Unit) : Option (Bool × Unit) := limF fulcrummem_SameRat.spec fulcrummem_SameRat.cals T Tryz.f53 x
theorem fulcrummem_SameRat.ck : CalsOk Tryz.prog fulcrummem_SameRat.cals := (CalsOk.cons fulcrummem_SameInt.cal (CalsOk.cons fulcrummem_SameNat.cal (CalsOk.base tabsOk)))
theorem fulcrummem_SameRat.cal : CalOk Tryz.prog tabs 53 fulcrummem_SameRat.sig := calOk_lim' tabOk fulcrummem_SameRat.ck mix Tryz.func53 (by kernel_rfl) (by kernel_rfl) (by kernel_rfl) (by kernel_rfl)
noncomputable def fulcrummem_SameRat.e  (a0 : Dt42) (a1 : Dt42) : Option (Bool × Unit) :=
  (fulcrummem_SameInt.F ((a0.1.1, a0.1.2), (a1.1.1, a1.1.2), ())).bind fun y1 =>
  bif y1.1 then ((fulcrummem_SameNat.F (a0.2, a1.2, ())).bind fun y2 =>
  some (y2.1, ()))
  else (some (false, ()))
theorem fulcrummem_SameRat.eval (k : Nat) (a0 : Dt42) (a1 : Dt42) : evalF fulcrummem_SameRat.spec fulcrummem_SameRat.cals T Tryz.f53 k (a0, a1, ()) = fulcrummem_SameRat.e  a0 a1 := by kernel_rfl
theorem fulcrummem_SameRat.F_eq (a0 : Dt42) (a1 : Dt42) : fulcrummem_SameRat.F (a0, a1, ()) = limF fulcrummem_SameRat.spec fulcrummem_SameRat.cals T Tryz.f53 (a0, a1, ()) := by kernel_rfl
theorem fulcrummem_SameRat.of (k : Nat) (a0 : Dt42) (a1 : Dt42) {y : Bool × Unit} (h : fulcrummem_SameRat.e  a0 a1 = some y) : fulcrummem_SameRat.F (a0, a1, ()) = some y := (fulcrummem_SameRat.F_eq a0 a1).trans (limF_of (q := fulcrummem_SameRat.spec) (C := fulcrummem_SameRat.cals) (T := T) (f := Tryz.f53) (x := (a0, a1, ())) (y := y) k ((fulcrummem_SameRat.eval k a0 a1).trans h))

def fulcrummem_SameDelta.spec : Spec := ⟨[(true, Kt44), (true, Kt44)], [(false, .bool)], .own, fun j => match j with  | _ => []⟩
noncomputable def fulcrummem_SameDelta.cals : Cals := (Cals.cons 53 fulcrummem_SameRat.sig (Cals.base tabs))
noncomputable def fulcrummem_SameDelta.sig : Sig := fulcrummem_SameDelta.spec.sig fulcrummem_SameDelta.cals T Tryz.f18
noncomputable def fulcrummem_SameDelta.F (x : Dt44 × Dt44 × Unit) : Option (Bool × Unit) := limF fulcrummem_SameDelta.spec fulcrummem_SameDelta.cals T Tryz.f18 x
theorem fulcrummem_SameDelta.ck : CalsOk Tryz.prog fulcrummem_SameDelta.cals := (CalsOk.cons fulcrummem_SameRat.cal (CalsOk.base tabsOk))
theorem fulcrummem_SameDelta.cal : CalOk Tryz.prog tabs 18 fulcrummem_SameDelta.sig := calOk_lim' tabOk fulcrummem_SameDelta.ck mix Tryz.func18 (by kernel_rfl) (by kernel_rfl) (by kernel_rfl) (by kernel_rfl)
noncomputable def fulcrummem_SameDelta.e  (a0 : Dt44) (a1 : Dt44) : Option (Bool × Unit) :=
  (fulcrummem_SameRat.F (((a0.1.1.1, a0.1.1.2), a0.1.2), ((a1.1.1.1, a1.1.1.2), a1.1.2), ())).bind fun y1 =>
  bif y1.1 then ((fulcrummem_SameRat.F (((a0.2.1.1, a0.2.1.2), a0.2.2), ((a1.2.1.1, a1.2.1.2), a1.2.2), ())).bind fun y2 =>
  some (y2.1, ()))
  else (some (false, ()))
theorem fulcrummem_SameDelta.eval (k : Nat) (a0 : Dt44) (a1 : Dt44) : evalF fulcrummem_SameDelta.spec fulcrummem_SameDelta.cals T Tryz.f18 k (a0, a1, ()) = fulcrummem_SameDelta.e  a0 a1 := by kernel_rfl
theorem fulcrummem_SameDelta.F_eq (a0 : Dt44) (a1 : Dt44) : fulcrummem_SameDelta.F (a0, a1, ()) = limF fulcrummem_SameDelta.spec fulcrummem_SameDelta.cals T Tryz.f18 (a0, a1, ()) := by kernel_rfl
theorem fulcrummem_SameDelta.of (k : Nat) (a0 : Dt44) (a1 : Dt44) {y : Bool × Unit} (h : fulcrummem_SameDelta.e  a0 a1 = some y) : fulcrummem_SameDelta.F (a0, a1, ()) = some y := (fulcrummem_SameDelta.F_eq a0 a1).trans (limF_of (q := fulcrummem_SameDelta.spec) (C := fulcrummem_SameDelta.cals) (T := T) (f := Tryz.f18) (x := (a0, a1, ())) (y := y) k ((fulcrummem_SameDelta.eval k a0 a1).trans h))

def fulcrumlaw08_sameBound.spec : Spec := ⟨[(true, Kt66), (true, Kt66)], [(false, .bool)], .own, fun j => match j with  | _ => []⟩
noncomputable def fulcrumlaw08_sameBound.cals : Cals := (Cals.cons 18 fulcrummem_SameDelta.sig (Cals.base tabs))
noncomputable def fulcrumlaw08_sameBound.sig : Sig := fulcrumlaw08_sameBound.spec.sig fulcrumlaw08_sameBound.cals T Tryz.f45
noncomputable def fulcrumlaw08_sameBound.F (x : Dt66 × Dt66 × Unit) : Option (Bool × Unit) := limF fulcrumlaw08_sameBound.spec fulcrumlaw08_sameBound.cals T Tryz.f45 x
theorem fulcrumlaw08_sameBound.ck : CalsOk Tryz.prog fulcrumlaw08_sameBound.cals := (CalsOk.cons fulcrummem_SameDelta.cal (CalsOk.base tabsOk))
theorem fulcrumlaw08_sameBound.cal : CalOk Tryz.prog tabs 45 fulcrumlaw08_sameBound.sig := calOk_lim' tabOk fulcrumlaw08_sameBound.ck mix Tryz.func45 (by kernel_rfl) (by kernel_rfl) (by kernel_rfl) (by kernel_rfl)
noncomputable def fulcrumlaw08_sameBound.e  (a0 : Dt66) (a1 : Dt66) : Option (Bool × Unit) :=
  let v1 := (a0.1 == a1.1)
  bif v1 then (let v2 := (a0.2.2 == a1.2.2)
  bif v2 then ((fulcrummem_SameDelta.F ((((a0.2.1.1.1.1, a0.2.1.1.1.2), a0.2.1.1.2), ((a0.2.1.2.1.1, a0.2.1.2.1.2), a0.2.1.2.2)), (((a1.2.1.1.1.1, a1.2.1.1.1.2), a1.2.1.1.2), ((a1.2.1.2.1.1, a1.2.1.2.1.2), a1.2.1.2.2)), ())).bind fun y3 =>
  some (y3.1, ()))
  else (some (false, ())))
  else (some (false, ()))
theorem fulcrumlaw08_sameBound.eval (k : Nat) (a0 : Dt66) (a1 : Dt66) : evalF fulcrumlaw08_sameBound.spec fulcrumlaw08_sameBound.cals T Tryz.f45 k (a0, a1, ()) = fulcrumlaw08_sameBound.e  a0 a1 := by kernel_rfl
theorem fulcrumlaw08_sameBound.F_eq (a0 : Dt66) (a1 : Dt66) : fulcrumlaw08_sameBound.F (a0, a1, ()) = limF fulcrumlaw08_sameBound.spec fulcrumlaw08_sameBound.cals T Tryz.f45 (a0, a1, ()) := by kernel_rfl
theorem fulcrumlaw08_sameBound.of (k : Nat) (a0 : Dt66) (a1 : Dt66) {y : Bool × Unit} (h : fulcrumlaw08_sameBound.e  a0 a1 = some y) : fulcrumlaw08_sameBound.F (a0, a1, ()) = some y := (fulcrumlaw08_sameBound.F_eq a0 a1).trans (limF_of (q := fulcrumlaw08_sameBound.spec) (C := fulcrumlaw08_sameBound.cals) (T := T) (f := Tryz.f45) (x := (a0, a1, ())) (y := y) k ((fulcrumlaw08_sameBound.eval k a0 a1).trans h))

def fulcrumlaw08_sameLimit.spec : Spec := ⟨[(true, Kt68), (true, Kt68)], [(false, .bool)], .own, fun j => match j with  | _ => []⟩
noncomputable def fulcrumlaw08_sameLimit.cals : Cals := (Cals.cons 45 fulcrumlaw08_sameBound.sig (Cals.base tabs))
noncomputable def fulcrumlaw08_sameLimit.sig : Sig := fulcrumlaw08_sameLimit.spec.sig fulcrumlaw08_sameLimit.cals T Tryz.f38
noncomputable def fulcrumlaw08_sameLimit.F (x : Dt68 × Dt68 × Unit) : Option (Bool × Unit) := limF fulcrumlaw08_sameLimit.spec fulcrumlaw08_sameLimit.cals T Tryz.f38 x
theorem fulcrumlaw08_sameLimit.ck : CalsOk Tryz.prog fulcrumlaw08_sameLimit.cals := (CalsOk.cons fulcrumlaw08_sameBound.cal (CalsOk.base tabsOk))
theorem fulcrumlaw08_sameLimit.cal : CalOk Tryz.prog tabs 38 fulcrumlaw08_sameLimit.sig := calOk_lim' tabOk fulcrumlaw08_sameLimit.ck mix Tryz.func38 (by kernel_rfl) (by kernel_rfl) (by kernel_rfl) (by kernel_rfl)
noncomputable def fulcrumlaw08_sameLimit.e  (a0 : Dt68) (a1 : Dt68) : Option (Bool × Unit) :=
  (fulcrumlaw08_sameBound.F ((a0.1.1, ((((a0.1.2.1.1.1.1, a0.1.2.1.1.1.2), a0.1.2.1.1.2), ((a0.1.2.1.2.1.1, a0.1.2.1.2.1.2), a0.1.2.1.2.2)), a0.1.2.2)), (a1.1.1, ((((a1.1.2.1.1.1.1, a1.1.2.1.1.1.2), a1.1.2.1.1.2), ((a1.1.2.1.2.1.1, a1.1.2.1.2.1.2), a1.1.2.1.2.2)), a1.1.2.2)), ())).bind fun y1 =>
  bif y1.1 then ((fulcrumlaw08_sameBound.F ((a0.2.1, ((((a0.2.2.1.1.1.1, a0.2.2.1.1.1.2), a0.2.2.1.1.2), ((a0.2.2.1.2.1.1, a0.2.2.1.2.1.2), a0.2.2.1.2.2)), a0.2.2.2)), (a1.2.1, ((((a1.2.2.1.1.1.1, a1.2.2.1.1.1.2), a1.2.2.1.1.2), ((a1.2.2.1.2.1.1, a1.2.2.1.2.1.2), a1.2.2.1.2.2)), a1.2.2.2)), ())).bind fun y2 =>
  some (y2.1, ()))
  else (some (false, ()))
theorem fulcrumlaw08_sameLimit.eval (k : Nat) (a0 : Dt68) (a1 : Dt68) : evalF fulcrumlaw08_sameLimit.spec fulcrumlaw08_sameLimit.cals T Tryz.f38 k (a0, a1, ()) = fulcrumlaw08_sameLimit.e  a0 a1 := by kernel_rfl
theorem fulcrumlaw08_sameLimit.F_eq (a0 : Dt68) (a1 : Dt68) : fulcrumlaw08_sameLimit.F (a0, a1, ()) = limF fulcrumlaw08_sameLimit.spec fulcrumlaw08_sameLimit.cals T Tryz.f38 (a0, a1, ()) := by kernel_rfl
theorem fulcrumlaw08_sameLimit.of (k : Nat) (a0 : Dt68) (a1 : Dt68) {y : Bool × Unit} (h : fulcrumlaw08_sameLimit.e  a0 a1 = some y) : fulcrumlaw08_sameLimit.F (a0, a1, ()) = some y := (fulcrumlaw08_sameLimit.F_eq a0 a1).trans (limF_of (q := fulcrumlaw08_sameLimit.spec) (C := fulcrumlaw08_sameLimit.cals) (T := T) (f := Tryz.f38) (x := (a0, a1, ())) (y := y) k ((fulcrumlaw08_sameLimit.eval k a0 a1).trans h))

def fulcrumlaw08_sameState.spec : Spec := ⟨[(true, Kt32), (true, Kt32)], [(false, .bool)], .own, fun j => match j with | 4 => [(2, .box 32 [.z 68 Kt68 false, .v false, .z 70 Kt70 false]), (3, .box 32 [.z 68 Kt68 false, .v false, .z 70 Kt70 false]), (5, .lf (.v true))] | 10 => [(2, .box 32 [.z 68 Kt68 false, .v false, .z 70 Kt70 false]), (3, .box 32 [.z 68 Kt68 false, .v false, .z 70 Kt70 false]), (7, .lf (.v true))] | _ => []⟩
noncomputable def fulcrumlaw08_sameState.cals : Cals := (Cals.cons 38 fulcrumlaw08_sameLimit.sig (Cals.cons 45 fulcrumlaw08_sameBound.sig (Cals.base tabs)))
noncomputable def fulcrumlaw08_sameState.sig : Sig := fulcrumlaw08_sameState.spec.sig fulcrumlaw08_sameState.cals T Tryz.f13
noncomputable def fulcrumlaw08_sameState.F (x : Dt32 × Dt32 × Unit) : Option (Bool × Unit) := limF fulcrumlaw08_sameState.spec fulcrumlaw08_sameState.cals T Tryz.f13 x
theorem fulcrumlaw08_sameState.ck : CalsOk Tryz.prog fulcrumlaw08_sameState.cals := (CalsOk.cons fulcrumlaw08_sameLimit.cal (CalsOk.cons fulcrumlaw08_sameBound.cal (CalsOk.base tabsOk)))
theorem fulcrumlaw08_sameState.cal : CalOk Tryz.prog tabs 13 fulcrumlaw08_sameState.sig := calOk_lim' tabOk fulcrumlaw08_sameState.ck mix Tryz.func13 (by kernel_rfl) (by kernel_rfl) (by kernel_rfl) (by kernel_rfl)
def fulcrumlaw08_sameState.m4 (x2_0 : Dt29) (x2_1 : Int) (x2_2 : Dt30) (x3_0 : Dt29) (x3_1 : Int) (x3_2 : Dt30) (x5 : Int) : S := ⟨[(2, .box 0 0), (3, .box 1 0), (5, .one (.lf (.val true (.int .i64) x5)))], ⟨[], [some ⟨32, [.val false Kt29 x2_0, .val false (.int .i64) x2_1, .val false Kt30 x2_2]⟩, some ⟨32, [.val false Kt29 x3_0, .val false (.int .i64) x3_1, .val false Kt30 x3_2]⟩]⟩⟩
def fulcrumlaw08_sameState.m10 (x2_0 : Dt29) (x2_1 : Int) (x2_2 : Dt30) (x3_0 : Dt29) (x3_1 : Int) (x3_2 : Dt30) (x7 : Int) : S := ⟨[(2, .box 0 0), (3, .box 1 0), (7, .one (.lf (.val true (.int .i64) x7)))], ⟨[], [some ⟨32, [.val false Kt29 x2_0, .val false (.int .i64) x2_1, .val false Kt30 x2_2]⟩, some ⟨32, [.val false Kt29 x3_0, .val false (.int .i64) x3_1, .val false Kt30 x3_2]⟩]⟩⟩
noncomputable def fulcrumlaw08_sameState.b4 (f4 : Dt29 → Int → Dt30 → Dt29 → Int → Dt30 → Int → Option (Bool × Unit)) (f10 : Dt29 → Int → Dt30 → Dt29 → Int → Dt30 → Int → Option (Bool × Unit)) (x2_0 : Dt29) (x2_1 : Int) (x2_2 : Dt30) (x3_0 : Dt29) (x3_1 : Int) (x3_2 : Dt30) (x5 : Int) : Option (Bool × Unit) :=
  let v1 := (List.length x2_0 : Int)
  let v2 := decide (x5 < v1)
  bif v2 then (bif decide (0 ≤ x5) && decide (x5 < (List.length x2_0 : Int)) then (let v3 := ((List.getD x2_0 (Int.toNat x5) zt68).1).1
  let v4 := ((((((List.getD x2_0 (Int.toNat x5) zt68).1).2).1).1).1).1
  let v5 := ((((((List.getD x2_0 (Int.toNat x5) zt68).1).2).1).1).1).2
  let v6 := (((((List.getD x2_0 (Int.toNat x5) zt68).1).2).1).1).2
  let v7 := ((((((List.getD x2_0 (Int.toNat x5) zt68).1).2).1).2).1).1
  let v8 := ((((((List.getD x2_0 (Int.toNat x5) zt68).1).2).1).2).1).2
  let v9 := (((((List.getD x2_0 (Int.toNat x5) zt68).1).2).1).2).2
  let v10 := (((List.getD x2_0 (Int.toNat x5) zt68).1).2).2
  let v11 := ((List.getD x2_0 (Int.toNat x5) zt68).2).1
  let v12 := ((((((List.getD x2_0 (Int.toNat x5) zt68).2).2).1).1).1).1
  let v13 := ((((((List.getD x2_0 (Int.toNat x5) zt68).2).2).1).1).1).2
  let v14 := (((((List.getD x2_0 (Int.toNat x5) zt68).2).2).1).1).2
  let v15 := ((((((List.getD x2_0 (Int.toNat x5) zt68).2).2).1).2).1).1
  let v16 := ((((((List.getD x2_0 (Int.toNat x5) zt68).2).2).1).2).1).2
  let v17 := (((((List.getD x2_0 (Int.toNat x5) zt68).2).2).1).2).2
  let v18 := (((List.getD x2_0 (Int.toNat x5) zt68).2).2).2
  bif decide (0 ≤ x5) && decide (x5 < (List.length x3_0 : Int)) then (let v19 := ((List.getD x3_0 (Int.toNat x5) zt68).1).1
  let v20 := ((((((List.getD x3_0 (Int.toNat x5) zt68).1).2).1).1).1).1
  let v21 := ((((((List.getD x3_0 (Int.toNat x5) zt68).1).2).1).1).1).2
  let v22 := (((((List.getD x3_0 (Int.toNat x5) zt68).1).2).1).1).2
  let v23 := ((((((List.getD x3_0 (Int.toNat x5) zt68).1).2).1).2).1).1
  let v24 := ((((((List.getD x3_0 (Int.toNat x5) zt68).1).2).1).2).1).2
  let v25 := (((((List.getD x3_0 (Int.toNat x5) zt68).1).2).1).2).2
  let v26 := (((List.getD x3_0 (Int.toNat x5) zt68).1).2).2
  let v27 := ((List.getD x3_0 (Int.toNat x5) zt68).2).1
  let v28 := ((((((List.getD x3_0 (Int.toNat x5) zt68).2).2).1).1).1).1
  let v29 := ((((((List.getD x3_0 (Int.toNat x5) zt68).2).2).1).1).1).2
  let v30 := (((((List.getD x3_0 (Int.toNat x5) zt68).2).2).1).1).2
  let v31 := ((((((List.getD x3_0 (Int.toNat x5) zt68).2).2).1).2).1).1
  let v32 := ((((((List.getD x3_0 (Int.toNat x5) zt68).2).2).1).2).1).2
  let v33 := (((((List.getD x3_0 (Int.toNat x5) zt68).2).2).1).2).2
  let v34 := (((List.getD x3_0 (Int.toNat x5) zt68).2).2).2
  (fulcrumlaw08_sameLimit.F (((v3, ((((v4, v5), v6), ((v7, v8), v9)), v10)), (v11, ((((v12, v13), v14), ((v15, v16), v17)), v18))), ((v19, ((((v20, v21), v22), ((v23, v24), v25)), v26)), (v27, ((((v28, v29), v30), ((v31, v32), v33)), v34))), ())).bind fun y35 =>
  let v36 := not y35.1
  bif v36 then (some (false, ()))
  else (let v37 := IntKind.i64.wrap (x5 + (1 : Int))
  f4 x2_0 x2_1 x2_2 x3_0 x3_1 x3_2 v37))
  else none)
  else none)
  else (f10 x2_0 x2_1 x2_2 x3_0 x3_1 x3_2 (0 : Int))
noncomputable def fulcrumlaw08_sameState.b10 (f4 : Dt29 → Int → Dt30 → Dt29 → Int → Dt30 → Int → Option (Bool × Unit)) (f10 : Dt29 → Int → Dt30 → Dt29 → Int → Dt30 → Int → Option (Bool × Unit)) (x2_0 : Dt29) (x2_1 : Int) (x2_2 : Dt30) (x3_0 : Dt29) (x3_1 : Int) (x3_2 : Dt30) (x7 : Int) : Option (Bool × Unit) :=
  let v1 := (List.length x2_2 : Int)
  let v2 := decide (x7 < v1)
  bif v2 then (bif decide (0 ≤ x7) && decide (x7 < (List.length x2_2 : Int)) then (let v3 := (List.getD x2_2 (Int.toNat x7) zt70).1
  let v4 := ((List.getD x2_2 (Int.toNat x7) zt70).2).1
  let v5 := (((List.getD x2_2 (Int.toNat x7) zt70).2).2).1
  let v6 := ((((List.getD x2_2 (Int.toNat x7) zt70).2).2).2).1
  let v7 := ((((((((List.getD x2_2 (Int.toNat x7) zt70).2).2).2).2).1).1).1).1
  let v8 := ((((((((List.getD x2_2 (Int.toNat x7) zt70).2).2).2).2).1).1).1).2
  let v9 := (((((((List.getD x2_2 (Int.toNat x7) zt70).2).2).2).2).1).1).2
  let v10 := ((((((((List.getD x2_2 (Int.toNat x7) zt70).2).2).2).2).1).2).1).1
  let v11 := ((((((((List.getD x2_2 (Int.toNat x7) zt70).2).2).2).2).1).2).1).2
  let v12 := (((((((List.getD x2_2 (Int.toNat x7) zt70).2).2).2).2).1).2).2
  let v13 := (((((List.getD x2_2 (Int.toNat x7) zt70).2).2).2).2).2
  bif decide (0 ≤ x7) && decide (x7 < (List.length x3_2 : Int)) then (let v14 := (List.getD x3_2 (Int.toNat x7) zt70).1
  let v15 := ((List.getD x3_2 (Int.toNat x7) zt70).2).1
  let v16 := (((List.getD x3_2 (Int.toNat x7) zt70).2).2).1
  let v17 := ((((List.getD x3_2 (Int.toNat x7) zt70).2).2).2).1
  let v18 := ((((((((List.getD x3_2 (Int.toNat x7) zt70).2).2).2).2).1).1).1).1
  let v19 := ((((((((List.getD x3_2 (Int.toNat x7) zt70).2).2).2).2).1).1).1).2
  let v20 := (((((((List.getD x3_2 (Int.toNat x7) zt70).2).2).2).2).1).1).2
  let v21 := ((((((((List.getD x3_2 (Int.toNat x7) zt70).2).2).2).2).1).2).1).1
  let v22 := ((((((((List.getD x3_2 (Int.toNat x7) zt70).2).2).2).2).1).2).1).2
  let v23 := (((((((List.getD x3_2 (Int.toNat x7) zt70).2).2).2).2).1).2).2
  let v24 := (((((List.getD x3_2 (Int.toNat x7) zt70).2).2).2).2).2
  let v25 := (v3 != v14)
  bif v25 then (some (false, ()))
  else (let v26 := (!(v4 == v15))
  bif v26 then (some (false, ()))
  else (let v27 := (v5 != v16)
  bif v27 then (some (false, ()))
  else ((fulcrumlaw08_sameBound.F ((v6, ((((v7, v8), v9), ((v10, v11), v12)), v13)), (v17, ((((v18, v19), v20), ((v21, v22), v23)), v24)), ())).bind fun y28 =>
  let v29 := not y28.1
  bif v29 then (some (false, ()))
  else (let v30 := IntKind.i64.wrap (x7 + (1 : Int))
  f10 x2_0 x2_1 x2_2 x3_0 x3_1 x3_2 v30)))))
  else none)
  else none)
  else (some (true, ()))
noncomputable def fulcrumlaw08_sameState.e (f4 : Dt29 → Int → Dt30 → Dt29 → Int → Dt30 → Int → Option (Bool × Unit)) (f10 : Dt29 → Int → Dt30 → Dt29 → Int → Dt30 → Int → Option (Bool × Unit)) (a0 : Dt32) (a1 : Dt32) : Option (Bool × Unit) :=
  let v1 := (List.length a0.1 : Int)
  let v2 := (List.length a1.1 : Int)
  let v3 := (v1 != v2)
  bif v3 then (some (false, ()))
  else (let v4 := (a0.2.1 != a1.2.1)
  bif v4 then (some (false, ()))
  else (let v5 := (List.length a0.2.2 : Int)
  let v6 := (List.length a1.2.2 : Int)
  let v7 := (v5 != v6)
  bif v7 then (some (false, ()))
  else (f4 a0.1 a0.2.1 a0.2.2 a1.1 a1.2.1 a1.2.2 (0 : Int))))
noncomputable def fulcrumlaw08_sameState.L4 (k : Nat) (x2_0 : Dt29) (x2_1 : Int) (x2_2 : Dt30) (x3_0 : Dt29) (x3_1 : Int) (x3_2 : Dt30) (x5 : Int) : Option (Bool × Unit) := heads (fulcrumlaw08_sameState.spec.env fulcrumlaw08_sameState.cals T Tryz.f13) (Func.pts Tryz.f13) k 4 (fulcrumlaw08_sameState.m4 x2_0 x2_1 x2_2 x3_0 x3_1 x3_2 x5)
noncomputable def fulcrumlaw08_sameState.L10 (k : Nat) (x2_0 : Dt29) (x2_1 : Int) (x2_2 : Dt30) (x3_0 : Dt29) (x3_1 : Int) (x3_2 : Dt30) (x7 : Int) : Option (Bool × Unit) := heads (fulcrumlaw08_sameState.spec.env fulcrumlaw08_sameState.cals T Tryz.f13) (Func.pts Tryz.f13) k 10 (fulcrumlaw08_sameState.m10 x2_0 x2_1 x2_2 x3_0 x3_1 x3_2 x7)
theorem fulcrumlaw08_sameState.L4_succ (k : Nat) (x2_0 : Dt29) (x2_1 : Int) (x2_2 : Dt30) (x3_0 : Dt29) (x3_1 : Int) (x3_2 : Dt30) (x5 : Int) : fulcrumlaw08_sameState.L4 (k + 1) x2_0 x2_1 x2_2 x3_0 x3_1 x3_2 x5 = fulcrumlaw08_sameState.b4 (fulcrumlaw08_sameState.L4 k) (fulcrumlaw08_sameState.L10 k) x2_0 x2_1 x2_2 x3_0 x3_1 x3_2 x5 := by kernel_rfl
theorem fulcrumlaw08_sameState.L10_succ (k : Nat) (x2_0 : Dt29) (x2_1 : Int) (x2_2 : Dt30) (x3_0 : Dt29) (x3_1 : Int) (x3_2 : Dt30) (x7 : Int) : fulcrumlaw08_sameState.L10 (k + 1) x2_0 x2_1 x2_2 x3_0 x3_1 x3_2 x7 = fulcrumlaw08_sameState.b10 (fulcrumlaw08_sameState.L4 k) (fulcrumlaw08_sameState.L10 k) x2_0 x2_1 x2_2 x3_0 x3_1 x3_2 x7 := by kernel_rfl
theorem fulcrumlaw08_sameState.eval (k : Nat) (a0 : Dt32) (a1 : Dt32) : evalF fulcrumlaw08_sameState.spec fulcrumlaw08_sameState.cals T Tryz.f13 k (a0, a1, ()) = fulcrumlaw08_sameState.e (fulcrumlaw08_sameState.L4 k) (fulcrumlaw08_sameState.L10 k) a0 a1 := by kernel_rfl
theorem fulcrumlaw08_sameState.F_eq (a0 : Dt32) (a1 : Dt32) : fulcrumlaw08_sameState.F (a0, a1, ()) = limF fulcrumlaw08_sameState.spec fulcrumlaw08_sameState.cals T Tryz.f13 (a0, a1, ()) := by kernel_rfl
theorem fulcrumlaw08_sameState.of (k : Nat) (a0 : Dt32) (a1 : Dt32) {y : Bool × Unit} (h : fulcrumlaw08_sameState.e (fulcrumlaw08_sameState.L4 k) (fulcrumlaw08_sameState.L10 k) a0 a1 = some y) : fulcrumlaw08_sameState.F (a0, a1, ()) = some y := (fulcrumlaw08_sameState.F_eq a0 a1).trans (limF_of (q := fulcrumlaw08_sameState.spec) (C := fulcrumlaw08_sameState.cals) (T := T) (f := Tryz.f13) (x := (a0, a1, ())) (y := y) k ((fulcrumlaw08_sameState.eval k a0 a1).trans h))

def bounds_copied.spec : Spec := ⟨[(true, Kt66)], [(true, Kt66)], .own, fun j => match j with  | _ => []⟩
noncomputable def bounds_copied.cals : Cals := (Cals.cons 62 delta_Norm.sig (Cals.base tabs))
noncomputable def bounds_copied.sig : Sig := bounds_copied.spec.sig bounds_copied.cals T Tryz.f72
noncomputable def bounds_copied.F (x : Dt66 × Unit) : Option (Dt66 × Unit) := limF bounds_copied.spec bounds_copied.cals T Tryz.f72 x
theorem bounds_copied.ck : CalsOk Tryz.prog bounds_copied.cals := (CalsOk.cons delta_Norm.cal (CalsOk.base tabsOk))
theorem bounds_copied.cal : CalOk Tryz.prog tabs 72 bounds_copied.sig := calOk_lim' tabOk bounds_copied.ck mix Tryz.func72 (by kernel_rfl) (by kernel_rfl) (by kernel_rfl) (by kernel_rfl)
noncomputable def bounds_copied.e  (a0 : Dt66) : Option (Dt66 × Unit) :=
  let v1 := not a0.1
  bif v1 then (some (zt66, ()))
  else ((delta_Norm.F ((((a0.2.1.1.1.1, a0.2.1.1.1.2), a0.2.1.1.2), ((a0.2.1.2.1.1, a0.2.1.2.1.2), a0.2.1.2.2)), ())).bind fun y2 =>
  some ((true, ((((y2.1.1.1.1, y2.1.1.1.2), y2.1.1.2), ((y2.1.2.1.1, y2.1.2.1.2), y2.1.2.2)), a0.2.2)), ()))
theorem bounds_copied.eval (k : Nat) (a0 : Dt66) : evalF bounds_copied.spec bounds_copied.cals T Tryz.f72 k (a0, ()) = bounds_copied.e  a0 := by kernel_rfl
theorem bounds_copied.F_eq (a0 : Dt66) : bounds_copied.F (a0, ()) = limF bounds_copied.spec bounds_copied.cals T Tryz.f72 (a0, ()) := by kernel_rfl
theorem bounds_copied.of (k : Nat) (a0 : Dt66) {y : Dt66 × Unit} (h : bounds_copied.e  a0 = some y) : bounds_copied.F (a0, ()) = some y := (bounds_copied.F_eq a0).trans (limF_of (q := bounds_copied.spec) (C := bounds_copied.cals) (T := T) (f := Tryz.f72) (x := (a0, ())) (y := y) k ((bounds_copied.eval k a0).trans h))

def bounds_copiedLimit.spec : Spec := ⟨[(true, Kt68)], [(true, Kt68)], .own, fun j => match j with  | _ => []⟩
noncomputable def bounds_copiedLimit.cals : Cals := (Cals.cons 72 bounds_copied.sig (Cals.base tabs))
noncomputable def bounds_copiedLimit.sig : Sig := bounds_copiedLimit.spec.sig bounds_copiedLimit.cals T Tryz.f46
noncomputable def bounds_copiedLimit.F (x : Dt68 × Unit) : Option (Dt68 × Unit) := limF bounds_copiedLimit.spec bounds_copiedLimit.cals T Tryz.f46 x
theorem bounds_copiedLimit.ck : CalsOk Tryz.prog bounds_copiedLimit.cals := (CalsOk.cons bounds_copied.cal (CalsOk.base tabsOk))
theorem bounds_copiedLimit.cal : CalOk Tryz.prog tabs 46 bounds_copiedLimit.sig := calOk_lim' tabOk bounds_copiedLimit.ck mix Tryz.func46 (by kernel_rfl) (by kernel_rfl) (by kernel_rfl) (by kernel_rfl)
noncomputable def bounds_copiedLimit.e  (a0 : Dt68) : Option (Dt68 × Unit) :=
  (bounds_copied.F ((a0.1.1, ((((a0.1.2.1.1.1.1, a0.1.2.1.1.1.2), a0.1.2.1.1.2), ((a0.1.2.1.2.1.1, a0.1.2.1.2.1.2), a0.1.2.1.2.2)), a0.1.2.2)), ())).bind fun y1 =>
  (bounds_copied.F ((a0.2.1, ((((a0.2.2.1.1.1.1, a0.2.2.1.1.1.2), a0.2.2.1.1.2), ((a0.2.2.1.2.1.1, a0.2.2.1.2.1.2), a0.2.2.1.2.2)), a0.2.2.2)), ())).bind fun y2 =>
  some (((y1.1.1, ((((y1.1.2.1.1.1.1, y1.1.2.1.1.1.2), y1.1.2.1.1.2), ((y1.1.2.1.2.1.1, y1.1.2.1.2.1.2), y1.1.2.1.2.2)), y1.1.2.2)), (y2.1.1, ((((y2.1.2.1.1.1.1, y2.1.2.1.1.1.2), y2.1.2.1.1.2), ((y2.1.2.1.2.1.1, y2.1.2.1.2.1.2), y2.1.2.1.2.2)), y2.1.2.2))), ())
theorem bounds_copiedLimit.eval (k : Nat) (a0 : Dt68) : evalF bounds_copiedLimit.spec bounds_copiedLimit.cals T Tryz.f46 k (a0, ()) = bounds_copiedLimit.e  a0 := by kernel_rfl
theorem bounds_copiedLimit.F_eq (a0 : Dt68) : bounds_copiedLimit.F (a0, ()) = limF bounds_copiedLimit.spec bounds_copiedLimit.cals T Tryz.f46 (a0, ()) := by kernel_rfl
theorem bounds_copiedLimit.of (k : Nat) (a0 : Dt68) {y : Dt68 × Unit} (h : bounds_copiedLimit.e  a0 = some y) : bounds_copiedLimit.F (a0, ()) = some y := (bounds_copiedLimit.F_eq a0).trans (limF_of (q := bounds_copiedLimit.spec) (C := bounds_copiedLimit.cals) (T := T) (f := Tryz.f46) (x := (a0, ())) (y := y) k ((bounds_copiedLimit.eval k a0).trans h))

def bounds_copiedChange.spec : Spec := ⟨[(true, Kt70)], [(true, Kt70)], .own, fun j => match j with  | _ => []⟩
noncomputable def bounds_copiedChange.cals : Cals := (Cals.cons 72 bounds_copied.sig (Cals.base tabs))
noncomputable def bounds_copiedChange.sig : Sig := bounds_copiedChange.spec.sig bounds_copiedChange.cals T Tryz.f47
noncomputable def bounds_copiedChange.F (x : Dt70 × Unit) : Option (Dt70 × Unit) := limF bounds_copiedChange.spec bounds_copiedChange.cals T Tryz.f47 x
theorem bounds_copiedChange.ck : CalsOk Tryz.prog bounds_copiedChange.cals := (CalsOk.cons bounds_copied.cal (CalsOk.base tabsOk))
theorem bounds_copiedChange.cal : CalOk Tryz.prog tabs 47 bounds_copiedChange.sig := calOk_lim' tabOk bounds_copiedChange.ck mix Tryz.func47 (by kernel_rfl) (by kernel_rfl) (by kernel_rfl) (by kernel_rfl)
noncomputable def bounds_copiedChange.e  (a0 : Dt70) : Option (Dt70 × Unit) :=
  (bounds_copied.F ((a0.2.2.2.1, ((((a0.2.2.2.2.1.1.1.1, a0.2.2.2.2.1.1.1.2), a0.2.2.2.2.1.1.2), ((a0.2.2.2.2.1.2.1.1, a0.2.2.2.2.1.2.1.2), a0.2.2.2.2.1.2.2)), a0.2.2.2.2.2)), ())).bind fun y1 =>
  some ((a0.1, (a0.2.1, (a0.2.2.1, (y1.1.1, ((((y1.1.2.1.1.1.1, y1.1.2.1.1.1.2), y1.1.2.1.1.2), ((y1.1.2.1.2.1.1, y1.1.2.1.2.1.2), y1.1.2.1.2.2)), y1.1.2.2))))), ())
theorem bounds_copiedChange.eval (k : Nat) (a0 : Dt70) : evalF bounds_copiedChange.spec bounds_copiedChange.cals T Tryz.f47 k (a0, ()) = bounds_copiedChange.e  a0 := by kernel_rfl
theorem bounds_copiedChange.F_eq (a0 : Dt70) : bounds_copiedChange.F (a0, ()) = limF bounds_copiedChange.spec bounds_copiedChange.cals T Tryz.f47 (a0, ()) := by kernel_rfl
theorem bounds_copiedChange.of (k : Nat) (a0 : Dt70) {y : Dt70 × Unit} (h : bounds_copiedChange.e  a0 = some y) : bounds_copiedChange.F (a0, ()) = some y := (bounds_copiedChange.F_eq a0).trans (limF_of (q := bounds_copiedChange.spec) (C := bounds_copiedChange.cals) (T := T) (f := Tryz.f47) (x := (a0, ())) (y := y) k ((bounds_copiedChange.eval k a0).trans h))

def bounds_Store_State.spec : XSpec := ⟨some ⟨81, 0, Kt81, 0⟩, false, [], false, none, [(true, Kt32)], false, fun j => match j with | 5 => [(0, .pbox 81 [.v true, .o 70 Kt70 true, .v true, .o 68 Kt68 true]), (2, .box 32 [.v true, .v true, .v true]), (3, .box 32 [.o 68 Kt68 true, .v true, .v true]), (21, .lf (.o 68 Kt68 true)), (22, .lf (.v true)), (23, .lf (.v true))] | 10 => [(0, .pbox 81 [.v true, .o 70 Kt70 true, .v true, .o 68 Kt68 true]), (2, .box 32 [.v true, .v true, .v true]), (3, .box 32 [.o 68 Kt68 true, .v true, .o 70 Kt70 true]), (39, .lf (.o 70 Kt70 true)), (40, .lf (.v true)), (41, .lf (.v true))] | _ => []⟩
noncomputable def bounds_Store_State.cals : Cals := (Cals.consX 36 false bounds_Store_is.sig (Cals.cons 46 bounds_copiedLimit.sig (Cals.cons 47 bounds_copiedChange.sig (Cals.base tabs))))
noncomputable def bounds_Store_State.sig : XSig := bounds_Store_State.spec.sig bounds_Store_State.cals T Tryz.f14
noncomputable def bounds_Store_State.F (d : Dt81) (x : Unit) : Option (Unit × (Dt32 × Unit) × Dt81) := limX bounds_Store_State.spec bounds_Store_State.cals T Tryz.f14 d x
theorem bounds_Store_State.ck : CalsOk Tryz.prog bounds_Store_State.cals := (CalsOk.consX bounds_Store_is.cal (CalsOk.cons bounds_copiedLimit.cal (CalsOk.cons bounds_copiedChange.cal (CalsOk.base tabsOk))))
theorem bounds_Store_State.cal : XOk Tryz.prog tabs 14 bounds_Store_State.sig := xok_of tabOk bounds_Store_State.ck mix Tryz.func14 (by kernel_rfl) (by kernel_rfl) (by kernel_rfl) (by kernel_rfl)
def bounds_Store_State.m5 (x0_g : Nat) (x0_0 : Int) (x0_1 : Dt30) (x0_2 : Bool) (x2_1 : Int) (x3_0 : Dt29) (x3_1 : Int) (x21 : Dt29) (x22 : Int) (x23 : Int) : S := ⟨[(0, .pbox 0 0 x0_g), (2, .box 1 0), (3, .box 2 0), (21, .one (.lf (.own 0))), (22, .one (.lf (.val true (.int .i64) x22))), (23, .one (.lf (.val true (.int .i64) x23)))], ⟨[some ⟨68, Kt68, true, true, x21⟩, some ⟨70, Kt70, true, true, x0_1⟩, some ⟨68, Kt68, true, true, x3_0⟩], [some ⟨81, [.val true (.int .i64) x0_0, .own 1, .val true .bool x0_2, .own 0]⟩, some ⟨32, [.nil, .val true (.int .i64) x2_1, .nil]⟩, some ⟨32, [.own 2, .val true (.int .i64) x3_1, .nil]⟩]⟩⟩
def bounds_Store_State.m10 (x0_g : Nat) (x0_0 : Int) (x0_2 : Bool) (x0_3 : Dt29) (x2_1 : Int) (x3_0 : Dt29) (x3_1 : Int) (x3_2 : Dt30) (x39 : Dt30) (x40 : Int) (x41 : Int) : S := ⟨[(0, .pbox 0 0 x0_g), (2, .box 1 0), (3, .box 2 0), (39, .one (.lf (.own 0))), (40, .one (.lf (.val true (.int .i64) x40))), (41, .one (.lf (.val true (.int .i64) x41)))], ⟨[some ⟨70, Kt70, true, true, x39⟩, some ⟨68, Kt68, true, true, x0_3⟩, some ⟨68, Kt68, true, true, x3_0⟩, some ⟨70, Kt70, true, true, x3_2⟩], [some ⟨81, [.val true (.int .i64) x0_0, .own 0, .val true .bool x0_2, .own 1]⟩, some ⟨32, [.nil, .val true (.int .i64) x2_1, .nil]⟩, some ⟨32, [.own 2, .val true (.int .i64) x3_1, .own 3]⟩]⟩⟩
noncomputable def bounds_Store_State.b5 (f5 : Nat → Int → Dt30 → Bool → Int → Dt29 → Int → Dt29 → Int → Int → Option ((Unit × (Dt32 × Unit) × Dt81) × Nat × List Value)) (f10 : Nat → Int → Bool → Dt29 → Int → Dt29 → Int → Dt30 → Dt30 → Int → Int → Option ((Unit × (Dt32 × Unit) × Dt81) × Nat × List Value)) (x0_g : Nat) (x0_0 : Int) (x0_1 : Dt30) (x0_2 : Bool) (x2_1 : Int) (x3_0 : Dt29) (x3_1 : Int) (x21 : Dt29) (x22 : Int) (x23 : Int) : Option ((Unit × (Dt32 × Unit) × Dt81) × Nat × List Value) :=
  let v1 := decide (x23 < x22)
  bif v1 then (bif decide (0 ≤ x23) && decide (x23 < (List.length x21 : Int)) then (let v2 := ((List.getD x21 (Int.toNat x23) zt68).1).1
  let v3 := ((((((List.getD x21 (Int.toNat x23) zt68).1).2).1).1).1).1
  let v4 := ((((((List.getD x21 (Int.toNat x23) zt68).1).2).1).1).1).2
  let v5 := (((((List.getD x21 (Int.toNat x23) zt68).1).2).1).1).2
  let v6 := ((((((List.getD x21 (Int.toNat x23) zt68).1).2).1).2).1).1
  let v7 := ((((((List.getD x21 (Int.toNat x23) zt68).1).2).1).2).1).2
  let v8 := (((((List.getD x21 (Int.toNat x23) zt68).1).2).1).2).2
  let v9 := (((List.getD x21 (Int.toNat x23) zt68).1).2).2
  let v10 := ((List.getD x21 (Int.toNat x23) zt68).2).1
  let v11 := ((((((List.getD x21 (Int.toNat x23) zt68).2).2).1).1).1).1
  let v12 := ((((((List.getD x21 (Int.toNat x23) zt68).2).2).1).1).1).2
  let v13 := (((((List.getD x21 (Int.toNat x23) zt68).2).2).1).1).2
  let v14 := ((((((List.getD x21 (Int.toNat x23) zt68).2).2).1).2).1).1
  let v15 := ((((((List.getD x21 (Int.toNat x23) zt68).2).2).1).2).1).2
  let v16 := (((((List.getD x21 (Int.toNat x23) zt68).2).2).1).2).2
  let v17 := (((List.getD x21 (Int.toNat x23) zt68).2).2).2
  (bounds_copiedLimit.F (((v2, ((((v3, v4), v5), ((v6, v7), v8)), v9)), (v10, ((((v11, v12), v13), ((v14, v15), v16)), v17))), ())).bind fun y18 =>
  let v19 := ([((y18.1.1.1, ((((y18.1.1.2.1.1.1.1, y18.1.1.2.1.1.1.2), y18.1.1.2.1.1.2), ((y18.1.1.2.1.2.1.1, y18.1.1.2.1.2.1.2), y18.1.1.2.1.2.2)), y18.1.1.2.2)), (y18.1.2.1, ((((y18.1.2.2.1.1.1.1, y18.1.2.2.1.1.1.2), y18.1.2.2.1.1.2), ((y18.1.2.2.1.2.1.1, y18.1.2.2.1.2.1.2), y18.1.2.2.1.2.2)), y18.1.2.2.2)))] : List Dt68)
  bif decide (List.length x3_0 + List.length v19 < 549755813888) then (let v20 := List.append x3_0 v19
  let v21 := IntKind.i64.wrap (x23 + (1 : Int))
  f5 x0_g x0_0 x0_1 x0_2 x2_1 v20 x3_1 x21 x22 v21)
  else none)
  else none)
  else (let v22 := (List.length x0_1 : Int)
  f10 x0_g x0_0 x0_2 x21 x2_1 x3_0 x3_1 zt30 x0_1 v22 (0 : Int))
noncomputable def bounds_Store_State.b10 (f5 : Nat → Int → Dt30 → Bool → Int → Dt29 → Int → Dt29 → Int → Int → Option ((Unit × (Dt32 × Unit) × Dt81) × Nat × List Value)) (f10 : Nat → Int → Bool → Dt29 → Int → Dt29 → Int → Dt30 → Dt30 → Int → Int → Option ((Unit × (Dt32 × Unit) × Dt81) × Nat × List Value)) (x0_g : Nat) (x0_0 : Int) (x0_2 : Bool) (x0_3 : Dt29) (x2_1 : Int) (x3_0 : Dt29) (x3_1 : Int) (x3_2 : Dt30) (x39 : Dt30) (x40 : Int) (x41 : Int) : Option ((Unit × (Dt32 × Unit) × Dt81) × Nat × List Value) :=
  let v1 := decide (x41 < x40)
  bif v1 then (bif decide (0 ≤ x41) && decide (x41 < (List.length x39 : Int)) then (let v2 := (List.getD x39 (Int.toNat x41) zt70).1
  let v3 := ((List.getD x39 (Int.toNat x41) zt70).2).1
  let v4 := (((List.getD x39 (Int.toNat x41) zt70).2).2).1
  let v5 := ((((List.getD x39 (Int.toNat x41) zt70).2).2).2).1
  let v6 := ((((((((List.getD x39 (Int.toNat x41) zt70).2).2).2).2).1).1).1).1
  let v7 := ((((((((List.getD x39 (Int.toNat x41) zt70).2).2).2).2).1).1).1).2
  let v8 := (((((((List.getD x39 (Int.toNat x41) zt70).2).2).2).2).1).1).2
  let v9 := ((((((((List.getD x39 (Int.toNat x41) zt70).2).2).2).2).1).2).1).1
  let v10 := ((((((((List.getD x39 (Int.toNat x41) zt70).2).2).2).2).1).2).1).2
  let v11 := (((((((List.getD x39 (Int.toNat x41) zt70).2).2).2).2).1).2).2
  let v12 := (((((List.getD x39 (Int.toNat x41) zt70).2).2).2).2).2
  (bounds_copiedChange.F ((v2, (v3, (v4, (v5, ((((v6, v7), v8), ((v9, v10), v11)), v12))))), ())).bind fun y13 =>
  let v14 := ([(y13.1.1, (y13.1.2.1, (y13.1.2.2.1, (y13.1.2.2.2.1, ((((y13.1.2.2.2.2.1.1.1.1, y13.1.2.2.2.2.1.1.1.2), y13.1.2.2.2.2.1.1.2), ((y13.1.2.2.2.2.1.2.1.1, y13.1.2.2.2.2.1.2.1.2), y13.1.2.2.2.2.1.2.2)), y13.1.2.2.2.2.2)))))] : List Dt70)
  bif decide (List.length x3_2 + List.length v14 < 925904528653) then (let v15 := List.append x3_2 v14
  let v16 := IntKind.i64.wrap (x41 + (1 : Int))
  f10 x0_g x0_0 x0_2 x0_3 x2_1 x3_0 x3_1 v15 x39 x40 v16)
  else none)
  else none)
  else (some (((), ((x3_0, (x3_1, x3_2)), ()), ((x0_0, x39), (x0_2, x0_3))), x0_g, []))
noncomputable def bounds_Store_State.e (f5 : Nat → Int → Dt30 → Bool → Int → Dt29 → Int → Dt29 → Int → Int → Option ((Unit × (Dt32 × Unit) × Dt81) × Nat × List Value)) (f10 : Nat → Int → Bool → Dt29 → Int → Dt29 → Int → Dt30 → Dt30 → Int → Int → Option ((Unit × (Dt32 × Unit) × Dt81) × Nat × List Value)) (G : Gh) (d : Dt81)  : Option ((Unit × (Dt32 × Unit) × Dt81) × Nat × List Value) :=
  (bounds_Store_is.F ((d.1.1, d.1.2), (d.2.1, d.2.2)) ()).bind fun y1 =>
  let v2 := not y1.2.1.1
  bif v2 then (some (((), (zt32, ()), ((y1.2.2.1.1, y1.2.2.1.2), (y1.2.2.2.1, y1.2.2.2.2))), G.b, []))
  else (let v3 := (List.length y1.2.2.2.2 : Int)
  f5 G.b y1.2.2.1.1 y1.2.2.1.2 y1.2.2.2.1 (0 : Int) zt29 y1.2.2.1.1 y1.2.2.2.2 v3 (0 : Int))
noncomputable def bounds_Store_State.L5 (k : Nat) (x0_g : Nat) (x0_0 : Int) (x0_1 : Dt30) (x0_2 : Bool) (x2_1 : Int) (x3_0 : Dt29) (x3_1 : Int) (x21 : Dt29) (x22 : Int) (x23 : Int) : Option ((Unit × (Dt32 × Unit) × Dt81) × Nat × List Value) := heads (bounds_Store_State.spec.env bounds_Store_State.cals T Tryz.f14) (Func.pts Tryz.f14) k 5 (bounds_Store_State.m5 x0_g x0_0 x0_1 x0_2 x2_1 x3_0 x3_1 x21 x22 x23)
noncomputable def bounds_Store_State.L10 (k : Nat) (x0_g : Nat) (x0_0 : Int) (x0_2 : Bool) (x0_3 : Dt29) (x2_1 : Int) (x3_0 : Dt29) (x3_1 : Int) (x3_2 : Dt30) (x39 : Dt30) (x40 : Int) (x41 : Int) : Option ((Unit × (Dt32 × Unit) × Dt81) × Nat × List Value) := heads (bounds_Store_State.spec.env bounds_Store_State.cals T Tryz.f14) (Func.pts Tryz.f14) k 10 (bounds_Store_State.m10 x0_g x0_0 x0_2 x0_3 x2_1 x3_0 x3_1 x3_2 x39 x40 x41)
theorem bounds_Store_State.L5_succ (k : Nat) (x0_g : Nat) (x0_0 : Int) (x0_1 : Dt30) (x0_2 : Bool) (x2_1 : Int) (x3_0 : Dt29) (x3_1 : Int) (x21 : Dt29) (x22 : Int) (x23 : Int) : bounds_Store_State.L5 (k + 1) x0_g x0_0 x0_1 x0_2 x2_1 x3_0 x3_1 x21 x22 x23 = bounds_Store_State.b5 (bounds_Store_State.L5 k) (bounds_Store_State.L10 k) x0_g x0_0 x0_1 x0_2 x2_1 x3_0 x3_1 x21 x22 x23 := by kernel_rfl
theorem bounds_Store_State.L10_succ (k : Nat) (x0_g : Nat) (x0_0 : Int) (x0_2 : Bool) (x0_3 : Dt29) (x2_1 : Int) (x3_0 : Dt29) (x3_1 : Int) (x3_2 : Dt30) (x39 : Dt30) (x40 : Int) (x41 : Int) : bounds_Store_State.L10 (k + 1) x0_g x0_0 x0_2 x0_3 x2_1 x3_0 x3_1 x3_2 x39 x40 x41 = bounds_Store_State.b10 (bounds_Store_State.L5 k) (bounds_Store_State.L10 k) x0_g x0_0 x0_2 x0_3 x2_1 x3_0 x3_1 x3_2 x39 x40 x41 := by kernel_rfl
theorem bounds_Store_State.eval (k : Nat) (G : Gh) (d : Dt81)  : evalX bounds_Store_State.spec bounds_Store_State.cals T Tryz.f14 k G d () = bounds_Store_State.e (bounds_Store_State.L5 k) (bounds_Store_State.L10 k) G d  := by kernel_rfl
theorem bounds_Store_State.of (d : Dt81)  (y : (Unit × (Dt32 × Unit) × Dt81)) (h : ∀ G : Gh, ∃ k : Nat, bounds_Store_State.e (bounds_Store_State.L5 k) (bounds_Store_State.L10 k) G d  = some (y, (G.b, []))) : bounds_Store_State.F d () = some y := limX_of (q := bounds_Store_State.spec) (C := bounds_Store_State.cals) (T := T) (f := Tryz.f14) (d := d) (x := ()) y fun G => (h G).imp fun k hk => (bounds_Store_State.eval k G d ).trans hk

def bounds_Store_Limit.spec : XSpec := ⟨some ⟨81, 0, Kt81, 0⟩, false, [(false, (.int .i64))], false, none, [(true, Kt68), (false, (.int .i64))], false, fun j => match j with  | _ => []⟩
noncomputable def bounds_Store_Limit.cals : Cals := (Cals.consX 55 false bounds_Store_wrong.sig (Cals.cons 46 bounds_copiedLimit.sig (Cals.base tabs)))
noncomputable def bounds_Store_Limit.sig : XSig := bounds_Store_Limit.spec.sig bounds_Store_Limit.cals T Tryz.f22
noncomputable def bounds_Store_Limit.F (d : Dt81) (x : Int × Unit) : Option (Unit × (Dt68 × Int × Unit) × Dt81) := limX bounds_Store_Limit.spec bounds_Store_Limit.cals T Tryz.f22 d x
theorem bounds_Store_Limit.ck : CalsOk Tryz.prog bounds_Store_Limit.cals := (CalsOk.consX bounds_Store_wrong.cal (CalsOk.cons bounds_copiedLimit.cal (CalsOk.base tabsOk)))
theorem bounds_Store_Limit.cal : XOk Tryz.prog tabs 22 bounds_Store_Limit.sig := xok_of tabOk bounds_Store_Limit.ck mix Tryz.func22 (by kernel_rfl) (by kernel_rfl) (by kernel_rfl) (by kernel_rfl)
noncomputable def bounds_Store_Limit.e  (G : Gh) (d : Dt81) (a0 : Int) : Option ((Unit × (Dt68 × Int × Unit) × Dt81) × Nat × List Value) :=
  (bounds_Store_wrong.F ((d.1.1, d.1.2), (d.2.1, d.2.2)) (a0, ())).bind fun y1 =>
  let v2 := (y1.2.1.1 != (0 : Int))
  bif v2 then (some (((), (zt68, y1.2.1.1, ()), ((y1.2.2.1.1, y1.2.2.1.2), (y1.2.2.2.1, y1.2.2.2.2))), G.b, []))
  else (bif decide (0 ≤ a0) && decide (a0 < (List.length y1.2.2.2.2 : Int)) then (let v3 := ((List.getD y1.2.2.2.2 (Int.toNat a0) zt68).1).1
  let v4 := ((((((List.getD y1.2.2.2.2 (Int.toNat a0) zt68).1).2).1).1).1).1
  let v5 := ((((((List.getD y1.2.2.2.2 (Int.toNat a0) zt68).1).2).1).1).1).2
  let v6 := (((((List.getD y1.2.2.2.2 (Int.toNat a0) zt68).1).2).1).1).2
  let v7 := ((((((List.getD y1.2.2.2.2 (Int.toNat a0) zt68).1).2).1).2).1).1
  let v8 := ((((((List.getD y1.2.2.2.2 (Int.toNat a0) zt68).1).2).1).2).1).2
  let v9 := (((((List.getD y1.2.2.2.2 (Int.toNat a0) zt68).1).2).1).2).2
  let v10 := (((List.getD y1.2.2.2.2 (Int.toNat a0) zt68).1).2).2
  let v11 := ((List.getD y1.2.2.2.2 (Int.toNat a0) zt68).2).1
  let v12 := ((((((List.getD y1.2.2.2.2 (Int.toNat a0) zt68).2).2).1).1).1).1
  let v13 := ((((((List.getD y1.2.2.2.2 (Int.toNat a0) zt68).2).2).1).1).1).2
  let v14 := (((((List.getD y1.2.2.2.2 (Int.toNat a0) zt68).2).2).1).1).2
  let v15 := ((((((List.getD y1.2.2.2.2 (Int.toNat a0) zt68).2).2).1).2).1).1
  let v16 := ((((((List.getD y1.2.2.2.2 (Int.toNat a0) zt68).2).2).1).2).1).2
  let v17 := (((((List.getD y1.2.2.2.2 (Int.toNat a0) zt68).2).2).1).2).2
  let v18 := (((List.getD y1.2.2.2.2 (Int.toNat a0) zt68).2).2).2
  (bounds_copiedLimit.F (((v3, ((((v4, v5), v6), ((v7, v8), v9)), v10)), (v11, ((((v12, v13), v14), ((v15, v16), v17)), v18))), ())).bind fun y19 =>
  some (((), (((y19.1.1.1, ((((y19.1.1.2.1.1.1.1, y19.1.1.2.1.1.1.2), y19.1.1.2.1.1.2), ((y19.1.1.2.1.2.1.1, y19.1.1.2.1.2.1.2), y19.1.1.2.1.2.2)), y19.1.1.2.2)), (y19.1.2.1, ((((y19.1.2.2.1.1.1.1, y19.1.2.2.1.1.1.2), y19.1.2.2.1.1.2), ((y19.1.2.2.1.2.1.1, y19.1.2.2.1.2.1.2), y19.1.2.2.1.2.2)), y19.1.2.2.2))), (0 : Int), ()), ((y1.2.2.1.1, y1.2.2.1.2), (y1.2.2.2.1, y1.2.2.2.2))), G.b, []))
  else none)
theorem bounds_Store_Limit.eval (k : Nat) (G : Gh) (d : Dt81) (a0 : Int) : evalX bounds_Store_Limit.spec bounds_Store_Limit.cals T Tryz.f22 k G d (a0, ()) = bounds_Store_Limit.e  G d a0 := by kernel_rfl
theorem bounds_Store_Limit.of (d : Dt81) (a0 : Int) (y : (Unit × (Dt68 × Int × Unit) × Dt81)) (h : ∀ G : Gh, ∃ k : Nat, bounds_Store_Limit.e  G d a0 = some (y, (G.b, []))) : bounds_Store_Limit.F d (a0, ()) = some y := limX_of (q := bounds_Store_Limit.spec) (C := bounds_Store_Limit.cals) (T := T) (f := Tryz.f22) (d := d) (x := (a0, ())) y fun G => (h G).imp fun k hk => (bounds_Store_Limit.eval k G d a0).trans hk

def bounds_Store_Fixed.spec : XSpec := ⟨some ⟨81, 0, Kt81, 0⟩, false, [(false, (.int .i64))], false, none, [(false, .bool), (false, (.int .i64))], false, fun j => match j with  | _ => []⟩
noncomputable def bounds_Store_Fixed.cals : Cals := (Cals.consX 55 false bounds_Store_wrong.sig (Cals.cons 68 delta_Cmp.sig (Cals.base tabs)))
noncomputable def bounds_Store_Fixed.sig : XSig := bounds_Store_Fixed.spec.sig bounds_Store_Fixed.cals T Tryz.f39
noncomputable def bounds_Store_Fixed.F (d : Dt81) (x : Int × Unit) : Option (Unit × (Bool × Int × Unit) × Dt81) := limX bounds_Store_Fixed.spec bounds_Store_Fixed.cals T Tryz.f39 d x
theorem bounds_Store_Fixed.ck : CalsOk Tryz.prog bounds_Store_Fixed.cals := (CalsOk.consX bounds_Store_wrong.cal (CalsOk.cons delta_Cmp.cal (CalsOk.base tabsOk)))
theorem bounds_Store_Fixed.cal : XOk Tryz.prog tabs 39 bounds_Store_Fixed.sig := xok_of tabOk bounds_Store_Fixed.ck mix Tryz.func39 (by kernel_rfl) (by kernel_rfl) (by kernel_rfl) (by kernel_rfl)
noncomputable def bounds_Store_Fixed.e  (G : Gh) (d : Dt81) (a0 : Int) : Option ((Unit × (Bool × Int × Unit) × Dt81) × Nat × List Value) :=
  (bounds_Store_wrong.F ((d.1.1, d.1.2), (d.2.1, d.2.2)) (a0, ())).bind fun y1 =>
  let v2 := (y1.2.1.1 != (0 : Int))
  bif v2 then (some (((), (false, y1.2.1.1, ()), ((y1.2.2.1.1, y1.2.2.1.2), (y1.2.2.2.1, y1.2.2.2.2))), G.b, []))
  else (bif decide (0 ≤ a0) && decide (a0 < (List.length y1.2.2.2.2 : Int)) then (let v3 := ((List.getD y1.2.2.2.2 (Int.toNat a0) zt68).1).1
  let v4 := ((((((List.getD y1.2.2.2.2 (Int.toNat a0) zt68).1).2).1).1).1).1
  let v5 := ((((((List.getD y1.2.2.2.2 (Int.toNat a0) zt68).1).2).1).1).1).2
  let v6 := (((((List.getD y1.2.2.2.2 (Int.toNat a0) zt68).1).2).1).1).2
  let v7 := ((((((List.getD y1.2.2.2.2 (Int.toNat a0) zt68).1).2).1).2).1).1
  let v8 := ((((((List.getD y1.2.2.2.2 (Int.toNat a0) zt68).1).2).1).2).1).2
  let v9 := (((((List.getD y1.2.2.2.2 (Int.toNat a0) zt68).1).2).1).2).2
  let v10 := (((List.getD y1.2.2.2.2 (Int.toNat a0) zt68).1).2).2
  let v11 := ((List.getD y1.2.2.2.2 (Int.toNat a0) zt68).2).1
  let v12 := ((((((List.getD y1.2.2.2.2 (Int.toNat a0) zt68).2).2).1).1).1).1
  let v13 := ((((((List.getD y1.2.2.2.2 (Int.toNat a0) zt68).2).2).1).1).1).2
  let v14 := (((((List.getD y1.2.2.2.2 (Int.toNat a0) zt68).2).2).1).1).2
  let v15 := ((((((List.getD y1.2.2.2.2 (Int.toNat a0) zt68).2).2).1).2).1).1
  let v16 := ((((((List.getD y1.2.2.2.2 (Int.toNat a0) zt68).2).2).1).2).1).2
  let v17 := (((((List.getD y1.2.2.2.2 (Int.toNat a0) zt68).2).2).1).2).2
  let v18 := (((List.getD y1.2.2.2.2 (Int.toNat a0) zt68).2).2).2
  bif v3 then (bif v11 then ((delta_Cmp.F ((((v4, v5), v6), ((v7, v8), v9)), (((v12, v13), v14), ((v15, v16), v17)), ())).bind fun y19 =>
  let v20 := (y19.1 == (0 : Int))
  some (((), (v20, (0 : Int), ()), ((y1.2.2.1.1, y1.2.2.1.2), (y1.2.2.2.1, y1.2.2.2.2))), G.b, []))
  else (some (((), (false, (0 : Int), ()), ((y1.2.2.1.1, y1.2.2.1.2), (y1.2.2.2.1, y1.2.2.2.2))), G.b, [])))
  else (some (((), (false, (0 : Int), ()), ((y1.2.2.1.1, y1.2.2.1.2), (y1.2.2.2.1, y1.2.2.2.2))), G.b, [])))
  else none)
theorem bounds_Store_Fixed.eval (k : Nat) (G : Gh) (d : Dt81) (a0 : Int) : evalX bounds_Store_Fixed.spec bounds_Store_Fixed.cals T Tryz.f39 k G d (a0, ()) = bounds_Store_Fixed.e  G d a0 := by kernel_rfl
theorem bounds_Store_Fixed.of (d : Dt81) (a0 : Int) (y : (Unit × (Bool × Int × Unit) × Dt81)) (h : ∀ G : Gh, ∃ k : Nat, bounds_Store_Fixed.e  G d a0 = some (y, (G.b, []))) : bounds_Store_Fixed.F d (a0, ()) = some y := limX_of (q := bounds_Store_Fixed.spec) (C := bounds_Store_Fixed.cals) (T := T) (f := Tryz.f39) (d := d) (x := (a0, ())) y fun G => (h G).imp fun k hk => (bounds_Store_Fixed.eval k G d a0).trans hk

def fulcrumref08_Fixed.spec : Spec := ⟨[(true, Kt32), (false, (.int .i64))], [(false, .bool), (false, (.int .i64))], .own, fun j => match j with  | _ => []⟩
noncomputable def fulcrumref08_Fixed.cals : Cals := (Cals.cons 37 fulcrumref08_Is.sig (Cals.cons 69 fulcrumref05_Cmp.sig (Cals.base tabs)))
noncomputable def fulcrumref08_Fixed.sig : Sig := fulcrumref08_Fixed.spec.sig fulcrumref08_Fixed.cals T Tryz.f40
noncomputable def fulcrumref08_Fixed.F (x : Dt32 × Int × Unit) : Option (Bool × Int × Unit) := limF fulcrumref08_Fixed.spec fulcrumref08_Fixed.cals T Tryz.f40 x
theorem fulcrumref08_Fixed.ck : CalsOk Tryz.prog fulcrumref08_Fixed.cals := (CalsOk.cons fulcrumref08_Is.cal (CalsOk.cons fulcrumref05_Cmp.cal (CalsOk.base tabsOk)))
theorem fulcrumref08_Fixed.cal : CalOk Tryz.prog tabs 40 fulcrumref08_Fixed.sig := calOk_lim' tabOk fulcrumref08_Fixed.ck mix Tryz.func40 (by kernel_rfl) (by kernel_rfl) (by kernel_rfl) (by kernel_rfl)
noncomputable def fulcrumref08_Fixed.e  (a0 : Dt32) (a1 : Int) : Option (Bool × Int × Unit) :=
  (fulcrumref08_Is.F ((a0.1, (a0.2.1, a0.2.2)), a1, ())).bind fun y1 =>
  let v2 := not y1.1
  bif v2 then (some (false, (61 : Int), ()))
  else (bif decide (0 ≤ a1) && decide (a1 < (List.length a0.1 : Int)) then (let v3 := ((List.getD a0.1 (Int.toNat a1) zt68).1).1
  let v4 := ((((((List.getD a0.1 (Int.toNat a1) zt68).1).2).1).1).1).1
  let v5 := ((((((List.getD a0.1 (Int.toNat a1) zt68).1).2).1).1).1).2
  let v6 := (((((List.getD a0.1 (Int.toNat a1) zt68).1).2).1).1).2
  let v7 := ((((((List.getD a0.1 (Int.toNat a1) zt68).1).2).1).2).1).1
  let v8 := ((((((List.getD a0.1 (Int.toNat a1) zt68).1).2).1).2).1).2
  let v9 := (((((List.getD a0.1 (Int.toNat a1) zt68).1).2).1).2).2
  let v10 := (((List.getD a0.1 (Int.toNat a1) zt68).1).2).2
  let v11 := ((List.getD a0.1 (Int.toNat a1) zt68).2).1
  let v12 := ((((((List.getD a0.1 (Int.toNat a1) zt68).2).2).1).1).1).1
  let v13 := ((((((List.getD a0.1 (Int.toNat a1) zt68).2).2).1).1).1).2
  let v14 := (((((List.getD a0.1 (Int.toNat a1) zt68).2).2).1).1).2
  let v15 := ((((((List.getD a0.1 (Int.toNat a1) zt68).2).2).1).2).1).1
  let v16 := ((((((List.getD a0.1 (Int.toNat a1) zt68).2).2).1).2).1).2
  let v17 := (((((List.getD a0.1 (Int.toNat a1) zt68).2).2).1).2).2
  let v18 := (((List.getD a0.1 (Int.toNat a1) zt68).2).2).2
  bif v3 then (bif v11 then ((fulcrumref05_Cmp.F ((((v4, v5), v6), ((v7, v8), v9)), (((v12, v13), v14), ((v15, v16), v17)), ())).bind fun y19 =>
  let v20 := (y19.1 == (0 : Int))
  some (v20, (0 : Int), ()))
  else (some (false, (0 : Int), ())))
  else (some (false, (0 : Int), ())))
  else none)
theorem fulcrumref08_Fixed.eval (k : Nat) (a0 : Dt32) (a1 : Int) : evalF fulcrumref08_Fixed.spec fulcrumref08_Fixed.cals T Tryz.f40 k (a0, a1, ()) = fulcrumref08_Fixed.e  a0 a1 := by kernel_rfl
theorem fulcrumref08_Fixed.F_eq (a0 : Dt32) (a1 : Int) : fulcrumref08_Fixed.F (a0, a1, ()) = limF fulcrumref08_Fixed.spec fulcrumref08_Fixed.cals T Tryz.f40 (a0, a1, ()) := by kernel_rfl
theorem fulcrumref08_Fixed.of (k : Nat) (a0 : Dt32) (a1 : Int) {y : Bool × Int × Unit} (h : fulcrumref08_Fixed.e  a0 a1 = some y) : fulcrumref08_Fixed.F (a0, a1, ()) = some y := (fulcrumref08_Fixed.F_eq a0 a1).trans (limF_of (q := fulcrumref08_Fixed.spec) (C := fulcrumref08_Fixed.cals) (T := T) (f := Tryz.f40) (x := (a0, a1, ())) (y := y) k ((fulcrumref08_Fixed.eval k a0 a1).trans h))

def bounds_keeps.spec : Spec := ⟨[(true, Kt68), (true, Kt44)], [(false, .bool)], .own, fun j => match j with  | _ => []⟩
noncomputable def bounds_keeps.cals : Cals := (Cals.cons 63 bounds_above.sig (Cals.cons 49 bounds_below.sig (Cals.base tabs)))
noncomputable def bounds_keeps.sig : Sig := bounds_keeps.spec.sig bounds_keeps.cals T Tryz.f70
noncomputable def bounds_keeps.F (x : Dt68 × Dt44 × Unit) : Option (Bool × Unit) := limF bounds_keeps.spec bounds_keeps.cals T Tryz.f70 x
theorem bounds_keeps.ck : CalsOk Tryz.prog bounds_keeps.cals := (CalsOk.cons bounds_above.cal (CalsOk.cons bounds_below.cal (CalsOk.base tabsOk)))
theorem bounds_keeps.cal : CalOk Tryz.prog tabs 70 bounds_keeps.sig := calOk_lim' tabOk bounds_keeps.ck mix Tryz.func70 (by kernel_rfl) (by kernel_rfl) (by kernel_rfl) (by kernel_rfl)
noncomputable def bounds_keeps.e  (a0 : Dt68) (a1 : Dt44) : Option (Bool × Unit) :=
  (bounds_above.F ((a0.1.1, ((((a0.1.2.1.1.1.1, a0.1.2.1.1.1.2), a0.1.2.1.1.2), ((a0.1.2.1.2.1.1, a0.1.2.1.2.1.2), a0.1.2.1.2.2)), a0.1.2.2)), (((a1.1.1.1, a1.1.1.2), a1.1.2), ((a1.2.1.1, a1.2.1.2), a1.2.2)), ())).bind fun y1 =>
  let v2 := not y1.1
  bif v2 then ((bounds_below.F ((a0.2.1, ((((a0.2.2.1.1.1.1, a0.2.2.1.1.1.2), a0.2.2.1.1.2), ((a0.2.2.1.2.1.1, a0.2.2.1.2.1.2), a0.2.2.1.2.2)), a0.2.2.2)), (((a1.1.1.1, a1.1.1.2), a1.1.2), ((a1.2.1.1, a1.2.1.2), a1.2.2)), ())).bind fun y3 =>
  let v4 := not y3.1
  some (v4, ()))
  else (some (false, ()))
theorem bounds_keeps.eval (k : Nat) (a0 : Dt68) (a1 : Dt44) : evalF bounds_keeps.spec bounds_keeps.cals T Tryz.f70 k (a0, a1, ()) = bounds_keeps.e  a0 a1 := by kernel_rfl
theorem bounds_keeps.F_eq (a0 : Dt68) (a1 : Dt44) : bounds_keeps.F (a0, a1, ()) = limF bounds_keeps.spec bounds_keeps.cals T Tryz.f70 (a0, a1, ()) := by kernel_rfl
theorem bounds_keeps.of (k : Nat) (a0 : Dt68) (a1 : Dt44) {y : Bool × Unit} (h : bounds_keeps.e  a0 a1 = some y) : bounds_keeps.F (a0, a1, ()) = some y := (bounds_keeps.F_eq a0 a1).trans (limF_of (q := bounds_keeps.spec) (C := bounds_keeps.cals) (T := T) (f := Tryz.f70) (x := (a0, a1, ())) (y := y) k ((bounds_keeps.eval k a0 a1).trans h))

def bounds_Store_Inside.spec : XSpec := ⟨some ⟨81, 0, Kt81, 0⟩, false, [(false, (.int .i64)), (true, Kt44)], false, none, [(false, .bool), (false, (.int .i64))], false, fun j => match j with  | _ => []⟩
noncomputable def bounds_Store_Inside.cals : Cals := (Cals.consX 55 false bounds_Store_wrong.sig (Cals.cons 70 bounds_keeps.sig (Cals.base tabs)))
noncomputable def bounds_Store_Inside.sig : XSig := bounds_Store_Inside.spec.sig bounds_Store_Inside.cals T Tryz.f41
noncomputable def bounds_Store_Inside.F (d : Dt81) (x : Int × Dt44 × Unit) : Option (Unit × (Bool × Int × Unit) × Dt81) := limX bounds_Store_Inside.spec bounds_Store_Inside.cals T Tryz.f41 d x
theorem bounds_Store_Inside.ck : CalsOk Tryz.prog bounds_Store_Inside.cals := (CalsOk.consX bounds_Store_wrong.cal (CalsOk.cons bounds_keeps.cal (CalsOk.base tabsOk)))
theorem bounds_Store_Inside.cal : XOk Tryz.prog tabs 41 bounds_Store_Inside.sig := xok_of tabOk bounds_Store_Inside.ck mix Tryz.func41 (by kernel_rfl) (by kernel_rfl) (by kernel_rfl) (by kernel_rfl)
noncomputable def bounds_Store_Inside.e  (G : Gh) (d : Dt81) (a0 : Int) (a1 : Dt44) : Option ((Unit × (Bool × Int × Unit) × Dt81) × Nat × List Value) :=
  (bounds_Store_wrong.F ((d.1.1, d.1.2), (d.2.1, d.2.2)) (a0, ())).bind fun y1 =>
  let v2 := (y1.2.1.1 != (0 : Int))
  bif v2 then (some (((), (false, y1.2.1.1, ()), ((y1.2.2.1.1, y1.2.2.1.2), (y1.2.2.2.1, y1.2.2.2.2))), G.b, []))
  else (bif decide (0 ≤ a0) && decide (a0 < (List.length y1.2.2.2.2 : Int)) then (let v3 := ((List.getD y1.2.2.2.2 (Int.toNat a0) zt68).1).1
  let v4 := ((((((List.getD y1.2.2.2.2 (Int.toNat a0) zt68).1).2).1).1).1).1
  let v5 := ((((((List.getD y1.2.2.2.2 (Int.toNat a0) zt68).1).2).1).1).1).2
  let v6 := (((((List.getD y1.2.2.2.2 (Int.toNat a0) zt68).1).2).1).1).2
  let v7 := ((((((List.getD y1.2.2.2.2 (Int.toNat a0) zt68).1).2).1).2).1).1
  let v8 := ((((((List.getD y1.2.2.2.2 (Int.toNat a0) zt68).1).2).1).2).1).2
  let v9 := (((((List.getD y1.2.2.2.2 (Int.toNat a0) zt68).1).2).1).2).2
  let v10 := (((List.getD y1.2.2.2.2 (Int.toNat a0) zt68).1).2).2
  let v11 := ((List.getD y1.2.2.2.2 (Int.toNat a0) zt68).2).1
  let v12 := ((((((List.getD y1.2.2.2.2 (Int.toNat a0) zt68).2).2).1).1).1).1
  let v13 := ((((((List.getD y1.2.2.2.2 (Int.toNat a0) zt68).2).2).1).1).1).2
  let v14 := (((((List.getD y1.2.2.2.2 (Int.toNat a0) zt68).2).2).1).1).2
  let v15 := ((((((List.getD y1.2.2.2.2 (Int.toNat a0) zt68).2).2).1).2).1).1
  let v16 := ((((((List.getD y1.2.2.2.2 (Int.toNat a0) zt68).2).2).1).2).1).2
  let v17 := (((((List.getD y1.2.2.2.2 (Int.toNat a0) zt68).2).2).1).2).2
  let v18 := (((List.getD y1.2.2.2.2 (Int.toNat a0) zt68).2).2).2
  (bounds_keeps.F (((v3, ((((v4, v5), v6), ((v7, v8), v9)), v10)), (v11, ((((v12, v13), v14), ((v15, v16), v17)), v18))), (((a1.1.1.1, a1.1.1.2), a1.1.2), ((a1.2.1.1, a1.2.1.2), a1.2.2)), ())).bind fun y19 =>
  some (((), (y19.1, (0 : Int), ()), ((y1.2.2.1.1, y1.2.2.1.2), (y1.2.2.2.1, y1.2.2.2.2))), G.b, []))
  else none)
theorem bounds_Store_Inside.eval (k : Nat) (G : Gh) (d : Dt81) (a0 : Int) (a1 : Dt44) : evalX bounds_Store_Inside.spec bounds_Store_Inside.cals T Tryz.f41 k G d (a0, a1, ()) = bounds_Store_Inside.e  G d a0 a1 := by kernel_rfl
theorem bounds_Store_Inside.of (d : Dt81) (a0 : Int) (a1 : Dt44) (y : (Unit × (Bool × Int × Unit) × Dt81)) (h : ∀ G : Gh, ∃ k : Nat, bounds_Store_Inside.e  G d a0 a1 = some (y, (G.b, []))) : bounds_Store_Inside.F d (a0, a1, ()) = some y := limX_of (q := bounds_Store_Inside.spec) (C := bounds_Store_Inside.cals) (T := T) (f := Tryz.f41) (d := d) (x := (a0, a1, ())) y fun G => (h G).imp fun k hk => (bounds_Store_Inside.eval k G d a0 a1).trans hk

def fulcrumref08_Keeps.spec : Spec := ⟨[(true, Kt68), (true, Kt44)], [(false, .bool)], .own, fun j => match j with  | _ => []⟩
noncomputable def fulcrumref08_Keeps.cals : Cals := (Cals.cons 69 fulcrumref05_Cmp.sig (Cals.base tabs))
noncomputable def fulcrumref08_Keeps.sig : Sig := fulcrumref08_Keeps.spec.sig fulcrumref08_Keeps.cals T Tryz.f71
noncomputable def fulcrumref08_Keeps.F (x : Dt68 × Dt44 × Unit) : Option (Bool × Unit) := limF fulcrumref08_Keeps.spec fulcrumref08_Keeps.cals T Tryz.f71 x
theorem fulcrumref08_Keeps.ck : CalsOk Tryz.prog fulcrumref08_Keeps.cals := (CalsOk.cons fulcrumref05_Cmp.cal (CalsOk.base tabsOk))
theorem fulcrumref08_Keeps.cal : CalOk Tryz.prog tabs 71 fulcrumref08_Keeps.sig := calOk_lim' tabOk fulcrumref08_Keeps.ck mix Tryz.func71 (by kernel_rfl) (by kernel_rfl) (by kernel_rfl) (by kernel_rfl)
noncomputable def fulcrumref08_Keeps.e  (a0 : Dt68) (a1 : Dt44) : Option (Bool × Unit) :=
  bif a0.1.1 then ((fulcrumref05_Cmp.F ((((a1.1.1.1, a1.1.1.2), a1.1.2), ((a1.2.1.1, a1.2.1.2), a1.2.2)), (((a0.1.2.1.1.1.1, a0.1.2.1.1.1.2), a0.1.2.1.1.2), ((a0.1.2.1.2.1.1, a0.1.2.1.2.1.2), a0.1.2.1.2.2)), ())).bind fun y1 =>
  let v2 := decide (y1.1 < (0 : Int))
  bif v2 then (some (false, ()))
  else (let v3 := not a0.2.1
  bif v3 then (some (true, ()))
  else ((fulcrumref05_Cmp.F ((((a1.1.1.1, a1.1.1.2), a1.1.2), ((a1.2.1.1, a1.2.1.2), a1.2.2)), (((a0.2.2.1.1.1.1, a0.2.2.1.1.1.2), a0.2.2.1.1.2), ((a0.2.2.1.2.1.1, a0.2.2.1.2.1.2), a0.2.2.1.2.2)), ())).bind fun y4 =>
  let v5 := decide (y4.1 ≤ (0 : Int))
  some (v5, ()))))
  else (let v6 := not a0.2.1
  bif v6 then (some (true, ()))
  else ((fulcrumref05_Cmp.F ((((a1.1.1.1, a1.1.1.2), a1.1.2), ((a1.2.1.1, a1.2.1.2), a1.2.2)), (((a0.2.2.1.1.1.1, a0.2.2.1.1.1.2), a0.2.2.1.1.2), ((a0.2.2.1.2.1.1, a0.2.2.1.2.1.2), a0.2.2.1.2.2)), ())).bind fun y7 =>
  let v8 := decide (y7.1 ≤ (0 : Int))
  some (v8, ())))
theorem fulcrumref08_Keeps.eval (k : Nat) (a0 : Dt68) (a1 : Dt44) : evalF fulcrumref08_Keeps.spec fulcrumref08_Keeps.cals T Tryz.f71 k (a0, a1, ()) = fulcrumref08_Keeps.e  a0 a1 := by kernel_rfl
theorem fulcrumref08_Keeps.F_eq (a0 : Dt68) (a1 : Dt44) : fulcrumref08_Keeps.F (a0, a1, ()) = limF fulcrumref08_Keeps.spec fulcrumref08_Keeps.cals T Tryz.f71 (a0, a1, ()) := by kernel_rfl
theorem fulcrumref08_Keeps.of (k : Nat) (a0 : Dt68) (a1 : Dt44) {y : Bool × Unit} (h : fulcrumref08_Keeps.e  a0 a1 = some y) : fulcrumref08_Keeps.F (a0, a1, ()) = some y := (fulcrumref08_Keeps.F_eq a0 a1).trans (limF_of (q := fulcrumref08_Keeps.spec) (C := fulcrumref08_Keeps.cals) (T := T) (f := Tryz.f71) (x := (a0, a1, ())) (y := y) k ((fulcrumref08_Keeps.eval k a0 a1).trans h))

def fulcrumref08_Inside.spec : Spec := ⟨[(true, Kt32), (false, (.int .i64)), (true, Kt44)], [(false, .bool), (false, (.int .i64))], .own, fun j => match j with  | _ => []⟩
noncomputable def fulcrumref08_Inside.cals : Cals := (Cals.cons 37 fulcrumref08_Is.sig (Cals.cons 71 fulcrumref08_Keeps.sig (Cals.base tabs)))
noncomputable def fulcrumref08_Inside.sig : Sig := fulcrumref08_Inside.spec.sig fulcrumref08_Inside.cals T Tryz.f42
noncomputable def fulcrumref08_Inside.F (x : Dt32 × Int × Dt44 × Unit) : Option (Bool × Int × Unit) := limF fulcrumref08_Inside.spec fulcrumref08_Inside.cals T Tryz.f42 x
theorem fulcrumref08_Inside.ck : CalsOk Tryz.prog fulcrumref08_Inside.cals := (CalsOk.cons fulcrumref08_Is.cal (CalsOk.cons fulcrumref08_Keeps.cal (CalsOk.base tabsOk)))
theorem fulcrumref08_Inside.cal : CalOk Tryz.prog tabs 42 fulcrumref08_Inside.sig := calOk_lim' tabOk fulcrumref08_Inside.ck mix Tryz.func42 (by kernel_rfl) (by kernel_rfl) (by kernel_rfl) (by kernel_rfl)
noncomputable def fulcrumref08_Inside.e  (a0 : Dt32) (a1 : Int) (a2 : Dt44) : Option (Bool × Int × Unit) :=
  (fulcrumref08_Is.F ((a0.1, (a0.2.1, a0.2.2)), a1, ())).bind fun y1 =>
  let v2 := not y1.1
  bif v2 then (some (false, (61 : Int), ()))
  else (bif decide (0 ≤ a1) && decide (a1 < (List.length a0.1 : Int)) then (let v3 := ((List.getD a0.1 (Int.toNat a1) zt68).1).1
  let v4 := ((((((List.getD a0.1 (Int.toNat a1) zt68).1).2).1).1).1).1
  let v5 := ((((((List.getD a0.1 (Int.toNat a1) zt68).1).2).1).1).1).2
  let v6 := (((((List.getD a0.1 (Int.toNat a1) zt68).1).2).1).1).2
  let v7 := ((((((List.getD a0.1 (Int.toNat a1) zt68).1).2).1).2).1).1
  let v8 := ((((((List.getD a0.1 (Int.toNat a1) zt68).1).2).1).2).1).2
  let v9 := (((((List.getD a0.1 (Int.toNat a1) zt68).1).2).1).2).2
  let v10 := (((List.getD a0.1 (Int.toNat a1) zt68).1).2).2
  let v11 := ((List.getD a0.1 (Int.toNat a1) zt68).2).1
  let v12 := ((((((List.getD a0.1 (Int.toNat a1) zt68).2).2).1).1).1).1
  let v13 := ((((((List.getD a0.1 (Int.toNat a1) zt68).2).2).1).1).1).2
  let v14 := (((((List.getD a0.1 (Int.toNat a1) zt68).2).2).1).1).2
  let v15 := ((((((List.getD a0.1 (Int.toNat a1) zt68).2).2).1).2).1).1
  let v16 := ((((((List.getD a0.1 (Int.toNat a1) zt68).2).2).1).2).1).2
  let v17 := (((((List.getD a0.1 (Int.toNat a1) zt68).2).2).1).2).2
  let v18 := (((List.getD a0.1 (Int.toNat a1) zt68).2).2).2
  (fulcrumref08_Keeps.F (((v3, ((((v4, v5), v6), ((v7, v8), v9)), v10)), (v11, ((((v12, v13), v14), ((v15, v16), v17)), v18))), (((a2.1.1.1, a2.1.1.2), a2.1.2), ((a2.2.1.1, a2.2.1.2), a2.2.2)), ())).bind fun y19 =>
  some (y19.1, (0 : Int), ()))
  else none)
theorem fulcrumref08_Inside.eval (k : Nat) (a0 : Dt32) (a1 : Int) (a2 : Dt44) : evalF fulcrumref08_Inside.spec fulcrumref08_Inside.cals T Tryz.f42 k (a0, a1, a2, ()) = fulcrumref08_Inside.e  a0 a1 a2 := by kernel_rfl
theorem fulcrumref08_Inside.F_eq (a0 : Dt32) (a1 : Int) (a2 : Dt44) : fulcrumref08_Inside.F (a0, a1, a2, ()) = limF fulcrumref08_Inside.spec fulcrumref08_Inside.cals T Tryz.f42 (a0, a1, a2, ()) := by kernel_rfl
theorem fulcrumref08_Inside.of (k : Nat) (a0 : Dt32) (a1 : Int) (a2 : Dt44) {y : Bool × Int × Unit} (h : fulcrumref08_Inside.e  a0 a1 a2 = some y) : fulcrumref08_Inside.F (a0, a1, a2, ()) = some y := (fulcrumref08_Inside.F_eq a0 a1 a2).trans (limF_of (q := fulcrumref08_Inside.spec) (C := fulcrumref08_Inside.cals) (T := T) (f := Tryz.f42) (x := (a0, a1, a2, ())) (y := y) k ((fulcrumref08_Inside.eval k a0 a1 a2).trans h))

def bounds_Store_Fits.spec : XSpec := ⟨some ⟨81, 0, Kt81, 0⟩, false, [(false, Kt45)], false, none, [(false, (.int .i64))], false, fun j => match j with | 4 => [(0, .pbox 81 [.v true, .o 70 Kt70 true, .v true, .o 68 Kt68 true]), (1, .lf (.z 44 Kt44 true)), (14, .lf (.o 68 Kt68 true)), (15, .lf (.v true)), (16, .lf (.v true))] | _ => []⟩
noncomputable def bounds_Store_Fits.cals : Cals := (Cals.consX 36 false bounds_Store_is.sig (Cals.cons 70 bounds_keeps.sig (Cals.base tabs)))
noncomputable def bounds_Store_Fits.sig : XSig := bounds_Store_Fits.spec.sig bounds_Store_Fits.cals T Tryz.f43
noncomputable def bounds_Store_Fits.F (d : Dt81) (x : Dt45 × Unit) : Option (Unit × (Int × Unit) × Dt81) := limX bounds_Store_Fits.spec bounds_Store_Fits.cals T Tryz.f43 d x
theorem bounds_Store_Fits.ck : CalsOk Tryz.prog bounds_Store_Fits.cals := (CalsOk.consX bounds_Store_is.cal (CalsOk.cons bounds_keeps.cal (CalsOk.base tabsOk)))
theorem bounds_Store_Fits.cal : XOk Tryz.prog tabs 43 bounds_Store_Fits.sig := xok_of tabOk bounds_Store_Fits.ck mix Tryz.func43 (by kernel_rfl) (by kernel_rfl) (by kernel_rfl) (by kernel_rfl)
def bounds_Store_Fits.m4 (x0_g : Nat) (x0_0 : Int) (x0_1 : Dt30) (x0_2 : Bool) (x1 : Dt45) (x14 : Dt29) (x15 : Int) (x16 : Int) : S := ⟨[(0, .pbox 0 0 x0_g), (1, .one (.lf (.val true Kt45 x1))), (14, .one (.lf (.own 0))), (15, .one (.lf (.val true (.int .i64) x15))), (16, .one (.lf (.val true (.int .i64) x16)))], ⟨[some ⟨68, Kt68, true, true, x14⟩, some ⟨70, Kt70, true, true, x0_1⟩], [some ⟨81, [.val true (.int .i64) x0_0, .own 1, .val true .bool x0_2, .own 0]⟩]⟩⟩
noncomputable def bounds_Store_Fits.b4 (f4 : Nat → Int → Dt30 → Bool → Dt45 → Dt29 → Int → Int → Option ((Unit × (Int × Unit) × Dt81) × Nat × List Value)) (x0_g : Nat) (x0_0 : Int) (x0_1 : Dt30) (x0_2 : Bool) (x1 : Dt45) (x14 : Dt29) (x15 : Int) (x16 : Int) : Option ((Unit × (Int × Unit) × Dt81) × Nat × List Value) :=
  let v1 := decide (x16 < x15)
  bif v1 then (bif decide (0 ≤ x16) && decide (x16 < (List.length x14 : Int)) then (let v2 := ((List.getD x14 (Int.toNat x16) zt68).1).1
  let v3 := ((((((List.getD x14 (Int.toNat x16) zt68).1).2).1).1).1).1
  let v4 := ((((((List.getD x14 (Int.toNat x16) zt68).1).2).1).1).1).2
  let v5 := (((((List.getD x14 (Int.toNat x16) zt68).1).2).1).1).2
  let v6 := ((((((List.getD x14 (Int.toNat x16) zt68).1).2).1).2).1).1
  let v7 := ((((((List.getD x14 (Int.toNat x16) zt68).1).2).1).2).1).2
  let v8 := (((((List.getD x14 (Int.toNat x16) zt68).1).2).1).2).2
  let v9 := (((List.getD x14 (Int.toNat x16) zt68).1).2).2
  let v10 := ((List.getD x14 (Int.toNat x16) zt68).2).1
  let v11 := ((((((List.getD x14 (Int.toNat x16) zt68).2).2).1).1).1).1
  let v12 := ((((((List.getD x14 (Int.toNat x16) zt68).2).2).1).1).1).2
  let v13 := (((((List.getD x14 (Int.toNat x16) zt68).2).2).1).1).2
  let v14 := ((((((List.getD x14 (Int.toNat x16) zt68).2).2).1).2).1).1
  let v15 := ((((((List.getD x14 (Int.toNat x16) zt68).2).2).1).2).1).2
  let v16 := (((((List.getD x14 (Int.toNat x16) zt68).2).2).1).2).2
  let v17 := (((List.getD x14 (Int.toNat x16) zt68).2).2).2
  let v18 := (List.length x1 : Int)
  let v19 := decide (x16 < v18)
  bif v19 then (bif decide (0 ≤ x16) && decide (x16 < (List.length x1 : Int)) then (let v20 := (((List.getD x1 (Int.toNat x16) zt44).1).1).1
  let v21 := (((List.getD x1 (Int.toNat x16) zt44).1).1).2
  let v22 := ((List.getD x1 (Int.toNat x16) zt44).1).2
  let v23 := (((List.getD x1 (Int.toNat x16) zt44).2).1).1
  let v24 := (((List.getD x1 (Int.toNat x16) zt44).2).1).2
  let v25 := ((List.getD x1 (Int.toNat x16) zt44).2).2
  (bounds_keeps.F (((v2, ((((v3, v4), v5), ((v6, v7), v8)), v9)), (v10, ((((v11, v12), v13), ((v14, v15), v16)), v17))), (((v20, v21), v22), ((v23, v24), v25)), ())).bind fun y26 =>
  let v27 := not y26.1
  bif v27 then (some (((), (x16, ()), ((x0_0, x0_1), (x0_2, x14))), x0_g, []))
  else (let v28 := IntKind.i64.wrap (x16 + (1 : Int))
  f4 x0_g x0_0 x0_1 x0_2 x1 x14 x15 v28))
  else none)
  else ((bounds_keeps.F (((v2, ((((v3, v4), v5), ((v6, v7), v8)), v9)), (v10, ((((v11, v12), v13), ((v14, v15), v16)), v17))), zt44, ())).bind fun y29 =>
  let v30 := not y29.1
  bif v30 then (some (((), (x16, ()), ((x0_0, x0_1), (x0_2, x14))), x0_g, []))
  else (let v31 := IntKind.i64.wrap (x16 + (1 : Int))
  f4 x0_g x0_0 x0_1 x0_2 x1 x14 x15 v31)))
  else none)
  else (some (((), ((-1 : Int), ()), ((x0_0, x0_1), (x0_2, x14))), x0_g, []))
noncomputable def bounds_Store_Fits.e (f4 : Nat → Int → Dt30 → Bool → Dt45 → Dt29 → Int → Int → Option ((Unit × (Int × Unit) × Dt81) × Nat × List Value)) (G : Gh) (d : Dt81) (a0 : Dt45) : Option ((Unit × (Int × Unit) × Dt81) × Nat × List Value) :=
  (bounds_Store_is.F ((d.1.1, d.1.2), (d.2.1, d.2.2)) ()).bind fun y1 =>
  let v2 := not y1.2.1.1
  bif v2 then (some (((), ((-1 : Int), ()), ((y1.2.2.1.1, y1.2.2.1.2), (y1.2.2.2.1, y1.2.2.2.2))), G.b, []))
  else (let v3 := (List.length y1.2.2.2.2 : Int)
  f4 G.b y1.2.2.1.1 y1.2.2.1.2 y1.2.2.2.1 a0 y1.2.2.2.2 v3 (0 : Int))
noncomputable def bounds_Store_Fits.L4 (k : Nat) (x0_g : Nat) (x0_0 : Int) (x0_1 : Dt30) (x0_2 : Bool) (x1 : Dt45) (x14 : Dt29) (x15 : Int) (x16 : Int) : Option ((Unit × (Int × Unit) × Dt81) × Nat × List Value) := heads (bounds_Store_Fits.spec.env bounds_Store_Fits.cals T Tryz.f43) (Func.pts Tryz.f43) k 4 (bounds_Store_Fits.m4 x0_g x0_0 x0_1 x0_2 x1 x14 x15 x16)
theorem bounds_Store_Fits.L4_succ (k : Nat) (x0_g : Nat) (x0_0 : Int) (x0_1 : Dt30) (x0_2 : Bool) (x1 : Dt45) (x14 : Dt29) (x15 : Int) (x16 : Int) : bounds_Store_Fits.L4 (k + 1) x0_g x0_0 x0_1 x0_2 x1 x14 x15 x16 = bounds_Store_Fits.b4 (bounds_Store_Fits.L4 k) x0_g x0_0 x0_1 x0_2 x1 x14 x15 x16 := by kernel_rfl
theorem bounds_Store_Fits.eval (k : Nat) (G : Gh) (d : Dt81) (a0 : Dt45) : evalX bounds_Store_Fits.spec bounds_Store_Fits.cals T Tryz.f43 k G d (a0, ()) = bounds_Store_Fits.e (bounds_Store_Fits.L4 k) G d a0 := by kernel_rfl
theorem bounds_Store_Fits.of (d : Dt81) (a0 : Dt45) (y : (Unit × (Int × Unit) × Dt81)) (h : ∀ G : Gh, ∃ k : Nat, bounds_Store_Fits.e (bounds_Store_Fits.L4 k) G d a0 = some (y, (G.b, []))) : bounds_Store_Fits.F d (a0, ()) = some y := limX_of (q := bounds_Store_Fits.spec) (C := bounds_Store_Fits.cals) (T := T) (f := Tryz.f43) (d := d) (x := (a0, ())) y fun G => (h G).imp fun k hk => (bounds_Store_Fits.eval k G d a0).trans hk

def fulcrumref08_Fits.spec : Spec := ⟨[(true, Kt32), (false, Kt45)], [(false, (.int .i64))], .own, fun j => match j with | 2 => [(1, .lf (.z 44 Kt44 false)), (2, .box 32 [.z 68 Kt68 false, .v false, .z 70 Kt70 false]), (5, .lf (.v true))] | _ => []⟩
noncomputable def fulcrumref08_Fits.cals : Cals := (Cals.cons 71 fulcrumref08_Keeps.sig (Cals.base tabs))
noncomputable def fulcrumref08_Fits.sig : Sig := fulcrumref08_Fits.spec.sig fulcrumref08_Fits.cals T Tryz.f44
noncomputable def fulcrumref08_Fits.F (x : Dt32 × Dt45 × Unit) : Option (Int × Unit) := limF fulcrumref08_Fits.spec fulcrumref08_Fits.cals T Tryz.f44 x
theorem fulcrumref08_Fits.ck : CalsOk Tryz.prog fulcrumref08_Fits.cals := (CalsOk.cons fulcrumref08_Keeps.cal (CalsOk.base tabsOk))
theorem fulcrumref08_Fits.cal : CalOk Tryz.prog tabs 44 fulcrumref08_Fits.sig := calOk_lim' tabOk fulcrumref08_Fits.ck mix Tryz.func44 (by kernel_rfl) (by kernel_rfl) (by kernel_rfl) (by kernel_rfl)
def fulcrumref08_Fits.m2 (x1 : Dt45) (x2_0 : Dt29) (x2_1 : Int) (x2_2 : Dt30) (x5 : Int) : S := ⟨[(1, .one (.lf (.val false Kt45 x1))), (2, .box 0 0), (5, .one (.lf (.val true (.int .i64) x5)))], ⟨[], [some ⟨32, [.val false Kt29 x2_0, .val false (.int .i64) x2_1, .val false Kt30 x2_2]⟩]⟩⟩
noncomputable def fulcrumref08_Fits.b2 (f2 : Dt45 → Dt29 → Int → Dt30 → Int → Option (Int × Unit)) (x1 : Dt45) (x2_0 : Dt29) (x2_1 : Int) (x2_2 : Dt30) (x5 : Int) : Option (Int × Unit) :=
  let v1 := (List.length x2_0 : Int)
  let v2 := decide (x5 < v1)
  bif v2 then (let v3 := (List.length x1 : Int)
  let v4 := decide (x5 < v3)
  bif v4 then (bif decide (0 ≤ x5) && decide (x5 < (List.length x1 : Int)) then (let v5 := (((List.getD x1 (Int.toNat x5) zt44).1).1).1
  let v6 := (((List.getD x1 (Int.toNat x5) zt44).1).1).2
  let v7 := ((List.getD x1 (Int.toNat x5) zt44).1).2
  let v8 := (((List.getD x1 (Int.toNat x5) zt44).2).1).1
  let v9 := (((List.getD x1 (Int.toNat x5) zt44).2).1).2
  let v10 := ((List.getD x1 (Int.toNat x5) zt44).2).2
  bif decide (0 ≤ x5) && decide (x5 < (List.length x2_0 : Int)) then (let v11 := ((List.getD x2_0 (Int.toNat x5) zt68).1).1
  let v12 := ((((((List.getD x2_0 (Int.toNat x5) zt68).1).2).1).1).1).1
  let v13 := ((((((List.getD x2_0 (Int.toNat x5) zt68).1).2).1).1).1).2
  let v14 := (((((List.getD x2_0 (Int.toNat x5) zt68).1).2).1).1).2
  let v15 := ((((((List.getD x2_0 (Int.toNat x5) zt68).1).2).1).2).1).1
  let v16 := ((((((List.getD x2_0 (Int.toNat x5) zt68).1).2).1).2).1).2
  let v17 := (((((List.getD x2_0 (Int.toNat x5) zt68).1).2).1).2).2
  let v18 := (((List.getD x2_0 (Int.toNat x5) zt68).1).2).2
  let v19 := ((List.getD x2_0 (Int.toNat x5) zt68).2).1
  let v20 := ((((((List.getD x2_0 (Int.toNat x5) zt68).2).2).1).1).1).1
  let v21 := ((((((List.getD x2_0 (Int.toNat x5) zt68).2).2).1).1).1).2
  let v22 := (((((List.getD x2_0 (Int.toNat x5) zt68).2).2).1).1).2
  let v23 := ((((((List.getD x2_0 (Int.toNat x5) zt68).2).2).1).2).1).1
  let v24 := ((((((List.getD x2_0 (Int.toNat x5) zt68).2).2).1).2).1).2
  let v25 := (((((List.getD x2_0 (Int.toNat x5) zt68).2).2).1).2).2
  let v26 := (((List.getD x2_0 (Int.toNat x5) zt68).2).2).2
  (fulcrumref08_Keeps.F (((v11, ((((v12, v13), v14), ((v15, v16), v17)), v18)), (v19, ((((v20, v21), v22), ((v23, v24), v25)), v26))), (((v5, v6), v7), ((v8, v9), v10)), ())).bind fun y27 =>
  let v28 := not y27.1
  bif v28 then (some (x5, ()))
  else (let v29 := IntKind.i64.wrap (x5 + (1 : Int))
  f2 x1 x2_0 x2_1 x2_2 v29))
  else none)
  else none)
  else (bif decide (0 ≤ x5) && decide (x5 < (List.length x2_0 : Int)) then (let v30 := ((List.getD x2_0 (Int.toNat x5) zt68).1).1
  let v31 := ((((((List.getD x2_0 (Int.toNat x5) zt68).1).2).1).1).1).1
  let v32 := ((((((List.getD x2_0 (Int.toNat x5) zt68).1).2).1).1).1).2
  let v33 := (((((List.getD x2_0 (Int.toNat x5) zt68).1).2).1).1).2
  let v34 := ((((((List.getD x2_0 (Int.toNat x5) zt68).1).2).1).2).1).1
  let v35 := ((((((List.getD x2_0 (Int.toNat x5) zt68).1).2).1).2).1).2
  let v36 := (((((List.getD x2_0 (Int.toNat x5) zt68).1).2).1).2).2
  let v37 := (((List.getD x2_0 (Int.toNat x5) zt68).1).2).2
  let v38 := ((List.getD x2_0 (Int.toNat x5) zt68).2).1
  let v39 := ((((((List.getD x2_0 (Int.toNat x5) zt68).2).2).1).1).1).1
  let v40 := ((((((List.getD x2_0 (Int.toNat x5) zt68).2).2).1).1).1).2
  let v41 := (((((List.getD x2_0 (Int.toNat x5) zt68).2).2).1).1).2
  let v42 := ((((((List.getD x2_0 (Int.toNat x5) zt68).2).2).1).2).1).1
  let v43 := ((((((List.getD x2_0 (Int.toNat x5) zt68).2).2).1).2).1).2
  let v44 := (((((List.getD x2_0 (Int.toNat x5) zt68).2).2).1).2).2
  let v45 := (((List.getD x2_0 (Int.toNat x5) zt68).2).2).2
  (fulcrumref08_Keeps.F (((v30, ((((v31, v32), v33), ((v34, v35), v36)), v37)), (v38, ((((v39, v40), v41), ((v42, v43), v44)), v45))), zt44, ())).bind fun y46 =>
  let v47 := not y46.1
  bif v47 then (some (x5, ()))
  else (let v48 := IntKind.i64.wrap (x5 + (1 : Int))
  f2 x1 x2_0 x2_1 x2_2 v48))
  else none))
  else (some ((-1 : Int), ()))
noncomputable def fulcrumref08_Fits.e (f2 : Dt45 → Dt29 → Int → Dt30 → Int → Option (Int × Unit)) (a0 : Dt32) (a1 : Dt45) : Option (Int × Unit) :=
  f2 a1 a0.1 a0.2.1 a0.2.2 (0 : Int)
noncomputable def fulcrumref08_Fits.L2 (k : Nat) (x1 : Dt45) (x2_0 : Dt29) (x2_1 : Int) (x2_2 : Dt30) (x5 : Int) : Option (Int × Unit) := heads (fulcrumref08_Fits.spec.env fulcrumref08_Fits.cals T Tryz.f44) (Func.pts Tryz.f44) k 2 (fulcrumref08_Fits.m2 x1 x2_0 x2_1 x2_2 x5)
theorem fulcrumref08_Fits.L2_succ (k : Nat) (x1 : Dt45) (x2_0 : Dt29) (x2_1 : Int) (x2_2 : Dt30) (x5 : Int) : fulcrumref08_Fits.L2 (k + 1) x1 x2_0 x2_1 x2_2 x5 = fulcrumref08_Fits.b2 (fulcrumref08_Fits.L2 k) x1 x2_0 x2_1 x2_2 x5 := by kernel_rfl
theorem fulcrumref08_Fits.eval (k : Nat) (a0 : Dt32) (a1 : Dt45) : evalF fulcrumref08_Fits.spec fulcrumref08_Fits.cals T Tryz.f44 k (a0, a1, ()) = fulcrumref08_Fits.e (fulcrumref08_Fits.L2 k) a0 a1 := by kernel_rfl
theorem fulcrumref08_Fits.F_eq (a0 : Dt32) (a1 : Dt45) : fulcrumref08_Fits.F (a0, a1, ()) = limF fulcrumref08_Fits.spec fulcrumref08_Fits.cals T Tryz.f44 (a0, a1, ()) := by kernel_rfl
theorem fulcrumref08_Fits.of (k : Nat) (a0 : Dt32) (a1 : Dt45) {y : Int × Unit} (h : fulcrumref08_Fits.e (fulcrumref08_Fits.L2 k) a0 a1 = some y) : fulcrumref08_Fits.F (a0, a1, ()) = some y := (fulcrumref08_Fits.F_eq a0 a1).trans (limF_of (q := fulcrumref08_Fits.spec) (C := fulcrumref08_Fits.cals) (T := T) (f := Tryz.f44) (x := (a0, a1, ())) (y := y) k ((fulcrumref08_Fits.eval k a0 a1).trans h))

def fulcrumlaw08_look.spec : XSpec := ⟨some ⟨81, 0, Kt81, 0⟩, false, [(true, Kt32), (true, Kt47)], false, none, [(false, .bool)], false, fun j => match j with  | _ => []⟩
noncomputable def fulcrumlaw08_look.cals : Cals := (Cals.consX 22 false bounds_Store_Limit.sig (Cals.consX 39 false bounds_Store_Fixed.sig (Cals.consX 41 false bounds_Store_Inside.sig (Cals.consX 43 false bounds_Store_Fits.sig (Cals.consX 14 false bounds_Store_State.sig (Cals.cons 37 fulcrumref08_Is.sig (Cals.cons 38 fulcrumlaw08_sameLimit.sig (Cals.cons 40 fulcrumref08_Fixed.sig (Cals.cons 42 fulcrumref08_Inside.sig (Cals.cons 44 fulcrumref08_Fits.sig (Cals.cons 13 fulcrumlaw08_sameState.sig (Cals.base tabs))))))))))))
noncomputable def fulcrumlaw08_look.sig : XSig := fulcrumlaw08_look.spec.sig fulcrumlaw08_look.cals T Tryz.f12
noncomputable def fulcrumlaw08_look.F (d : Dt81) (x : Dt32 × Dt47 × Unit) : Option (Unit × (Bool × Unit) × Dt81) := limX fulcrumlaw08_look.spec fulcrumlaw08_look.cals T Tryz.f12 d x
theorem fulcrumlaw08_look.ck : CalsOk Tryz.prog fulcrumlaw08_look.cals := (CalsOk.consX bounds_Store_Limit.cal (CalsOk.consX bounds_Store_Fixed.cal (CalsOk.consX bounds_Store_Inside.cal (CalsOk.consX bounds_Store_Fits.cal (CalsOk.consX bounds_Store_State.cal (CalsOk.cons fulcrumref08_Is.cal (CalsOk.cons fulcrumlaw08_sameLimit.cal (CalsOk.cons fulcrumref08_Fixed.cal (CalsOk.cons fulcrumref08_Inside.cal (CalsOk.cons fulcrumref08_Fits.cal (CalsOk.cons fulcrumlaw08_sameState.cal (CalsOk.base tabsOk))))))))))))
theorem fulcrumlaw08_look.cal : XOk Tryz.prog tabs 12 fulcrumlaw08_look.sig := xok_of tabOk fulcrumlaw08_look.ck mix Tryz.func12 (by kernel_rfl) (by kernel_rfl) (by kernel_rfl) (by kernel_rfl)
noncomputable def fulcrumlaw08_look.e  (G : Gh) (d : Dt81) (a0 : Dt32) (a1 : Dt47) : Option ((Unit × (Bool × Unit) × Dt81) × Nat × List Value) :=
  let v1 := (a1.1 == (5 : Int))
  bif v1 then ((bounds_Store_Limit.F ((d.1.1, d.1.2), (d.2.1, d.2.2)) (a1.2.1, ())).bind fun y2 =>
  (fulcrumref08_Is.F ((a0.1, (a0.2.1, a0.2.2)), a1.2.1, ())).bind fun y3 =>
  let v4 := not y3.1
  bif v4 then (let v5 := (y2.2.1.2.1 == (61 : Int))
  bif v5 then ((fulcrumlaw08_sameLimit.F (((y2.2.1.1.1.1, ((((y2.2.1.1.1.2.1.1.1.1, y2.2.1.1.1.2.1.1.1.2), y2.2.1.1.1.2.1.1.2), ((y2.2.1.1.1.2.1.2.1.1, y2.2.1.1.1.2.1.2.1.2), y2.2.1.1.1.2.1.2.2)), y2.2.1.1.1.2.2)), (y2.2.1.1.2.1, ((((y2.2.1.1.2.2.1.1.1.1, y2.2.1.1.2.2.1.1.1.2), y2.2.1.1.2.2.1.1.2), ((y2.2.1.1.2.2.1.2.1.1, y2.2.1.1.2.2.1.2.1.2), y2.2.1.1.2.2.1.2.2)), y2.2.1.1.2.2.2))), zt68, ())).bind fun y6 =>
  some (((), (y6.1, ()), ((y2.2.2.1.1, y2.2.2.1.2), (y2.2.2.2.1, y2.2.2.2.2))), G.b, []))
  else (some (((), (false, ()), ((y2.2.2.1.1, y2.2.2.1.2), (y2.2.2.2.1, y2.2.2.2.2))), G.b, [])))
  else (let v7 := (y2.2.1.2.1 == (0 : Int))
  bif v7 then (bif decide (0 ≤ a1.2.1) && decide (a1.2.1 < (List.length a0.1 : Int)) then (let v8 := ((List.getD a0.1 (Int.toNat a1.2.1) zt68).1).1
  let v9 := ((((((List.getD a0.1 (Int.toNat a1.2.1) zt68).1).2).1).1).1).1
  let v10 := ((((((List.getD a0.1 (Int.toNat a1.2.1) zt68).1).2).1).1).1).2
  let v11 := (((((List.getD a0.1 (Int.toNat a1.2.1) zt68).1).2).1).1).2
  let v12 := ((((((List.getD a0.1 (Int.toNat a1.2.1) zt68).1).2).1).2).1).1
  let v13 := ((((((List.getD a0.1 (Int.toNat a1.2.1) zt68).1).2).1).2).1).2
  let v14 := (((((List.getD a0.1 (Int.toNat a1.2.1) zt68).1).2).1).2).2
  let v15 := (((List.getD a0.1 (Int.toNat a1.2.1) zt68).1).2).2
  let v16 := ((List.getD a0.1 (Int.toNat a1.2.1) zt68).2).1
  let v17 := ((((((List.getD a0.1 (Int.toNat a1.2.1) zt68).2).2).1).1).1).1
  let v18 := ((((((List.getD a0.1 (Int.toNat a1.2.1) zt68).2).2).1).1).1).2
  let v19 := (((((List.getD a0.1 (Int.toNat a1.2.1) zt68).2).2).1).1).2
  let v20 := ((((((List.getD a0.1 (Int.toNat a1.2.1) zt68).2).2).1).2).1).1
  let v21 := ((((((List.getD a0.1 (Int.toNat a1.2.1) zt68).2).2).1).2).1).2
  let v22 := (((((List.getD a0.1 (Int.toNat a1.2.1) zt68).2).2).1).2).2
  let v23 := (((List.getD a0.1 (Int.toNat a1.2.1) zt68).2).2).2
  (fulcrumlaw08_sameLimit.F (((y2.2.1.1.1.1, ((((y2.2.1.1.1.2.1.1.1.1, y2.2.1.1.1.2.1.1.1.2), y2.2.1.1.1.2.1.1.2), ((y2.2.1.1.1.2.1.2.1.1, y2.2.1.1.1.2.1.2.1.2), y2.2.1.1.1.2.1.2.2)), y2.2.1.1.1.2.2)), (y2.2.1.1.2.1, ((((y2.2.1.1.2.2.1.1.1.1, y2.2.1.1.2.2.1.1.1.2), y2.2.1.1.2.2.1.1.2), ((y2.2.1.1.2.2.1.2.1.1, y2.2.1.1.2.2.1.2.1.2), y2.2.1.1.2.2.1.2.2)), y2.2.1.1.2.2.2))), ((v8, ((((v9, v10), v11), ((v12, v13), v14)), v15)), (v16, ((((v17, v18), v19), ((v20, v21), v22)), v23))), ())).bind fun y24 =>
  some (((), (y24.1, ()), ((y2.2.2.1.1, y2.2.2.1.2), (y2.2.2.2.1, y2.2.2.2.2))), G.b, []))
  else none)
  else (some (((), (false, ()), ((y2.2.2.1.1, y2.2.2.1.2), (y2.2.2.2.1, y2.2.2.2.2))), G.b, []))))
  else (let v25 := (a1.1 == (6 : Int))
  bif v25 then ((bounds_Store_Fixed.F ((d.1.1, d.1.2), (d.2.1, d.2.2)) (a1.2.1, ())).bind fun y26 =>
  (fulcrumref08_Fixed.F ((a0.1, (a0.2.1, a0.2.2)), a1.2.1, ())).bind fun y27 =>
  let v28 := (y26.2.1.1 == y27.1)
  bif v28 then (let v29 := (y26.2.1.2.1 == y27.2.1)
  some (((), (v29, ()), ((y26.2.2.1.1, y26.2.2.1.2), (y26.2.2.2.1, y26.2.2.2.2))), G.b, []))
  else (some (((), (false, ()), ((y26.2.2.1.1, y26.2.2.1.2), (y26.2.2.2.1, y26.2.2.2.2))), G.b, [])))
  else (let v30 := (a1.1 == (7 : Int))
  bif v30 then ((bounds_Store_Inside.F ((d.1.1, d.1.2), (d.2.1, d.2.2)) (a1.2.1, (((a1.2.2.1.1.1.1, a1.2.2.1.1.1.2), a1.2.2.1.1.2), ((a1.2.2.1.2.1.1, a1.2.2.1.2.1.2), a1.2.2.1.2.2)), ())).bind fun y31 =>
  (fulcrumref08_Inside.F ((a0.1, (a0.2.1, a0.2.2)), a1.2.1, (((a1.2.2.1.1.1.1, a1.2.2.1.1.1.2), a1.2.2.1.1.2), ((a1.2.2.1.2.1.1, a1.2.2.1.2.1.2), a1.2.2.1.2.2)), ())).bind fun y32 =>
  let v33 := (y31.2.1.1 == y32.1)
  bif v33 then (let v34 := (y31.2.1.2.1 == y32.2.1)
  some (((), (v34, ()), ((y31.2.2.1.1, y31.2.2.1.2), (y31.2.2.2.1, y31.2.2.2.2))), G.b, []))
  else (some (((), (false, ()), ((y31.2.2.1.1, y31.2.2.1.2), (y31.2.2.2.1, y31.2.2.2.2))), G.b, [])))
  else (let v35 := (a1.1 == (8 : Int))
  bif v35 then ((bounds_Store_Fits.F ((d.1.1, d.1.2), (d.2.1, d.2.2)) (a1.2.2.2.2, ())).bind fun y36 =>
  (fulcrumref08_Fits.F ((a0.1, (a0.2.1, a0.2.2)), a1.2.2.2.2, ())).bind fun y37 =>
  let v38 := (y36.2.1.1 == y37.1)
  some (((), (v38, ()), ((y36.2.2.1.1, y36.2.2.1.2), (y36.2.2.2.1, y36.2.2.2.2))), G.b, []))
  else (let v39 := (a1.1 == (9 : Int))
  bif v39 then ((bounds_Store_State.F ((d.1.1, d.1.2), (d.2.1, d.2.2)) ()).bind fun y40 =>
  (fulcrumlaw08_sameState.F ((y40.2.1.1.1, (y40.2.1.1.2.1, y40.2.1.1.2.2)), (a0.1, (a0.2.1, a0.2.2)), ())).bind fun y41 =>
  some (((), (y41.1, ()), ((y40.2.2.1.1, y40.2.2.1.2), (y40.2.2.2.1, y40.2.2.2.2))), G.b, []))
  else (some (((), (true, ()), ((d.1.1, d.1.2), (d.2.1, d.2.2))), G.b, []))))))
theorem fulcrumlaw08_look.eval (k : Nat) (G : Gh) (d : Dt81) (a0 : Dt32) (a1 : Dt47) : evalX fulcrumlaw08_look.spec fulcrumlaw08_look.cals T Tryz.f12 k G d (a0, a1, ()) = fulcrumlaw08_look.e  G d a0 a1 := by kernel_rfl
theorem fulcrumlaw08_look.of (d : Dt81) (a0 : Dt32) (a1 : Dt47) (y : (Unit × (Bool × Unit) × Dt81)) (h : ∀ G : Gh, ∃ k : Nat, fulcrumlaw08_look.e  G d a0 a1 = some (y, (G.b, []))) : fulcrumlaw08_look.F d (a0, a1, ()) = some y := limX_of (q := fulcrumlaw08_look.spec) (C := fulcrumlaw08_look.cals) (T := T) (f := Tryz.f12) (d := d) (x := (a0, a1, ())) y fun G => (h G).imp fun k hk => (fulcrumlaw08_look.eval k G d a0 a1).trans hk

def fulcrumlaw08_BoundsPlays.spec : Spec := ⟨[(true, Kt24)], [(false, .bool)], .shared, fun j => match j with | 8 => [(1, .box 24 [.v true, .z 47 Kt47 true]), (3, .box 81 [.v true, .o 70 Kt70 true, .v true, .o 68 Kt68 true]), (5, .box 32 [.z 68 Kt68 true, .v true, .z 70 Kt70 true]), (7, .lf (.v true))] | _ => []⟩
noncomputable def fulcrumlaw08_BoundsPlays.cals : Cals := (Cals.consX 7 false bounds_New.sig (Cals.consX 9 false fulcrumlaw08_move.sig (Cals.consX 10 false bounds_Store_Vars.sig (Cals.consX 11 false bounds_Store_Level.sig (Cals.consX 12 false fulcrumlaw08_look.sig (Cals.consX 14 false bounds_Store_State.sig (Cals.cons 8 fulcrumref08_New.sig (Cals.cons 13 fulcrumlaw08_sameState.sig (Cals.base tabs)))))))))
noncomputable def fulcrumlaw08_BoundsPlays.sig : Sig := fulcrumlaw08_BoundsPlays.spec.sig fulcrumlaw08_BoundsPlays.cals T Tryz.f3
noncomputable def fulcrumlaw08_BoundsPlays.F (x : Dt24 × Unit) : Option (Bool × Unit) := limF fulcrumlaw08_BoundsPlays.spec fulcrumlaw08_BoundsPlays.cals T Tryz.f3 x
theorem fulcrumlaw08_BoundsPlays.ck : CalsOk Tryz.prog fulcrumlaw08_BoundsPlays.cals := (CalsOk.consX bounds_New.cal (CalsOk.consX fulcrumlaw08_move.cal (CalsOk.consX bounds_Store_Vars.cal (CalsOk.consX bounds_Store_Level.cal (CalsOk.consX fulcrumlaw08_look.cal (CalsOk.consX bounds_Store_State.cal (CalsOk.cons fulcrumref08_New.cal (CalsOk.cons fulcrumlaw08_sameState.cal (CalsOk.base tabsOk)))))))))
theorem fulcrumlaw08_BoundsPlays.cal : CalOk Tryz.prog tabs 3 fulcrumlaw08_BoundsPlays.sig := calOk_lim' tabOk fulcrumlaw08_BoundsPlays.ck mix Tryz.func3 (by kernel_rfl) (by kernel_rfl) (by kernel_rfl) (by kernel_rfl)
def fulcrumlaw08_BoundsPlays.m8 (x1_0 : Int) (x1_1 : Dt22) (x3_0 : Int) (x3_1 : Dt30) (x3_2 : Bool) (x3_3 : Dt29) (x5_0 : Dt29) (x5_1 : Int) (x5_2 : Dt30) (x7 : Int) : S := ⟨[(1, .box 0 0), (3, .box 1 0), (5, .box 2 0), (7, .one (.lf (.val true (.int .i64) x7)))], ⟨[some ⟨70, Kt70, true, true, x3_1⟩, some ⟨68, Kt68, true, true, x3_3⟩], [some ⟨24, [.val true (.int .i64) x1_0, .val true Kt22 x1_1]⟩, some ⟨81, [.val true (.int .i64) x3_0, .own 0, .val true .bool x3_2, .own 1]⟩, some ⟨32, [.val true Kt29 x5_0, .val true (.int .i64) x5_1, .val true Kt30 x5_2]⟩]⟩⟩
noncomputable def fulcrumlaw08_BoundsPlays.b8 (f8 : Int → Dt22 → Int → Dt30 → Bool → Dt29 → Dt29 → Int → Dt30 → Int → Option (Bool × Unit)) (x1_0 : Int) (x1_1 : Dt22) (x3_0 : Int) (x3_1 : Dt30) (x3_2 : Bool) (x3_3 : Dt29) (x5_0 : Dt29) (x5_1 : Int) (x5_2 : Dt30) (x7 : Int) : Option (Bool × Unit) :=
  let v1 := (List.length x1_1 : Int)
  let v2 := decide (x7 < v1)
  bif v2 then (bif decide (0 ≤ x7) && decide (x7 < (List.length x1_1 : Int)) then (let v3 := (List.getD x1_1 (Int.toNat x7) zt47).1
  let v4 := ((List.getD x1_1 (Int.toNat x7) zt47).2).1
  let v5 := ((((((List.getD x1_1 (Int.toNat x7) zt47).2).2).1).1).1).1
  let v6 := ((((((List.getD x1_1 (Int.toNat x7) zt47).2).2).1).1).1).2
  let v7 := (((((List.getD x1_1 (Int.toNat x7) zt47).2).2).1).1).2
  let v8 := ((((((List.getD x1_1 (Int.toNat x7) zt47).2).2).1).2).1).1
  let v9 := ((((((List.getD x1_1 (Int.toNat x7) zt47).2).2).1).2).1).2
  let v10 := (((((List.getD x1_1 (Int.toNat x7) zt47).2).2).1).2).2
  let v11 := ((((List.getD x1_1 (Int.toNat x7) zt47).2).2).2).1
  let v12 := ((((List.getD x1_1 (Int.toNat x7) zt47).2).2).2).2
  (fulcrumlaw08_move.F ((x3_0, x3_1), (x3_2, x3_3)) ((x5_0, (x5_1, x5_2)), (v3, (v4, ((((v5, v6), v7), ((v8, v9), v10)), (v11, v12)))), ())).bind fun y13 =>
  let v14 := not y13.2.1.2.1
  bif v14 then (some (false, ()))
  else ((bounds_Store_Vars.F ((y13.2.2.1.1, y13.2.2.1.2), (y13.2.2.2.1, y13.2.2.2.2)) ()).bind fun y15 =>
  let v16 := (List.length y13.2.1.1.1 : Int)
  let v17 := (y15.2.1.1 != v16)
  bif v17 then (some (false, ()))
  else ((bounds_Store_Level.F ((y15.2.2.1.1, y15.2.2.1.2), (y15.2.2.2.1, y15.2.2.2.2)) ()).bind fun y18 =>
  let v19 := (y18.2.1.1 != y13.2.1.1.2.1)
  bif v19 then (some (false, ()))
  else (bif decide (0 ≤ x7) && decide (x7 < (List.length x1_1 : Int)) then (let v20 := (List.getD x1_1 (Int.toNat x7) zt47).1
  let v21 := ((List.getD x1_1 (Int.toNat x7) zt47).2).1
  let v22 := ((((((List.getD x1_1 (Int.toNat x7) zt47).2).2).1).1).1).1
  let v23 := ((((((List.getD x1_1 (Int.toNat x7) zt47).2).2).1).1).1).2
  let v24 := (((((List.getD x1_1 (Int.toNat x7) zt47).2).2).1).1).2
  let v25 := ((((((List.getD x1_1 (Int.toNat x7) zt47).2).2).1).2).1).1
  let v26 := ((((((List.getD x1_1 (Int.toNat x7) zt47).2).2).1).2).1).2
  let v27 := (((((List.getD x1_1 (Int.toNat x7) zt47).2).2).1).2).2
  let v28 := ((((List.getD x1_1 (Int.toNat x7) zt47).2).2).2).1
  let v29 := ((((List.getD x1_1 (Int.toNat x7) zt47).2).2).2).2
  (fulcrumlaw08_look.F ((y18.2.2.1.1, y18.2.2.1.2), (y18.2.2.2.1, y18.2.2.2.2)) ((y13.2.1.1.1, (y13.2.1.1.2.1, y13.2.1.1.2.2)), (v20, (v21, ((((v22, v23), v24), ((v25, v26), v27)), (v28, v29)))), ())).bind fun y30 =>
  let v31 := not y30.2.1.1
  bif v31 then (some (false, ()))
  else (bif decide ((4 : Int) = 0) then none
  else (let v32 := Int.tmod x7 (4 : Int)
  let v33 := (v32 == (3 : Int))
  bif v33 then ((bounds_Store_State.F ((y30.2.2.1.1, y30.2.2.1.2), (y30.2.2.2.1, y30.2.2.2.2)) ()).bind fun y34 =>
  (fulcrumlaw08_sameState.F ((y34.2.1.1.1, (y34.2.1.1.2.1, y34.2.1.1.2.2)), (y13.2.1.1.1, (y13.2.1.1.2.1, y13.2.1.1.2.2)), ())).bind fun y35 =>
  let v36 := not y35.1
  bif v36 then (some (false, ()))
  else (let v37 := IntKind.i64.wrap (x7 + (1 : Int))
  f8 x1_0 x1_1 y34.2.2.1.1 y34.2.2.1.2 y34.2.2.2.1 y34.2.2.2.2 y13.2.1.1.1 y13.2.1.1.2.1 y13.2.1.1.2.2 v37))
  else (let v38 := IntKind.i64.wrap (x7 + (1 : Int))
  f8 x1_0 x1_1 y30.2.2.1.1 y30.2.2.1.2 y30.2.2.2.1 y30.2.2.2.2 y13.2.1.1.1 y13.2.1.1.2.1 y13.2.1.1.2.2 v38))))
  else none))))
  else none)
  else ((bounds_Store_State.F ((x3_0, x3_1), (x3_2, x3_3)) ()).bind fun y39 =>
  (fulcrumlaw08_sameState.F ((y39.2.1.1.1, (y39.2.1.1.2.1, y39.2.1.1.2.2)), (x5_0, (x5_1, x5_2)), ())).bind fun y40 =>
  some (y40.1, ()))
noncomputable def fulcrumlaw08_BoundsPlays.e (f8 : Int → Dt22 → Int → Dt30 → Bool → Dt29 → Dt29 → Int → Dt30 → Int → Option (Bool × Unit)) (a0 : Dt24) : Option (Bool × Unit) :=
  (bounds_New.F () (a0.1, ())).bind fun y1 =>
  match y1.1 with
  | none => ((fulcrumref08_New.F (a0.1, ())).bind fun y3 =>
  let v4 := (y1.2.1.1 != y3.2.1)
  bif v4 then (some (false, ()))
  else (let v5 := (y1.2.1.1 != (0 : Int))
  bif v5 then (some (true, ()))
  else (none)))
  | some z2 => ((fulcrumref08_New.F (a0.1, ())).bind fun y6 =>
  let v7 := (y1.2.1.1 != y6.2.1)
  bif v7 then (some (false, ()))
  else (let v8 := (y1.2.1.1 != (0 : Int))
  bif v8 then (some (false, ()))
  else (f8 a0.1 a0.2 z2.1.1 z2.1.2 z2.2.1 z2.2.2 y6.1.1 y6.1.2.1 y6.1.2.2 (0 : Int))))
noncomputable def fulcrumlaw08_BoundsPlays.L8 (k : Nat) (x1_0 : Int) (x1_1 : Dt22) (x3_0 : Int) (x3_1 : Dt30) (x3_2 : Bool) (x3_3 : Dt29) (x5_0 : Dt29) (x5_1 : Int) (x5_2 : Dt30) (x7 : Int) : Option (Bool × Unit) := heads (fulcrumlaw08_BoundsPlays.spec.env fulcrumlaw08_BoundsPlays.cals T Tryz.f3) (Func.pts Tryz.f3) k 8 (fulcrumlaw08_BoundsPlays.m8 x1_0 x1_1 x3_0 x3_1 x3_2 x3_3 x5_0 x5_1 x5_2 x7)
theorem fulcrumlaw08_BoundsPlays.L8_succ (k : Nat) (x1_0 : Int) (x1_1 : Dt22) (x3_0 : Int) (x3_1 : Dt30) (x3_2 : Bool) (x3_3 : Dt29) (x5_0 : Dt29) (x5_1 : Int) (x5_2 : Dt30) (x7 : Int) : fulcrumlaw08_BoundsPlays.L8 (k + 1) x1_0 x1_1 x3_0 x3_1 x3_2 x3_3 x5_0 x5_1 x5_2 x7 = fulcrumlaw08_BoundsPlays.b8 (fulcrumlaw08_BoundsPlays.L8 k) x1_0 x1_1 x3_0 x3_1 x3_2 x3_3 x5_0 x5_1 x5_2 x7 := by kernel_rfl
theorem fulcrumlaw08_BoundsPlays.eval (k : Nat) (a0 : Dt24) : evalF fulcrumlaw08_BoundsPlays.spec fulcrumlaw08_BoundsPlays.cals T Tryz.f3 k (a0, ()) = fulcrumlaw08_BoundsPlays.e (fulcrumlaw08_BoundsPlays.L8 k) a0 := by kernel_rfl
theorem fulcrumlaw08_BoundsPlays.F_eq (a0 : Dt24) : fulcrumlaw08_BoundsPlays.F (a0, ()) = limF fulcrumlaw08_BoundsPlays.spec fulcrumlaw08_BoundsPlays.cals T Tryz.f3 (a0, ()) := by kernel_rfl
theorem fulcrumlaw08_BoundsPlays.of (k : Nat) (a0 : Dt24) {y : Bool × Unit} (h : fulcrumlaw08_BoundsPlays.e (fulcrumlaw08_BoundsPlays.L8 k) a0 = some y) : fulcrumlaw08_BoundsPlays.F (a0, ()) = some y := (fulcrumlaw08_BoundsPlays.F_eq a0).trans (limF_of (q := fulcrumlaw08_BoundsPlays.spec) (C := fulcrumlaw08_BoundsPlays.cals) (T := T) (f := Tryz.f3) (x := (a0, ())) (y := y) k ((fulcrumlaw08_BoundsPlays.eval k a0).trans h))

end Go.Fx.Tryz
