import Derived.Test.YtjojmgadmdgdgaaGreatW17b
namespace Go.Fx.Tryz
open Go Go.Proofs Go.Fx
set_option linter.unusedVariables false
set_option maxRecDepth 100000
def atoms_Holds.spec : Spec := ⟨[(false, Kt22), (false, (.int .i64)), (false, Kt23), (false, Kt24)], [(false, .bool), (false, (.int .i64))], .own, fun j => match j with  | _ => []⟩
noncomputable def atoms_Holds.cals : Cals := (Cals.cons 52 atoms_load.sig (Cals.cons 53 atoms_literal.sig (Cals.cons 55 linear_Value.sig (Cals.cons 54 ratio_Cmp.sig (Cals.base tabs)))))
noncomputable def atoms_Holds.sig : Sig := atoms_Holds.spec.sig atoms_Holds.cals T Tryz.f14
noncomputable def atoms_Holds.F (x : Dt22 × Int × Dt23 × Dt24 × Unit) : Option (Bool × Int × Unit) := limF atoms_Holds.spec atoms_Holds.cals T Tryz.f14 x
theorem atoms_Holds.ck : CalsOk Tryz.prog atoms_Holds.cals := (CalsOk.cons atoms_load.cal (CalsOk.cons atoms_literal.cal (CalsOk.cons linear_Value.cal (CalsOk.cons ratio_Cmp.cal (CalsOk.base tabsOk)))))
theorem atoms_Holds.cal : CalOk Tryz.prog tabs 14 atoms_Holds.sig := calOk_lim' tabOk atoms_Holds.ck mix Tryz.func14 (by kernel_rfl) (by kernel_rfl) (by kernel_rfl) (by kernel_rfl)
noncomputable def atoms_Holds.e  (a0 : Dt22) (a1 : Int) (a2 : Dt23) (a3 : Dt24) : Option (Bool × Int × Unit) :=
  (atoms_load.F (a0, ())).bind fun y1 =>
  (atoms_literal.F (a0, a1, ())).bind fun y2 =>
  let v3 := not y1.2.1
  bif v3 then (some (false, (170 : Int), ()))
  else (let v4 := not y2.2.1
  bif v4 then (some (false, (170 : Int), ()))
  else (let v5 := (y2.1.1.toList == (⟨#[]⟩ : ByteArray).toList)
  bif v5 then ((linear_Value.F (y2.1.2.1, a2, ())).bind fun y6 =>
  (ratio_Cmp.F (((y6.1.1.1, y6.1.1.2), y6.1.2), ((y2.1.2.2.1.1.1, y2.1.2.2.1.1.2), y2.1.2.2.1.2), ())).bind fun y7 =>
  let v8 := decide (y7.1 < (0 : Int))
  bif v8 then (let v9 := decide (a1 > (0 : Int))
  let v10 := (true == v9)
  some (v10, (0 : Int), ()))
  else (let v11 := (y7.1 == (0 : Int))
  bif v11 then (let v12 := not y2.1.2.2.2
  let v13 := decide (a1 > (0 : Int))
  let v14 := (v12 == v13)
  some (v14, (0 : Int), ()))
  else (let v15 := decide (a1 > (0 : Int))
  let v16 := (false == v15)
  some (v16, (0 : Int), ()))))
  else (none)))
theorem atoms_Holds.eval (k : Nat) (a0 : Dt22) (a1 : Int) (a2 : Dt23) (a3 : Dt24) : evalF atoms_Holds.spec atoms_Holds.cals T Tryz.f14 k (a0, a1, a2, a3, ()) = atoms_Holds.e  a0 a1 a2 a3 := by kernel_rfl
theorem atoms_Holds.F_eq (a0 : Dt22) (a1 : Int) (a2 : Dt23) (a3 : Dt24) : atoms_Holds.F (a0, a1, a2, a3, ()) = limF atoms_Holds.spec atoms_Holds.cals T Tryz.f14 (a0, a1, a2, a3, ()) := by kernel_rfl
theorem atoms_Holds.of (k : Nat) (a0 : Dt22) (a1 : Int) (a2 : Dt23) (a3 : Dt24) {y : Bool × Int × Unit} (h : atoms_Holds.e  a0 a1 a2 a3 = some y) : atoms_Holds.F (a0, a1, a2, a3, ()) = some y := (atoms_Holds.F_eq a0 a1 a2 a3).trans (limF_of (q := atoms_Holds.spec) (C := atoms_Holds.cals) (T := T) (f := Tryz.f14) (x := (a0, a1, a2, a3, ())) (y := y) k ((atoms_Holds.eval k a0 a1 a2 a3).trans h))
def w_AtomsMeans.spec : Spec := ⟨[(false, Kt35), (false, Kt23)], [(false, .bool)], .own, fun j => match j with | 4 => [(0, .lf (.z 52 Kt52 false)), (1, .lf (.z 47 Kt47 false)), (5, .lf (.z 69 Kt69 true)), (6, .lf (.o 3 (.int .i64) true)), (7, .lf (.v true))] | 12 => [(0, .lf (.z 52 Kt52 false)), (1, .lf (.z 47 Kt47 false)), (5, .lf (.z 69 Kt69 true)), (6, .lf (.o 3 (.int .i64) true)), (11, .lf (.v true))] | _ => []⟩
noncomputable def w_AtomsMeans.cals : Cals := (Cals.cons 20 atoms_New.sig (Cals.cons 22 m_Affine.sig (Cals.cons 21 atoms_Below.sig (Cals.cons 23 w_same.sig (Cals.cons 24 w_below.sig (Cals.cons 15 w_twin.sig (Cals.cons 16 m_Rats.sig (Cals.cons 14 atoms_Holds.sig (Cals.cons 25 atoms_Says.sig (Cals.cons 19 w_lives.sig (Cals.base tabs)))))))))))
noncomputable def w_AtomsMeans.sig : Sig := w_AtomsMeans.spec.sig w_AtomsMeans.cals T Tryz.f4
noncomputable def w_AtomsMeans.F (x : Dt35 × Dt23 × Unit) : Option (Bool × Unit) := limF w_AtomsMeans.spec w_AtomsMeans.cals T Tryz.f4 x
theorem w_AtomsMeans.ck : CalsOk Tryz.prog w_AtomsMeans.cals := (CalsOk.cons atoms_New.cal (CalsOk.cons m_Affine.cal (CalsOk.cons atoms_Below.cal (CalsOk.cons w_same.cal (CalsOk.cons w_below.cal (CalsOk.cons w_twin.cal (CalsOk.cons m_Rats.cal (CalsOk.cons atoms_Holds.cal (CalsOk.cons atoms_Says.cal (CalsOk.cons w_lives.cal (CalsOk.base tabsOk)))))))))))
theorem w_AtomsMeans.cal : CalOk Tryz.prog tabs 4 w_AtomsMeans.sig := calOk_lim' tabOk w_AtomsMeans.ck mix Tryz.func4 (by kernel_rfl) (by kernel_rfl) (by kernel_rfl) (by kernel_rfl)
def w_AtomsMeans.m4 (x0 : Dt35) (x1 : Dt23) (x5 : Dt22) (x6 : Dt43) (x7 : Int) : S := ⟨[(0, .one (.lf (.val false Kt35 x0))), (1, .one (.lf (.val false Kt23 x1))), (5, .one (.lf (.val true Kt22 x5))), (6, .one (.lf (.own 0))), (7, .one (.lf (.val true (.int .i64) x7)))], ⟨[some ⟨3, (.int .i64), true, true, x6⟩], []⟩⟩
def w_AtomsMeans.m12 (x0 : Dt35) (x1 : Dt23) (x5 : Dt22) (x6 : Dt43) (x11 : Int) : S := ⟨[(0, .one (.lf (.val false Kt35 x0))), (1, .one (.lf (.val false Kt23 x1))), (5, .one (.lf (.val true Kt22 x5))), (6, .one (.lf (.own 0))), (11, .one (.lf (.val true (.int .i64) x11)))], ⟨[some ⟨3, (.int .i64), true, true, x6⟩], []⟩⟩
noncomputable def w_AtomsMeans.b4 (f4 : Dt35 → Dt23 → Dt22 → Dt43 → Int → Option (Bool × Unit)) (f12 : Dt35 → Dt23 → Dt22 → Dt43 → Int → Option (Bool × Unit)) (x0 : Dt35) (x1 : Dt23) (x5 : Dt22) (x6 : Dt43) (x7 : Int) : Option (Bool × Unit) :=
  let v1 := (List.length x0 : Int)
  let v2 := decide (x7 < v1)
  bif v2 then (bif decide (0 ≤ x7) && decide (x7 < (List.length x0 : Int)) then (let v3 := ((List.getD x0 (Int.toNat x7) zt52).1).1
  let v4 := ((((List.getD x0 (Int.toNat x7) zt52).1).2).1).1
  let v5 := ((((List.getD x0 (Int.toNat x7) zt52).1).2).1).2
  let v6 := (((List.getD x0 (Int.toNat x7) zt52).1).2).2
  (m_Affine.F ((v3, ((v4, v5), v6)), ())).bind fun y7 =>
  bif decide (0 ≤ x7) && decide (x7 < (List.length x0 : Int)) then (let v8 := ((List.getD x0 (Int.toNat x7) zt52).2).1
  (atoms_Below.F (x5, (y7.1.1, ((y7.1.2.1.1, y7.1.2.1.2), y7.1.2.2)), v8, ())).bind fun y9 =>
  let v10 := (y9.2.2.1 != (0 : Int))
  bif v10 then (let v11 := (y9.2.2.1 == (2 : Int))
  bif v11 then (let v12 := (List.length x5 : Int)
  let v13 := (v12 == (262144 : Int))
  some (v13, ()))
  else (some (false, ())))
  else (let v14 := (y9.2.1 == (0 : Int))
  bif v14 then (let v15 := (y9.2.2.1 == (2 : Int))
  bif v15 then (let v16 := (List.length x5 : Int)
  let v17 := (v16 == (262144 : Int))
  some (v17, ()))
  else (some (false, ())))
  else (let v18 := (List.length y9.1 : Int)
  let v19 := (List.length x5 : Int)
  let v20 := decide (v18 < v19)
  bif v20 then (let v21 := (y9.2.2.1 == (2 : Int))
  bif v21 then (let v22 := (List.length x5 : Int)
  let v23 := (v22 == (262144 : Int))
  some (v23, ()))
  else (some (false, ())))
  else (let v24 := (List.length x5 : Int)
  bif decide (0 ≤ v24) && decide (v24 ≤ (List.length y9.1 : Int)) then (let v25 := List.take (Int.toNat v24) y9.1
  (w_same.F (v25, x5, ())).bind fun y26 =>
  let v27 := not y26.1
  bif v27 then (let v28 := (y9.2.2.1 == (2 : Int))
  bif v28 then (let v29 := (List.length x5 : Int)
  let v30 := (v29 == (262144 : Int))
  some (v30, ()))
  else (some (false, ())))
  else (let v31 := ([y9.2.1] : List Int)
  bif decide (List.length x6 + List.length v31 < 17592186044416) then (let v32 := List.append x6 v31
  let v33 := IntKind.i64.wrap (x7 + (1 : Int))
  f4 x0 x1 y9.1 v32 v33)
  else none))
  else none))))
  else none)
  else none)
  else (f12 x0 x1 x5 x6 (0 : Int))
noncomputable def w_AtomsMeans.b12 (f4 : Dt35 → Dt23 → Dt22 → Dt43 → Int → Option (Bool × Unit)) (f12 : Dt35 → Dt23 → Dt22 → Dt43 → Int → Option (Bool × Unit)) (x0 : Dt35) (x1 : Dt23) (x5 : Dt22) (x6 : Dt43) (x11 : Int) : Option (Bool × Unit) :=
  let v1 := (List.length x0 : Int)
  let v2 := decide (x11 < v1)
  bif v2 then (bif decide (0 ≤ x11) && decide (x11 < (List.length x0 : Int)) then (let v3 := ((List.getD x0 (Int.toNat x11) zt52).1).1
  let v4 := ((((List.getD x0 (Int.toNat x11) zt52).1).2).1).1
  let v5 := ((((List.getD x0 (Int.toNat x11) zt52).1).2).1).2
  let v6 := (((List.getD x0 (Int.toNat x11) zt52).1).2).2
  bif decide (0 ≤ x11) && decide (x11 < (List.length x0 : Int)) then (let v7 := ((List.getD x0 (Int.toNat x11) zt52).2).1
  (w_below.F ((v3, ((v4, v5), v6)), v7, x1, ())).bind fun y8 =>
  (w_twin.F (x5, ())).bind fun y9 =>
  bif decide (0 ≤ x11) && decide (x11 < (List.length x6 : Int)) then (let v10 := List.getD x6 (Int.toNat x11) (0 : Int)
  (m_Rats.F (x1, ())).bind fun y11 =>
  (atoms_Holds.F (y9.1, v10, y11.1, zt24, ())).bind fun y12 =>
  (w_twin.F (x5, ())).bind fun y13 =>
  bif decide (0 ≤ x11) && decide (x11 < (List.length x6 : Int)) then (let v14 := List.getD x6 (Int.toNat x11) (0 : Int)
  let v15 := negI .i64 v14
  (m_Rats.F (x1, ())).bind fun y16 =>
  (atoms_Holds.F (y13.1, v15, y16.1, zt24, ())).bind fun y17 =>
  let v18 := (y12.2.1 != (0 : Int))
  bif v18 then (some (false, ()))
  else (let v19 := (y17.2.1 != (0 : Int))
  bif v19 then (some (false, ()))
  else (let v20 := (!(y12.1 == y8.1))
  bif v20 then (some (false, ()))
  else (let v21 := (y17.1 == y8.1)
  bif v21 then (some (false, ()))
  else ((w_twin.F (x5, ())).bind fun y22 =>
  bif decide (0 ≤ x11) && decide (x11 < (List.length x6 : Int)) then (let v23 := List.getD x6 (Int.toNat x11) (0 : Int)
  (atoms_Says.F (y22.1, v23, ())).bind fun y24 =>
  let v25 := (y24.2.2.1 != (0 : Int))
  bif v25 then (some (false, ()))
  else ((w_below.F ((y24.1.1, ((y24.1.2.1.1, y24.1.2.1.2), y24.1.2.2)), y24.2.1, x1, ())).bind fun y26 =>
  let v27 := (!(y26.1 == y8.1))
  bif v27 then (some (false, ()))
  else (let v28 := IntKind.i64.wrap (x11 + (1 : Int))
  f12 x0 x1 x5 x6 v28)))
  else none)))))
  else none)
  else none)
  else none)
  else none)
  else ((w_lives.F ()).bind fun y29 =>
  some (y29.1, ()))
noncomputable def w_AtomsMeans.e (f4 : Dt35 → Dt23 → Dt22 → Dt43 → Int → Option (Bool × Unit)) (f12 : Dt35 → Dt23 → Dt22 → Dt43 → Int → Option (Bool × Unit)) (a0 : Dt35) (a1 : Dt23) : Option (Bool × Unit) :=
  (atoms_New.F ()).bind fun y1 =>
  let v2 := zt43
  f4 a0 a1 y1.1 v2 (0 : Int)
noncomputable def w_AtomsMeans.L4 (k : Nat) (x0 : Dt35) (x1 : Dt23) (x5 : Dt22) (x6 : Dt43) (x7 : Int) : Option (Bool × Unit) := heads (w_AtomsMeans.spec.env w_AtomsMeans.cals T Tryz.f4) (Func.pts Tryz.f4) k 4 (w_AtomsMeans.m4 x0 x1 x5 x6 x7)
noncomputable def w_AtomsMeans.L12 (k : Nat) (x0 : Dt35) (x1 : Dt23) (x5 : Dt22) (x6 : Dt43) (x11 : Int) : Option (Bool × Unit) := heads (w_AtomsMeans.spec.env w_AtomsMeans.cals T Tryz.f4) (Func.pts Tryz.f4) k 12 (w_AtomsMeans.m12 x0 x1 x5 x6 x11)
theorem w_AtomsMeans.L4_succ (k : Nat) (x0 : Dt35) (x1 : Dt23) (x5 : Dt22) (x6 : Dt43) (x7 : Int) : w_AtomsMeans.L4 (k + 1) x0 x1 x5 x6 x7 = w_AtomsMeans.b4 (w_AtomsMeans.L4 k) (w_AtomsMeans.L12 k) x0 x1 x5 x6 x7 := by kernel_rfl
theorem w_AtomsMeans.L12_succ (k : Nat) (x0 : Dt35) (x1 : Dt23) (x5 : Dt22) (x6 : Dt43) (x11 : Int) : w_AtomsMeans.L12 (k + 1) x0 x1 x5 x6 x11 = w_AtomsMeans.b12 (w_AtomsMeans.L4 k) (w_AtomsMeans.L12 k) x0 x1 x5 x6 x11 := by kernel_rfl
theorem w_AtomsMeans.eval (k : Nat) (a0 : Dt35) (a1 : Dt23) : evalF w_AtomsMeans.spec w_AtomsMeans.cals T Tryz.f4 k (a0, a1, ()) = w_AtomsMeans.e (w_AtomsMeans.L4 k) (w_AtomsMeans.L12 k) a0 a1 := by kernel_rfl
theorem w_AtomsMeans.F_eq (a0 : Dt35) (a1 : Dt23) : w_AtomsMeans.F (a0, a1, ()) = limF w_AtomsMeans.spec w_AtomsMeans.cals T Tryz.f4 (a0, a1, ()) := by kernel_rfl
theorem w_AtomsMeans.of (k : Nat) (a0 : Dt35) (a1 : Dt23) {y : Bool × Unit} (h : w_AtomsMeans.e (w_AtomsMeans.L4 k) (w_AtomsMeans.L12 k) a0 a1 = some y) : w_AtomsMeans.F (a0, a1, ()) = some y := (w_AtomsMeans.F_eq a0 a1).trans (limF_of (q := w_AtomsMeans.spec) (C := w_AtomsMeans.cals) (T := T) (f := Tryz.f4) (x := (a0, a1, ())) (y := y) k ((w_AtomsMeans.eval k a0 a1).trans h))
end Go.Fx.Tryz
