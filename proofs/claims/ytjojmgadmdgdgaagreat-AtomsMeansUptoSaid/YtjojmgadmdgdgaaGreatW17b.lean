import Derived.Test.YtjojmgadmdgdgaaGreatW17a
namespace Go.Fx.Tryz
open Go Go.Proofs Go.Fx
set_option linter.unusedVariables false
set_option maxRecDepth 100000

noncomputable section
namespace atoms_literal
def spec : Spec := ⟨[(false, Kt22), (false, (.int .i64))], [(true, Kt69), (false, .bool)], .shared, fun j => match j with  | _ => []⟩
def cals : Cals := (Cals.base tabs)
def sig : Sig := spec.sig cals T Tryz.f53
def F (x : Dt22 × Int × Unit) : Option (Dt69 × Bool × Unit) := limF spec cals T Tryz.f53 x
theorem ck : CalsOk Tryz.prog cals := (CalsOk.base tabsOk)
theorem cal : CalOk Tryz.prog tabs 53 sig := calOk_lim' tabOk ck mix Tryz.func53 (by kernel_rfl) (by kernel_rfl) (by kernel_rfl) (by kernel_rfl)
def e  (a0 : Dt22) (a1 : Int) : Option (Dt69 × Bool × Unit) :=
 let v1 := decide (a1 < (0 : Int))
 bif v1 then (let v2 := negI .i64 a1
 let v3 := decide (v2 < (1 : Int))
 bif v3 then (some (zt69, false, ()))
 else (let v4 := (List.length a0 : Int)
 let v5 := decide (v2 > v4)
 bif v5 then (some (zt69, false, ()))
 else (let v6 := IntKind.i64.wrap (v2 - (1 : Int))
 bif decide (0 ≤ v6) && decide (v6 < (List.length a0 : Int)) then (let v7 := (List.getD a0 (Int.toNat v6) zt69).1
 let v8 := ((List.getD a0 (Int.toNat v6) zt69).2).1
 let v9 := (((((List.getD a0 (Int.toNat v6) zt69).2).2).1).1).1
 let v10 := (((((List.getD a0 (Int.toNat v6) zt69).2).2).1).1).2
 let v11 := ((((List.getD a0 (Int.toNat v6) zt69).2).2).1).2
 let v12 := (((List.getD a0 (Int.toNat v6) zt69).2).2).2
 some ((v7, (v8, (((v9, v10), v11), v12))), true, ()))
 else none)))
 else (let v13 := decide (a1 < (1 : Int))
 bif v13 then (some (zt69, false, ()))
 else (let v14 := (List.length a0 : Int)
 let v15 := decide (a1 > v14)
 bif v15 then (some (zt69, false, ()))
 else (let v16 := IntKind.i64.wrap (a1 - (1 : Int))
 bif decide (0 ≤ v16) && decide (v16 < (List.length a0 : Int)) then (let v17 := (List.getD a0 (Int.toNat v16) zt69).1
 let v18 := ((List.getD a0 (Int.toNat v16) zt69).2).1
 let v19 := (((((List.getD a0 (Int.toNat v16) zt69).2).2).1).1).1
 let v20 := (((((List.getD a0 (Int.toNat v16) zt69).2).2).1).1).2
 let v21 := ((((List.getD a0 (Int.toNat v16) zt69).2).2).1).2
 let v22 := (((List.getD a0 (Int.toNat v16) zt69).2).2).2
 some ((v17, (v18, (((v19, v20), v21), v22))), true, ()))
 else none)))
theorem eval (k : Nat) (a0 : Dt22) (a1 : Int) : evalF spec cals T Tryz.f53 k (a0, a1, ()) = e  a0 a1 := by kernel_rfl
theorem of (k : Nat) (a0 : Dt22) (a1 : Int) {y : Dt69 × Bool × Unit} (h : e  a0 a1 = some y) : F (a0, a1, ()) = some y := limF_of k ((eval k a0 a1).trans h)
end atoms_literal
namespace whole_Sub
def spec : Spec := ⟨[(true, Kt45), (true, Kt45)], [(true, Kt45)], .own, fun j => match j with  | _ => []⟩
def cals : Cals := (Cals.cons 118 whole_Neg.sig (Cals.cons 148 whole_Add.sig (Cals.base tabs)))
def sig : Sig := spec.sig cals T Tryz.f146
def F (x : Dt45 × Dt45 × Unit) : Option (Dt45 × Unit) := limF spec cals T Tryz.f146 x
theorem ck : CalsOk Tryz.prog cals := (CalsOk.cons whole_Neg.cal (CalsOk.cons whole_Add.cal (CalsOk.base tabsOk)))
theorem cal : CalOk Tryz.prog tabs 146 sig := calOk_lim' tabOk ck mix Tryz.func146 (by kernel_rfl) (by kernel_rfl) (by kernel_rfl) (by kernel_rfl)
def e  (a0 : Dt45) (a1 : Dt45) : Option (Dt45 × Unit) :=
 (whole_Neg.F ((a1.1, a1.2), ())).bind fun y1 =>
 (whole_Add.F ((a0.1, a0.2), (y1.1.1, y1.1.2), ())).bind fun y2 =>
 some ((y2.1.1, y2.1.2), ())
theorem eval (k : Nat) (a0 : Dt45) (a1 : Dt45) : evalF spec cals T Tryz.f146 k (a0, a1, ()) = e  a0 a1 := by kernel_rfl
theorem of (k : Nat) (a0 : Dt45) (a1 : Dt45) {y : Dt45 × Unit} (h : e  a0 a1 = some y) : F (a0, a1, ()) = some y := limF_of k ((eval k a0 a1).trans h)
end whole_Sub
namespace whole_Cmp
def spec : Spec := ⟨[(true, Kt45), (true, Kt45)], [(false, (.int .i64))], .own, fun j => match j with  | _ => []⟩
def cals : Cals := (Cals.cons 146 whole_Sub.sig (Cals.cons 116 whole_Sign.sig (Cals.base tabs)))
def sig : Sig := spec.sig cals T Tryz.f102
def F (x : Dt45 × Dt45 × Unit) : Option (Int × Unit) := limF spec cals T Tryz.f102 x
theorem ck : CalsOk Tryz.prog cals := (CalsOk.cons whole_Sub.cal (CalsOk.cons whole_Sign.cal (CalsOk.base tabsOk)))
theorem cal : CalOk Tryz.prog tabs 102 sig := calOk_lim' tabOk ck mix Tryz.func102 (by kernel_rfl) (by kernel_rfl) (by kernel_rfl) (by kernel_rfl)
def e  (a0 : Dt45) (a1 : Dt45) : Option (Int × Unit) :=
 (whole_Sub.F ((a0.1, a0.2), (a1.1, a1.2), ())).bind fun y1 =>
 (whole_Sign.F ((y1.1.1, y1.1.2), ())).bind fun y2 =>
 some (y2.1, ())
theorem eval (k : Nat) (a0 : Dt45) (a1 : Dt45) : evalF spec cals T Tryz.f102 k (a0, a1, ()) = e  a0 a1 := by kernel_rfl
theorem of (k : Nat) (a0 : Dt45) (a1 : Dt45) {y : Int × Unit} (h : e  a0 a1 = some y) : F (a0, a1, ()) = some y := limF_of k ((eval k a0 a1).trans h)
end whole_Cmp
namespace ratio_Cmp
def spec : Spec := ⟨[(true, Kt47), (true, Kt47)], [(false, (.int .i64))], .own, fun j => match j with  | _ => []⟩
def cals : Cals := (Cals.cons 101 ratio_Norm.sig (Cals.cons 103 whole_Mul.sig (Cals.cons 102 whole_Cmp.sig (Cals.base tabs))))
def sig : Sig := spec.sig cals T Tryz.f54
def F (x : Dt47 × Dt47 × Unit) : Option (Int × Unit) := limF spec cals T Tryz.f54 x
theorem ck : CalsOk Tryz.prog cals := (CalsOk.cons ratio_Norm.cal (CalsOk.cons whole_Mul.cal (CalsOk.cons whole_Cmp.cal (CalsOk.base tabsOk))))
theorem cal : CalOk Tryz.prog tabs 54 sig := calOk_lim' tabOk ck mix Tryz.func54 (by kernel_rfl) (by kernel_rfl) (by kernel_rfl) (by kernel_rfl)
def e  (a0 : Dt47) (a1 : Dt47) : Option (Int × Unit) :=
 (ratio_Norm.F (((a0.1.1, a0.1.2), a0.2), ())).bind fun y1 =>
 (ratio_Norm.F (((a1.1.1, a1.1.2), a1.2), ())).bind fun y2 =>
 (whole_Mul.F ((y1.1.1.1, y1.1.1.2), (false, y2.1.2), ())).bind fun y3 =>
 (whole_Mul.F ((y2.1.1.1, y2.1.1.2), (false, y1.1.2), ())).bind fun y4 =>
 (whole_Cmp.F ((y3.1.1, y3.1.2), (y4.1.1, y4.1.2), ())).bind fun y5 =>
 some (y5.1, ())
theorem eval (k : Nat) (a0 : Dt47) (a1 : Dt47) : evalF spec cals T Tryz.f54 k (a0, a1, ()) = e  a0 a1 := by kernel_rfl
theorem of (k : Nat) (a0 : Dt47) (a1 : Dt47) {y : Int × Unit} (h : e  a0 a1 = some y) : F (a0, a1, ()) = some y := limF_of k ((eval k a0 a1).trans h)
end ratio_Cmp
namespace linear_Value
def spec : Spec := ⟨[(false, Kt40), (false, Kt23)], [(true, Kt47)], .own, fun j => match j with | 3 => [(1, .lf (.z 47 Kt47 false)), (4, .box 47 [.v true, .v true, .v true]), (5, .box 47 [.v true, .o 86 (.int .u32) true, .o 86 (.int .u32) true]), (9, .lf (.z 73 Kt73 false)), (10, .lf (.v true)), (11, .lf (.v true))] | _ => []⟩
def cals : Cals := (Cals.cons 105 ratio_Mul.sig (Cals.cons 104 ratio_Add.sig (Cals.cons 101 ratio_Norm.sig (Cals.base tabs))))
def sig : Sig := spec.sig cals T Tryz.f55
def F (x : Dt40 × Dt23 × Unit) : Option (Dt47 × Unit) := limF spec cals T Tryz.f55 x
theorem ck : CalsOk Tryz.prog cals := (CalsOk.cons ratio_Mul.cal (CalsOk.cons ratio_Add.cal (CalsOk.cons ratio_Norm.cal (CalsOk.base tabsOk))))
theorem cal : CalOk Tryz.prog tabs 55 sig := calOk_lim' tabOk ck mix Tryz.func55 (by kernel_rfl) (by kernel_rfl) (by kernel_rfl) (by kernel_rfl)
def m3 (x1 : Dt23) (x4_0 : Bool) (x5_0 : Bool) (x5_1 : Dt43) (x5_2 : Dt43) (x9 : Dt40) (x10 : Int) (x11 : Int) : S := ⟨[(1, .one (.lf (.val false Kt23 x1))), (4, .box 0 0), (5, .box 1 0), (9, .one (.lf (.val false Kt40 x9))), (10, .one (.lf (.val true (.int .i64) x10))), (11, .one (.lf (.val true (.int .i64) x11)))], ⟨[some ⟨86, (.int .u32), true, true, x5_1⟩, some ⟨86, (.int .u32), true, true, x5_2⟩], [some ⟨47, [.val true .bool x4_0, .nil, .nil]⟩, some ⟨47, [.val true .bool x5_0, .own 0, .own 1]⟩]⟩⟩
def b3 (f3 : Dt23 → Bool → Bool → Dt43 → Dt43 → Dt40 → Int → Int → Option (Dt47 × Unit)) (x1 : Dt23) (x4_0 : Bool) (x5_0 : Bool) (x5_1 : Dt43) (x5_2 : Dt43) (x9 : Dt40) (x10 : Int) (x11 : Int) : Option (Dt47 × Unit) :=
 let v1 := decide (x11 < x10)
 bif v1 then (bif decide (0 ≤ x11) && decide (x11 < (List.length x9 : Int)) then (let v2 := (List.getD x9 (Int.toNat x11) zt73).1
 let v3 := (((List.getD x9 (Int.toNat x11) zt73).2).1).1
 let v4 := (((List.getD x9 (Int.toNat x11) zt73).2).1).2
 let v5 := ((List.getD x9 (Int.toNat x11) zt73).2).2
 let v6 := decide (v2 ≥ (0 : Int))
 bif v6 then (let v7 := (List.length x1 : Int)
 let v8 := decide (v2 < v7)
 bif v8 then (bif decide (0 ≤ v2) && decide (v2 < (List.length x1 : Int)) then (let v9 := ((List.getD x1 (Int.toNat v2) zt47).1).1
 let v10 := ((List.getD x1 (Int.toNat v2) zt47).1).2
 let v11 := (List.getD x1 (Int.toNat v2) zt47).2
 (ratio_Mul.F (((v3, v4), v5), ((v9, v10), v11), ())).bind fun y12 =>
 (ratio_Add.F (((x5_0, x5_1), x5_2), ((y12.1.1.1, y12.1.1.2), y12.1.2), ())).bind fun y13 =>
 let v14 := IntKind.i64.wrap (x11 + (1 : Int))
 f3 x1 x4_0 y13.1.1.1 y13.1.1.2 y13.1.2 x9 x10 v14)
 else none)
 else (let v15 := IntKind.i64.wrap (x11 + (1 : Int))
 f3 x1 x4_0 x5_0 x5_1 x5_2 x9 x10 v15))
 else (let v16 := IntKind.i64.wrap (x11 + (1 : Int))
 f3 x1 x4_0 x5_0 x5_1 x5_2 x9 x10 v16))
 else none)
 else ((ratio_Norm.F (((x5_0, x5_1), x5_2), ())).bind fun y17 =>
 some (((y17.1.1.1, y17.1.1.2), y17.1.2), ()))
def e (f3 : Dt23 → Bool → Bool → Dt43 → Dt43 → Dt40 → Int → Int → Option (Dt47 × Unit)) (a0 : Dt40) (a1 : Dt23) : Option (Dt47 × Unit) :=
 let v1 := (List.length a0 : Int)
 f3 a1 false false zt43 zt43 a0 v1 (0 : Int)
def L3 (k : Nat) (x1 : Dt23) (x4_0 : Bool) (x5_0 : Bool) (x5_1 : Dt43) (x5_2 : Dt43) (x9 : Dt40) (x10 : Int) (x11 : Int) : Option (Dt47 × Unit) := heads (spec.env cals T Tryz.f55) (Func.pts Tryz.f55) k 3 (m3 x1 x4_0 x5_0 x5_1 x5_2 x9 x10 x11)
theorem L3_succ (k : Nat) (x1 : Dt23) (x4_0 : Bool) (x5_0 : Bool) (x5_1 : Dt43) (x5_2 : Dt43) (x9 : Dt40) (x10 : Int) (x11 : Int) : L3 (k + 1) x1 x4_0 x5_0 x5_1 x5_2 x9 x10 x11 = b3 (L3 k) x1 x4_0 x5_0 x5_1 x5_2 x9 x10 x11 := by kernel_rfl
theorem eval (k : Nat) (a0 : Dt40) (a1 : Dt23) : evalF spec cals T Tryz.f55 k (a0, a1, ()) = e (L3 k) a0 a1 := by kernel_rfl
theorem of (k : Nat) (a0 : Dt40) (a1 : Dt23) {y : Dt47 × Unit} (h : e (L3 k) a0 a1 = some y) : F (a0, a1, ()) = some y := limF_of k ((eval k a0 a1).trans h)
end linear_Value
namespace m_Nat
def spec : Spec := ⟨[(false, Kt43)], [(false, Kt43)], .own, fun j => match j with | 3 => [(0, .lf (.z 86 (.int .u32) false)), (3, .lf (.o 86 (.int .u32) true)), (4, .lf (.v true))] | _ => []⟩
def cals : Cals := (Cals.base tabs)
def sig : Sig := spec.sig cals T Tryz.f107
def F (x : Dt43 × Unit) : Option (Dt43 × Unit) := limF spec cals T Tryz.f107 x
theorem ck : CalsOk Tryz.prog cals := (CalsOk.base tabsOk)
theorem cal : CalOk Tryz.prog tabs 107 sig := calOk_lim' tabOk ck mix Tryz.func107 (by kernel_rfl) (by kernel_rfl) (by kernel_rfl) (by kernel_rfl)
def m3 (x0 : Dt43) (x3 : Dt43) (x4 : Int) : S := ⟨[(0, .one (.lf (.val false Kt43 x0))), (3, .one (.lf (.own 0))), (4, .one (.lf (.val true (.int .i64) x4)))], ⟨[some ⟨86, (.int .u32), true, true, x3⟩], []⟩⟩
def b3 (f3 : Dt43 → Dt43 → Int → Option (Dt43 × Unit)) (x0 : Dt43) (x3 : Dt43) (x4 : Int) : Option (Dt43 × Unit) :=
 let v1 := (List.length x0 : Int)
 let v2 := decide (x4 < v1)
 bif v2 then (bif decide (0 ≤ x4) && decide (x4 < (List.length x0 : Int)) then (let v3 := List.getD x0 (Int.toNat x4) (0 : Int)
 let v4 := ([v3] : List Int)
 bif decide (List.length x3 + List.length v4 < 35184372088832) then (let v5 := List.append x3 v4
 let v6 := IntKind.i64.wrap (x4 + (1 : Int))
 f3 x0 v5 v6)
 else none)
 else none)
 else (some (x3, ()))
def e (f3 : Dt43 → Dt43 → Int → Option (Dt43 × Unit)) (a0 : Dt43) : Option (Dt43 × Unit) :=
 f3 a0 zt43 (0 : Int)
def L3 (k : Nat) (x0 : Dt43) (x3 : Dt43) (x4 : Int) : Option (Dt43 × Unit) := heads (spec.env cals T Tryz.f107) (Func.pts Tryz.f107) k 3 (m3 x0 x3 x4)
theorem L3_succ (k : Nat) (x0 : Dt43) (x3 : Dt43) (x4 : Int) : L3 (k + 1) x0 x3 x4 = b3 (L3 k) x0 x3 x4 := by kernel_rfl
theorem eval (k : Nat) (a0 : Dt43) : evalF spec cals T Tryz.f107 k (a0, ()) = e (L3 k) a0 := by kernel_rfl
theorem of (k : Nat) (a0 : Dt43) {y : Dt43 × Unit} (h : e (L3 k) a0 = some y) : F (a0, ()) = some y := limF_of k ((eval k a0).trans h)
end m_Nat
namespace m_Int
def spec : Spec := ⟨[(true, Kt45)], [(true, Kt45)], .own, fun j => match j with  | _ => []⟩
def cals : Cals := (Cals.cons 107 m_Nat.sig (Cals.base tabs))
def sig : Sig := spec.sig cals T Tryz.f106
def F (x : Dt45 × Unit) : Option (Dt45 × Unit) := limF spec cals T Tryz.f106 x
theorem ck : CalsOk Tryz.prog cals := (CalsOk.cons m_Nat.cal (CalsOk.base tabsOk))
theorem cal : CalOk Tryz.prog tabs 106 sig := calOk_lim' tabOk ck mix Tryz.func106 (by kernel_rfl) (by kernel_rfl) (by kernel_rfl) (by kernel_rfl)
def e  (a0 : Dt45) : Option (Dt45 × Unit) :=
 (m_Nat.F (a0.2, ())).bind fun y1 =>
 some ((a0.1, y1.1), ())
theorem eval (k : Nat) (a0 : Dt45) : evalF spec cals T Tryz.f106 k (a0, ()) = e  a0 := by kernel_rfl
theorem of (k : Nat) (a0 : Dt45) {y : Dt45 × Unit} (h : e  a0 = some y) : F (a0, ()) = some y := limF_of k ((eval k a0).trans h)
end m_Int
namespace m_Rat
def spec : Spec := ⟨[(true, Kt47)], [(true, Kt47)], .own, fun j => match j with  | _ => []⟩
def cals : Cals := (Cals.cons 106 m_Int.sig (Cals.cons 107 m_Nat.sig (Cals.base tabs)))
def sig : Sig := spec.sig cals T Tryz.f58
def F (x : Dt47 × Unit) : Option (Dt47 × Unit) := limF spec cals T Tryz.f58 x
theorem ck : CalsOk Tryz.prog cals := (CalsOk.cons m_Int.cal (CalsOk.cons m_Nat.cal (CalsOk.base tabsOk)))
theorem cal : CalOk Tryz.prog tabs 58 sig := calOk_lim' tabOk ck mix Tryz.func58 (by kernel_rfl) (by kernel_rfl) (by kernel_rfl) (by kernel_rfl)
def e  (a0 : Dt47) : Option (Dt47 × Unit) :=
 (m_Int.F ((a0.1.1, a0.1.2), ())).bind fun y1 =>
 (m_Nat.F (a0.2, ())).bind fun y2 =>
 some (((y1.1.1, y1.1.2), y2.1), ())
theorem eval (k : Nat) (a0 : Dt47) : evalF spec cals T Tryz.f58 k (a0, ()) = e  a0 := by kernel_rfl
theorem of (k : Nat) (a0 : Dt47) {y : Dt47 × Unit} (h : e  a0 = some y) : F (a0, ()) = some y := limF_of k ((eval k a0).trans h)
end m_Rat
namespace m_Form
def spec : Spec := ⟨[(false, Kt40)], [(false, Kt40)], .own, fun j => match j with | 3 => [(0, .lf (.z 73 Kt73 false)), (3, .lf (.o 73 Kt73 true)), (4, .lf (.v true))] | _ => []⟩
def cals : Cals := (Cals.cons 58 m_Rat.sig (Cals.base tabs))
def sig : Sig := spec.sig cals T Tryz.f42
def F (x : Dt40 × Unit) : Option (Dt40 × Unit) := limF spec cals T Tryz.f42 x
theorem ck : CalsOk Tryz.prog cals := (CalsOk.cons m_Rat.cal (CalsOk.base tabsOk))
theorem cal : CalOk Tryz.prog tabs 42 sig := calOk_lim' tabOk ck mix Tryz.func42 (by kernel_rfl) (by kernel_rfl) (by kernel_rfl) (by kernel_rfl)
def m3 (x0 : Dt40) (x3 : Dt40) (x4 : Int) : S := ⟨[(0, .one (.lf (.val false Kt40 x0))), (3, .one (.lf (.own 0))), (4, .one (.lf (.val true (.int .i64) x4)))], ⟨[some ⟨73, Kt73, true, true, x3⟩], []⟩⟩
def b3 (f3 : Dt40 → Dt40 → Int → Option (Dt40 × Unit)) (x0 : Dt40) (x3 : Dt40) (x4 : Int) : Option (Dt40 × Unit) :=
 let v1 := (List.length x0 : Int)
 let v2 := decide (x4 < v1)
 bif v2 then (bif decide (0 ≤ x4) && decide (x4 < (List.length x0 : Int)) then (let v3 := (List.getD x0 (Int.toNat x4) zt73).1
 bif decide (0 ≤ x4) && decide (x4 < (List.length x0 : Int)) then (let v4 := (((List.getD x0 (Int.toNat x4) zt73).2).1).1
 let v5 := (((List.getD x0 (Int.toNat x4) zt73).2).1).2
 let v6 := ((List.getD x0 (Int.toNat x4) zt73).2).2
 (m_Rat.F (((v4, v5), v6), ())).bind fun y7 =>
 let v8 := ([(v3, ((y7.1.1.1, y7.1.1.2), y7.1.2))] : List Dt73)
 bif decide (List.length x3 + List.length v8 < 2199023255552) then (let v9 := List.append x3 v8
 let v10 := IntKind.i64.wrap (x4 + (1 : Int))
 f3 x0 v9 v10)
 else none)
 else none)
 else none)
 else (some (x3, ()))
def e (f3 : Dt40 → Dt40 → Int → Option (Dt40 × Unit)) (a0 : Dt40) : Option (Dt40 × Unit) :=
 f3 a0 zt40 (0 : Int)
def L3 (k : Nat) (x0 : Dt40) (x3 : Dt40) (x4 : Int) : Option (Dt40 × Unit) := heads (spec.env cals T Tryz.f42) (Func.pts Tryz.f42) k 3 (m3 x0 x3 x4)
theorem L3_succ (k : Nat) (x0 : Dt40) (x3 : Dt40) (x4 : Int) : L3 (k + 1) x0 x3 x4 = b3 (L3 k) x0 x3 x4 := by kernel_rfl
theorem eval (k : Nat) (a0 : Dt40) : evalF spec cals T Tryz.f42 k (a0, ()) = e (L3 k) a0 := by kernel_rfl
theorem of (k : Nat) (a0 : Dt40) {y : Dt40 × Unit} (h : e (L3 k) a0 = some y) : F (a0, ()) = some y := limF_of k ((eval k a0).trans h)
end m_Form
namespace w_twin
def spec : Spec := ⟨[(false, Kt22)], [(false, Kt22)], .own, fun j => match j with | 3 => [(0, .lf (.z 69 Kt69 false)), (3, .lf (.o 69 Kt69 true)), (4, .lf (.v true))] | _ => []⟩
def cals : Cals := (Cals.cons 42 m_Form.sig (Cals.cons 58 m_Rat.sig (Cals.base tabs)))
def sig : Sig := spec.sig cals T Tryz.f15
def F (x : Dt22 × Unit) : Option (Dt22 × Unit) := limF spec cals T Tryz.f15 x
theorem ck : CalsOk Tryz.prog cals := (CalsOk.cons m_Form.cal (CalsOk.cons m_Rat.cal (CalsOk.base tabsOk)))
theorem cal : CalOk Tryz.prog tabs 15 sig := calOk_lim' tabOk ck mix Tryz.func15 (by kernel_rfl) (by kernel_rfl) (by kernel_rfl) (by kernel_rfl)
def m3 (x0 : Dt22) (x3 : Dt22) (x4 : Int) : S := ⟨[(0, .one (.lf (.val false Kt22 x0))), (3, .one (.lf (.own 0))), (4, .one (.lf (.val true (.int .i64) x4)))], ⟨[some ⟨69, Kt69, true, true, x3⟩], []⟩⟩
def b3 (f3 : Dt22 → Dt22 → Int → Option (Dt22 × Unit)) (x0 : Dt22) (x3 : Dt22) (x4 : Int) : Option (Dt22 × Unit) :=
 let v1 := (List.length x0 : Int)
 let v2 := decide (x4 < v1)
 bif v2 then (bif decide (0 ≤ x4) && decide (x4 < (List.length x0 : Int)) then (let v3 := (List.getD x0 (Int.toNat x4) zt69).1
 bif decide (0 ≤ x4) && decide (x4 < (List.length x0 : Int)) then (let v4 := ((List.getD x0 (Int.toNat x4) zt69).2).1
 (m_Form.F (v4, ())).bind fun y5 =>
 bif decide (0 ≤ x4) && decide (x4 < (List.length x0 : Int)) then (let v6 := (((((List.getD x0 (Int.toNat x4) zt69).2).2).1).1).1
 let v7 := (((((List.getD x0 (Int.toNat x4) zt69).2).2).1).1).2
 let v8 := ((((List.getD x0 (Int.toNat x4) zt69).2).2).1).2
 (m_Rat.F (((v6, v7), v8), ())).bind fun y9 =>
 bif decide (0 ≤ x4) && decide (x4 < (List.length x0 : Int)) then (let v10 := (((List.getD x0 (Int.toNat x4) zt69).2).2).2
 bif decide (0 ≤ x4) && decide (x4 < (List.length x3 : Int)) then (let v11 := List.set x3 (Int.toNat x4) (v3, (y5.1, (((y9.1.1.1, y9.1.1.2), y9.1.2), v10)))
 let v12 := IntKind.i64.wrap (x4 + (1 : Int))
 f3 x0 v11 v12)
 else none)
 else none)
 else none)
 else none)
 else none)
 else (some (x3, ()))
def e (f3 : Dt22 → Dt22 → Int → Option (Dt22 × Unit)) (a0 : Dt22) : Option (Dt22 × Unit) :=
 let v1 := (List.length a0 : Int)
 bif decide (0 ≤ v1) && (decide (v1 ≤ v1) && (decide (Int.toNat v1 * 104 ≤ 281474976710656) && Nat.blt 0 104)) then (let v2 := List.replicate (Int.toNat v1) zt69
 f3 a0 v2 (0 : Int))
 else none
def L3 (k : Nat) (x0 : Dt22) (x3 : Dt22) (x4 : Int) : Option (Dt22 × Unit) := heads (spec.env cals T Tryz.f15) (Func.pts Tryz.f15) k 3 (m3 x0 x3 x4)
theorem L3_succ (k : Nat) (x0 : Dt22) (x3 : Dt22) (x4 : Int) : L3 (k + 1) x0 x3 x4 = b3 (L3 k) x0 x3 x4 := by kernel_rfl
theorem eval (k : Nat) (a0 : Dt22) : evalF spec cals T Tryz.f15 k (a0, ()) = e (L3 k) a0 := by kernel_rfl
theorem of (k : Nat) (a0 : Dt22) {y : Dt22 × Unit} (h : e (L3 k) a0 = some y) : F (a0, ()) = some y := limF_of k ((eval k a0).trans h)
end w_twin
namespace m_Rats
def spec : Spec := ⟨[(false, Kt23)], [(false, Kt23)], .own, fun j => match j with | 3 => [(0, .lf (.z 47 Kt47 false)), (3, .lf (.o 47 Kt47 true)), (4, .lf (.v true))] | _ => []⟩
def cals : Cals := (Cals.cons 58 m_Rat.sig (Cals.base tabs))
def sig : Sig := spec.sig cals T Tryz.f16
def F (x : Dt23 × Unit) : Option (Dt23 × Unit) := limF spec cals T Tryz.f16 x
theorem ck : CalsOk Tryz.prog cals := (CalsOk.cons m_Rat.cal (CalsOk.base tabsOk))
theorem cal : CalOk Tryz.prog tabs 16 sig := calOk_lim' tabOk ck mix Tryz.func16 (by kernel_rfl) (by kernel_rfl) (by kernel_rfl) (by kernel_rfl)
def m3 (x0 : Dt23) (x3 : Dt23) (x4 : Int) : S := ⟨[(0, .one (.lf (.val false Kt23 x0))), (3, .one (.lf (.own 0))), (4, .one (.lf (.val true (.int .i64) x4)))], ⟨[some ⟨47, Kt47, true, true, x3⟩], []⟩⟩
def b3 (f3 : Dt23 → Dt23 → Int → Option (Dt23 × Unit)) (x0 : Dt23) (x3 : Dt23) (x4 : Int) : Option (Dt23 × Unit) :=
 let v1 := (List.length x0 : Int)
 let v2 := decide (x4 < v1)
 bif v2 then (bif decide (0 ≤ x4) && decide (x4 < (List.length x0 : Int)) then (let v3 := ((List.getD x0 (Int.toNat x4) zt47).1).1
 let v4 := ((List.getD x0 (Int.toNat x4) zt47).1).2
 let v5 := (List.getD x0 (Int.toNat x4) zt47).2
 (m_Rat.F (((v3, v4), v5), ())).bind fun y6 =>
 let v7 := ([((y6.1.1.1, y6.1.1.2), y6.1.2)] : List Dt47)
 bif decide (List.length x3 + List.length v7 < 2513169434916) then (let v8 := List.append x3 v7
 let v9 := IntKind.i64.wrap (x4 + (1 : Int))
 f3 x0 v8 v9)
 else none)
 else none)
 else (some (x3, ()))
def e (f3 : Dt23 → Dt23 → Int → Option (Dt23 × Unit)) (a0 : Dt23) : Option (Dt23 × Unit) :=
 f3 a0 zt23 (0 : Int)
def L3 (k : Nat) (x0 : Dt23) (x3 : Dt23) (x4 : Int) : Option (Dt23 × Unit) := heads (spec.env cals T Tryz.f16) (Func.pts Tryz.f16) k 3 (m3 x0 x3 x4)
theorem L3_succ (k : Nat) (x0 : Dt23) (x3 : Dt23) (x4 : Int) : L3 (k + 1) x0 x3 x4 = b3 (L3 k) x0 x3 x4 := by kernel_rfl
theorem eval (k : Nat) (a0 : Dt23) : evalF spec cals T Tryz.f16 k (a0, ()) = e (L3 k) a0 := by kernel_rfl
theorem of (k : Nat) (a0 : Dt23) {y : Dt23 × Unit} (h : e (L3 k) a0 = some y) : F (a0, ()) = some y := limF_of k ((eval k a0).trans h)
end m_Rats
namespace r01_Same
def spec : Spec := ⟨[(false, Kt43), (false, Kt43)], [(false, .bool)], .own, fun j => match j with | 4 => [(0, .lf (.z 86 (.int .u32) false)), (1, .lf (.z 86 (.int .u32) false)), (5, .lf (.v true))] | _ => []⟩
def cals : Cals := (Cals.base tabs)
def sig : Sig := spec.sig cals T Tryz.f142
def F (x : Dt43 × Dt43 × Unit) : Option (Bool × Unit) := limF spec cals T Tryz.f142 x
theorem ck : CalsOk Tryz.prog cals := (CalsOk.base tabsOk)
theorem cal : CalOk Tryz.prog tabs 142 sig := calOk_lim' tabOk ck mix Tryz.func142 (by kernel_rfl) (by kernel_rfl) (by kernel_rfl) (by kernel_rfl)
def m4 (x0 : Dt43) (x1 : Dt43) (x5 : Int) : S := ⟨[(0, .one (.lf (.val false Kt43 x0))), (1, .one (.lf (.val false Kt43 x1))), (5, .one (.lf (.val true (.int .i64) x5)))], ⟨[], []⟩⟩
def b4 (f4 : Dt43 → Dt43 → Int → Option (Bool × Unit)) (x0 : Dt43) (x1 : Dt43) (x5 : Int) : Option (Bool × Unit) :=
 let v1 := (List.length x0 : Int)
 let v2 := decide (x5 < v1)
 bif v2 then (bif decide (0 ≤ x5) && decide (x5 < (List.length x0 : Int)) then (let v3 := List.getD x0 (Int.toNat x5) (0 : Int)
 bif decide (0 ≤ x5) && decide (x5 < (List.length x1 : Int)) then (let v4 := List.getD x1 (Int.toNat x5) (0 : Int)
 let v5 := (v3 != v4)
 bif v5 then (some (false, ()))
 else (let v6 := IntKind.i64.wrap (x5 + (1 : Int))
 f4 x0 x1 v6))
 else none)
 else none)
 else (some (true, ()))
def e (f4 : Dt43 → Dt43 → Int → Option (Bool × Unit)) (a0 : Dt43) (a1 : Dt43) : Option (Bool × Unit) :=
 let v1 := (List.length a0 : Int)
 let v2 := (List.length a1 : Int)
 let v3 := (v1 != v2)
 bif v3 then (some (false, ()))
 else (f4 a0 a1 (0 : Int))
def L4 (k : Nat) (x0 : Dt43) (x1 : Dt43) (x5 : Int) : Option (Bool × Unit) := heads (spec.env cals T Tryz.f142) (Func.pts Tryz.f142) k 4 (m4 x0 x1 x5)
theorem L4_succ (k : Nat) (x0 : Dt43) (x1 : Dt43) (x5 : Int) : L4 (k + 1) x0 x1 x5 = b4 (L4 k) x0 x1 x5 := by kernel_rfl
theorem eval (k : Nat) (a0 : Dt43) (a1 : Dt43) : evalF spec cals T Tryz.f142 k (a0, a1, ()) = e (L4 k) a0 a1 := by kernel_rfl
theorem of (k : Nat) (a0 : Dt43) (a1 : Dt43) {y : Bool × Unit} (h : e (L4 k) a0 a1 = some y) : F (a0, a1, ()) = some y := limF_of k ((eval k a0 a1).trans h)
end r01_Same
namespace r03_Same
def spec : Spec := ⟨[(true, Kt47), (true, Kt47)], [(false, .bool)], .own, fun j => match j with  | _ => []⟩
def cals : Cals := (Cals.cons 142 r01_Same.sig (Cals.base tabs))
def sig : Sig := spec.sig cals T Tryz.f119
def F (x : Dt47 × Dt47 × Unit) : Option (Bool × Unit) := limF spec cals T Tryz.f119 x
theorem ck : CalsOk Tryz.prog cals := (CalsOk.cons r01_Same.cal (CalsOk.base tabsOk))
theorem cal : CalOk Tryz.prog tabs 119 sig := calOk_lim' tabOk ck mix Tryz.func119 (by kernel_rfl) (by kernel_rfl) (by kernel_rfl) (by kernel_rfl)
def e  (a0 : Dt47) (a1 : Dt47) : Option (Bool × Unit) :=
 let v1 := (a0.1.1 == a1.1.1)
 bif v1 then ((r01_Same.F (a0.1.2, a1.1.2, ())).bind fun y2 =>
 bif y2.1 then ((r01_Same.F (a0.2, a1.2, ())).bind fun y3 =>
 some (y3.1, ()))
 else (some (false, ())))
 else (some (false, ()))
theorem eval (k : Nat) (a0 : Dt47) (a1 : Dt47) : evalF spec cals T Tryz.f119 k (a0, a1, ()) = e  a0 a1 := by kernel_rfl
theorem of (k : Nat) (a0 : Dt47) (a1 : Dt47) {y : Bool × Unit} (h : e  a0 a1 = some y) : F (a0, a1, ()) = some y := limF_of k ((eval k a0 a1).trans h)
end r03_Same
namespace r07_SameForm
def spec : Spec := ⟨[(false, Kt40), (false, Kt40)], [(false, .bool)], .own, fun j => match j with | 4 => [(0, .lf (.z 73 Kt73 false)), (1, .lf (.z 73 Kt73 false)), (5, .lf (.v true))] | _ => []⟩
def cals : Cals := (Cals.cons 119 r03_Same.sig (Cals.base tabs))
def sig : Sig := spec.sig cals T Tryz.f88
def F (x : Dt40 × Dt40 × Unit) : Option (Bool × Unit) := limF spec cals T Tryz.f88 x
theorem ck : CalsOk Tryz.prog cals := (CalsOk.cons r03_Same.cal (CalsOk.base tabsOk))
theorem cal : CalOk Tryz.prog tabs 88 sig := calOk_lim' tabOk ck mix Tryz.func88 (by kernel_rfl) (by kernel_rfl) (by kernel_rfl) (by kernel_rfl)
def m4 (x0 : Dt40) (x1 : Dt40) (x5 : Int) : S := ⟨[(0, .one (.lf (.val false Kt40 x0))), (1, .one (.lf (.val false Kt40 x1))), (5, .one (.lf (.val true (.int .i64) x5)))], ⟨[], []⟩⟩
def b4 (f4 : Dt40 → Dt40 → Int → Option (Bool × Unit)) (x0 : Dt40) (x1 : Dt40) (x5 : Int) : Option (Bool × Unit) :=
 let v1 := (List.length x0 : Int)
 let v2 := decide (x5 < v1)
 bif v2 then (bif decide (0 ≤ x5) && decide (x5 < (List.length x0 : Int)) then (let v3 := (List.getD x0 (Int.toNat x5) zt73).1
 bif decide (0 ≤ x5) && decide (x5 < (List.length x1 : Int)) then (let v4 := (List.getD x1 (Int.toNat x5) zt73).1
 let v5 := (v3 != v4)
 bif v5 then (some (false, ()))
 else (bif decide (0 ≤ x5) && decide (x5 < (List.length x0 : Int)) then (let v6 := (((List.getD x0 (Int.toNat x5) zt73).2).1).1
 let v7 := (((List.getD x0 (Int.toNat x5) zt73).2).1).2
 let v8 := ((List.getD x0 (Int.toNat x5) zt73).2).2
 bif decide (0 ≤ x5) && decide (x5 < (List.length x1 : Int)) then (let v9 := (((List.getD x1 (Int.toNat x5) zt73).2).1).1
 let v10 := (((List.getD x1 (Int.toNat x5) zt73).2).1).2
 let v11 := ((List.getD x1 (Int.toNat x5) zt73).2).2
 (r03_Same.F (((v6, v7), v8), ((v9, v10), v11), ())).bind fun y12 =>
 let v13 := not y12.1
 bif v13 then (some (false, ()))
 else (let v14 := IntKind.i64.wrap (x5 + (1 : Int))
 f4 x0 x1 v14))
 else none)
 else none))
 else none)
 else none)
 else (some (true, ()))
def e (f4 : Dt40 → Dt40 → Int → Option (Bool × Unit)) (a0 : Dt40) (a1 : Dt40) : Option (Bool × Unit) :=
 let v1 := (List.length a0 : Int)
 let v2 := (List.length a1 : Int)
 let v3 := (v1 != v2)
 bif v3 then (some (false, ()))
 else (f4 a0 a1 (0 : Int))
def L4 (k : Nat) (x0 : Dt40) (x1 : Dt40) (x5 : Int) : Option (Bool × Unit) := heads (spec.env cals T Tryz.f88) (Func.pts Tryz.f88) k 4 (m4 x0 x1 x5)
theorem L4_succ (k : Nat) (x0 : Dt40) (x1 : Dt40) (x5 : Int) : L4 (k + 1) x0 x1 x5 = b4 (L4 k) x0 x1 x5 := by kernel_rfl
theorem eval (k : Nat) (a0 : Dt40) (a1 : Dt40) : evalF spec cals T Tryz.f88 k (a0, a1, ()) = e (L4 k) a0 a1 := by kernel_rfl
theorem of (k : Nat) (a0 : Dt40) (a1 : Dt40) {y : Bool × Unit} (h : e (L4 k) a0 a1 = some y) : F (a0, a1, ()) = some y := limF_of k ((eval k a0 a1).trans h)
end r07_SameForm
namespace r17_Alike
def spec : Spec := ⟨[(true, Kt69), (true, Kt69)], [(false, .bool)], .own, fun j => match j with  | _ => []⟩
def cals : Cals := (Cals.cons 119 r03_Same.sig (Cals.cons 88 r07_SameForm.sig (Cals.base tabs)))
def sig : Sig := spec.sig cals T Tryz.f69
def F (x : Dt69 × Dt69 × Unit) : Option (Bool × Unit) := limF spec cals T Tryz.f69 x
theorem ck : CalsOk Tryz.prog cals := (CalsOk.cons r03_Same.cal (CalsOk.cons r07_SameForm.cal (CalsOk.base tabsOk)))
theorem cal : CalOk Tryz.prog tabs 69 sig := calOk_lim' tabOk ck mix Tryz.func69 (by kernel_rfl) (by kernel_rfl) (by kernel_rfl) (by kernel_rfl)
def e  (a0 : Dt69) (a1 : Dt69) : Option (Bool × Unit) :=
 let v1 := (a0.1.toList == a1.1.toList)
 bif v1 then (let v2 := (a0.2.2.2 == a1.2.2.2)
 bif v2 then ((r03_Same.F (((a0.2.2.1.1.1, a0.2.2.1.1.2), a0.2.2.1.2), ((a1.2.2.1.1.1, a1.2.2.1.1.2), a1.2.2.1.2), ())).bind fun y3 =>
 bif y3.1 then ((r07_SameForm.F (a0.2.1, a1.2.1, ())).bind fun y4 =>
 some (y4.1, ()))
 else (some (false, ())))
 else (some (false, ())))
 else (some (false, ()))
theorem eval (k : Nat) (a0 : Dt69) (a1 : Dt69) : evalF spec cals T Tryz.f69 k (a0, a1, ()) = e  a0 a1 := by kernel_rfl
theorem of (k : Nat) (a0 : Dt69) (a1 : Dt69) {y : Bool × Unit} (h : e  a0 a1 = some y) : F (a0, a1, ()) = some y := limF_of k ((eval k a0 a1).trans h)
end r17_Alike
namespace r01_Norm
def spec : Spec := ⟨[(false, Kt43)], [(false, Kt43)], .own, fun j => match j with | 2 => [(0, .lf (.z 86 (.int .u32) false)), (3, .lf (.v true))] | 6 => [(0, .lf (.z 86 (.int .u32) false)), (3, .lf (.v true)), (4, .lf (.o 86 (.int .u32) true)), (5, .lf (.v true))] | _ => []⟩
def cals : Cals := (Cals.base tabs)
def sig : Sig := spec.sig cals T Tryz.f125
def F (x : Dt43 × Unit) : Option (Dt43 × Unit) := limF spec cals T Tryz.f125 x
theorem ck : CalsOk Tryz.prog cals := (CalsOk.base tabsOk)
theorem cal : CalOk Tryz.prog tabs 125 sig := calOk_lim' tabOk ck mix Tryz.func125 (by kernel_rfl) (by kernel_rfl) (by kernel_rfl) (by kernel_rfl)
def m2 (x0 : Dt43) (x3 : Int) : S := ⟨[(0, .one (.lf (.val false Kt43 x0))), (3, .one (.lf (.val true (.int .i64) x3)))], ⟨[], []⟩⟩
def m6 (x0 : Dt43) (x3 : Int) (x4 : Dt43) (x5 : Int) : S := ⟨[(0, .one (.lf (.val false Kt43 x0))), (3, .one (.lf (.val true (.int .i64) x3))), (4, .one (.lf (.own 0))), (5, .one (.lf (.val true (.int .i64) x5)))], ⟨[some ⟨86, (.int .u32), true, true, x4⟩], []⟩⟩
def b2 (f2 : Dt43 → Int → Option (Dt43 × Unit)) (f6 : Dt43 → Int → Dt43 → Int → Option (Dt43 × Unit)) (x0 : Dt43) (x3 : Int) : Option (Dt43 × Unit) :=
 let v1 := decide (x3 > (0 : Int))
 bif v1 then (let v2 := IntKind.i64.wrap (x3 - (1 : Int))
 bif decide (0 ≤ v2) && decide (v2 < (List.length x0 : Int)) then (let v3 := List.getD x0 (Int.toNat v2) (0 : Int)
 let v4 := (v3 == (0 : Int))
 bif v4 then (let v5 := IntKind.i64.wrap (x3 - (1 : Int))
 f2 x0 v5)
 else (bif decide (0 ≤ x3) && (decide (x3 ≤ x3) && (decide (Int.toNat x3 * 4 ≤ 281474976710656) && Nat.blt 0 4)) then (let v6 := List.replicate (Int.toNat x3) (0 : Int)
 f6 x0 x3 v6 (0 : Int))
 else none))
 else none)
 else (bif decide (0 ≤ x3) && (decide (x3 ≤ x3) && (decide (Int.toNat x3 * 4 ≤ 281474976710656) && Nat.blt 0 4)) then (let v7 := List.replicate (Int.toNat x3) (0 : Int)
 f6 x0 x3 v7 (0 : Int))
 else none)
def b6 (f2 : Dt43 → Int → Option (Dt43 × Unit)) (f6 : Dt43 → Int → Dt43 → Int → Option (Dt43 × Unit)) (x0 : Dt43) (x3 : Int) (x4 : Dt43) (x5 : Int) : Option (Dt43 × Unit) :=
 let v1 := decide (x5 < x3)
 bif v1 then (bif decide (0 ≤ x5) && decide (x5 < (List.length x0 : Int)) then (let v2 := List.getD x0 (Int.toNat x5) (0 : Int)
 bif decide (0 ≤ x5) && decide (x5 < (List.length x4 : Int)) then (let v3 := List.set x4 (Int.toNat x5) v2
 let v4 := IntKind.i64.wrap (x5 + (1 : Int))
 f6 x0 x3 v3 v4)
 else none)
 else none)
 else (some (x4, ()))
def e (f2 : Dt43 → Int → Option (Dt43 × Unit)) (f6 : Dt43 → Int → Dt43 → Int → Option (Dt43 × Unit)) (a0 : Dt43) : Option (Dt43 × Unit) :=
 let v1 := (List.length a0 : Int)
 f2 a0 v1
def L2 (k : Nat) (x0 : Dt43) (x3 : Int) : Option (Dt43 × Unit) := heads (spec.env cals T Tryz.f125) (Func.pts Tryz.f125) k 2 (m2 x0 x3)
def L6 (k : Nat) (x0 : Dt43) (x3 : Int) (x4 : Dt43) (x5 : Int) : Option (Dt43 × Unit) := heads (spec.env cals T Tryz.f125) (Func.pts Tryz.f125) k 6 (m6 x0 x3 x4 x5)
theorem L2_succ (k : Nat) (x0 : Dt43) (x3 : Int) : L2 (k + 1) x0 x3 = b2 (L2 k) (L6 k) x0 x3 := by kernel_rfl
theorem L6_succ (k : Nat) (x0 : Dt43) (x3 : Int) (x4 : Dt43) (x5 : Int) : L6 (k + 1) x0 x3 x4 x5 = b6 (L2 k) (L6 k) x0 x3 x4 x5 := by kernel_rfl
theorem eval (k : Nat) (a0 : Dt43) : evalF spec cals T Tryz.f125 k (a0, ()) = e (L2 k) (L6 k) a0 := by kernel_rfl
theorem of (k : Nat) (a0 : Dt43) {y : Dt43 × Unit} (h : e (L2 k) (L6 k) a0 = some y) : F (a0, ()) = some y := limF_of k ((eval k a0).trans h)
end r01_Norm
namespace r01_at
def spec : Spec := ⟨[(false, Kt43), (false, (.int .i64))], [(false, (.int .u64))], .own, fun j => match j with  | _ => []⟩
def cals : Cals := (Cals.base tabs)
def sig : Sig := spec.sig cals T Tryz.f163
def F (x : Dt43 × Int × Unit) : Option (Int × Unit) := limF spec cals T Tryz.f163 x
theorem ck : CalsOk Tryz.prog cals := (CalsOk.base tabsOk)
theorem cal : CalOk Tryz.prog tabs 163 sig := calOk_lim' tabOk ck mix Tryz.func163 (by kernel_rfl) (by kernel_rfl) (by kernel_rfl) (by kernel_rfl)
def e  (a0 : Dt43) (a1 : Int) : Option (Int × Unit) :=
 let v1 := (List.length a0 : Int)
 let v2 := decide (a1 ≥ v1)
 bif v2 then (some ((0 : Int), ()))
 else (bif decide (0 ≤ a1) && decide (a1 < (List.length a0 : Int)) then (let v3 := List.getD a0 (Int.toNat a1) (0 : Int)
 let v4 := IntKind.u64.wrap v3
 some (v4, ()))
 else none)
theorem eval (k : Nat) (a0 : Dt43) (a1 : Int) : evalF spec cals T Tryz.f163 k (a0, a1, ()) = e  a0 a1 := by kernel_rfl
theorem of (k : Nat) (a0 : Dt43) (a1 : Int) {y : Int × Unit} (h : e  a0 a1 = some y) : F (a0, a1, ()) = some y := limF_of k ((eval k a0 a1).trans h)
end r01_at
namespace r01_Cmp
def spec : Spec := ⟨[(false, Kt43), (false, Kt43)], [(false, (.int .i64))], .own, fun j => match j with | 5 => [(0, .lf (.z 86 (.int .u32) false)), (1, .lf (.z 86 (.int .u32) false)), (6, .lf (.v true))] | _ => []⟩
def cals : Cals := (Cals.cons 163 r01_at.sig (Cals.base tabs))
def sig : Sig := spec.sig cals T Tryz.f134
def F (x : Dt43 × Dt43 × Unit) : Option (Int × Unit) := limF spec cals T Tryz.f134 x
theorem ck : CalsOk Tryz.prog cals := (CalsOk.cons r01_at.cal (CalsOk.base tabsOk))
theorem cal : CalOk Tryz.prog tabs 134 sig := calOk_lim' tabOk ck mix Tryz.func134 (by kernel_rfl) (by kernel_rfl) (by kernel_rfl) (by kernel_rfl)
def m5 (x0 : Dt43) (x1 : Dt43) (x6 : Int) : S := ⟨[(0, .one (.lf (.val false Kt43 x0))), (1, .one (.lf (.val false Kt43 x1))), (6, .one (.lf (.val true (.int .i64) x6)))], ⟨[], []⟩⟩
def b5 (f5 : Dt43 → Dt43 → Int → Option (Int × Unit)) (x0 : Dt43) (x1 : Dt43) (x6 : Int) : Option (Int × Unit) :=
 let v1 := decide (x6 ≥ (0 : Int))
 bif v1 then ((r01_at.F (x0, x6, ())).bind fun y2 =>
 (r01_at.F (x1, x6, ())).bind fun y3 =>
 let v4 := decide (y2.1 < y3.1)
 bif v4 then (some ((-1 : Int), ()))
 else ((r01_at.F (x0, x6, ())).bind fun y5 =>
 (r01_at.F (x1, x6, ())).bind fun y6 =>
 let v7 := decide (y5.1 > y6.1)
 bif v7 then (some ((1 : Int), ()))
 else (let v8 := IntKind.i64.wrap (x6 - (1 : Int))
 f5 x0 x1 v8)))
 else (some ((0 : Int), ()))
def e (f5 : Dt43 → Dt43 → Int → Option (Int × Unit)) (a0 : Dt43) (a1 : Dt43) : Option (Int × Unit) :=
 let v1 := (List.length a0 : Int)
 let v2 := (List.length a1 : Int)
 let v3 := decide (v2 > v1)
 bif v3 then (let v4 := (List.length a1 : Int)
 let v5 := IntKind.i64.wrap (v4 - (1 : Int))
 f5 a0 a1 v5)
 else (let v6 := IntKind.i64.wrap (v1 - (1 : Int))
 f5 a0 a1 v6)
def L5 (k : Nat) (x0 : Dt43) (x1 : Dt43) (x6 : Int) : Option (Int × Unit) := heads (spec.env cals T Tryz.f134) (Func.pts Tryz.f134) k 5 (m5 x0 x1 x6)
theorem L5_succ (k : Nat) (x0 : Dt43) (x1 : Dt43) (x6 : Int) : L5 (k + 1) x0 x1 x6 = b5 (L5 k) x0 x1 x6 := by kernel_rfl
theorem eval (k : Nat) (a0 : Dt43) (a1 : Dt43) : evalF spec cals T Tryz.f134 k (a0, a1, ()) = e (L5 k) a0 a1 := by kernel_rfl
theorem of (k : Nat) (a0 : Dt43) (a1 : Dt43) {y : Int × Unit} (h : e (L5 k) a0 a1 = some y) : F (a0, a1, ()) = some y := limF_of k ((eval k a0 a1).trans h)
end r01_Cmp
namespace r01_Sub
def spec : Spec := ⟨[(false, Kt43), (false, Kt43)], [(false, Kt43), (false, (.int .i64))], .own, fun j => match j with | 6 => [(0, .lf (.z 86 (.int .u32) false)), (1, .lf (.z 86 (.int .u32) false)), (6, .lf (.o 86 (.int .u32) true)), (7, .lf (.v true)), (8, .lf (.v true))] | _ => []⟩
def cals : Cals := (Cals.cons 134 r01_Cmp.sig (Cals.cons 163 r01_at.sig (Cals.cons 125 r01_Norm.sig (Cals.base tabs))))
def sig : Sig := spec.sig cals T Tryz.f135
def F (x : Dt43 × Dt43 × Unit) : Option (Dt43 × Int × Unit) := limF spec cals T Tryz.f135 x
theorem ck : CalsOk Tryz.prog cals := (CalsOk.cons r01_Cmp.cal (CalsOk.cons r01_at.cal (CalsOk.cons r01_Norm.cal (CalsOk.base tabsOk))))
theorem cal : CalOk Tryz.prog tabs 135 sig := calOk_lim' tabOk ck mix Tryz.func135 (by kernel_rfl) (by kernel_rfl) (by kernel_rfl) (by kernel_rfl)
def m6 (x0 : Dt43) (x1 : Dt43) (x6 : Dt43) (x7 : Int) (x8 : Int) : S := ⟨[(0, .one (.lf (.val false Kt43 x0))), (1, .one (.lf (.val false Kt43 x1))), (6, .one (.lf (.own 0))), (7, .one (.lf (.val true (.int .u64) x7))), (8, .one (.lf (.val true (.int .i64) x8)))], ⟨[some ⟨86, (.int .u32), true, true, x6⟩], []⟩⟩
def b6 (f6 : Dt43 → Dt43 → Dt43 → Int → Int → Option (Dt43 × Int × Unit)) (x0 : Dt43) (x1 : Dt43) (x6 : Dt43) (x7 : Int) (x8 : Int) : Option (Dt43 × Int × Unit) :=
 let v1 := (List.length x0 : Int)
 let v2 := decide (x8 < v1)
 bif v2 then ((r01_at.F (x0, x8, ())).bind fun y3 =>
 (r01_at.F (x1, x8, ())).bind fun y4 =>
 let v5 := IntKind.u64.wrap (y3.1 - y4.1)
 let v6 := IntKind.u64.wrap (v5 - x7)
 let v7 := IntKind.u32.wrap v6
 bif decide (0 ≤ x8) && decide (x8 < (List.length x6 : Int)) then (let v8 := List.set x6 (Int.toNat x8) v7
 bif decide ((63 : Int) < 0) then none
 else (let v9 := shrI .u64 v6 (63 : Int)
 let v10 := IntKind.i64.wrap (x8 + (1 : Int))
 f6 x0 x1 v8 v9 v10))
 else none)
 else ((r01_Norm.F (x6, ())).bind fun y11 =>
 some (y11.1, (0 : Int), ()))
def e (f6 : Dt43 → Dt43 → Dt43 → Int → Int → Option (Dt43 × Int × Unit)) (a0 : Dt43) (a1 : Dt43) : Option (Dt43 × Int × Unit) :=
 (r01_Cmp.F (a0, a1, ())).bind fun y1 =>
 let v2 := decide (y1.1 < (0 : Int))
 bif v2 then (some (zt43, (10 : Int), ()))
 else (let v3 := (List.length a0 : Int)
 bif decide (0 ≤ v3) && (decide (v3 ≤ v3) && (decide (Int.toNat v3 * 4 ≤ 281474976710656) && Nat.blt 0 4)) then (let v4 := List.replicate (Int.toNat v3) (0 : Int)
 f6 a0 a1 v4 (0 : Int) (0 : Int))
 else none)
def L6 (k : Nat) (x0 : Dt43) (x1 : Dt43) (x6 : Dt43) (x7 : Int) (x8 : Int) : Option (Dt43 × Int × Unit) := heads (spec.env cals T Tryz.f135) (Func.pts Tryz.f135) k 6 (m6 x0 x1 x6 x7 x8)
theorem L6_succ (k : Nat) (x0 : Dt43) (x1 : Dt43) (x6 : Dt43) (x7 : Int) (x8 : Int) : L6 (k + 1) x0 x1 x6 x7 x8 = b6 (L6 k) x0 x1 x6 x7 x8 := by kernel_rfl
theorem eval (k : Nat) (a0 : Dt43) (a1 : Dt43) : evalF spec cals T Tryz.f135 k (a0, a1, ()) = e (L6 k) a0 a1 := by kernel_rfl
theorem of (k : Nat) (a0 : Dt43) (a1 : Dt43) {y : Dt43 × Int × Unit} (h : e (L6 k) a0 a1 = some y) : F (a0, a1, ()) = some y := limF_of k ((eval k a0 a1).trans h)
end r01_Sub
namespace r01_Bit
def spec : Spec := ⟨[(false, Kt43), (false, (.int .i64))], [(false, .bool)], .own, fun j => match j with  | _ => []⟩
def cals : Cals := (Cals.base tabs)
def sig : Sig := spec.sig cals T Tryz.f158
def F (x : Dt43 × Int × Unit) : Option (Bool × Unit) := limF spec cals T Tryz.f158 x
theorem ck : CalsOk Tryz.prog cals := (CalsOk.base tabsOk)
theorem cal : CalOk Tryz.prog tabs 158 sig := calOk_lim' tabOk ck mix Tryz.func158 (by kernel_rfl) (by kernel_rfl) (by kernel_rfl) (by kernel_rfl)
def e  (a0 : Dt43) (a1 : Int) : Option (Bool × Unit) :=
 let v1 := decide (a1 ≥ (0 : Int))
 bif v1 then (bif decide ((32 : Int) = 0) then none
 else (let v2 := IntKind.i64.wrap (Int.tdiv a1 (32 : Int))
 let v3 := (List.length a0 : Int)
 let v4 := decide (v2 < v3)
 bif v4 then (bif decide ((32 : Int) = 0) then none
 else (let v5 := IntKind.i64.wrap (Int.tdiv a1 (32 : Int))
 bif decide (0 ≤ v5) && decide (v5 < (List.length a0 : Int)) then (let v6 := List.getD a0 (Int.toNat v5) (0 : Int)
 bif decide ((32 : Int) = 0) then none
 else (let v7 := Int.tmod a1 (32 : Int)
 let v8 := IntKind.u64.wrap v7
 bif decide (v8 < 0) then none
 else (let v9 := shrI .u32 v6 v8
 let v10 := bitsOp .and .u32 v9 (1 : Int)
 let v11 := (v10 == (1 : Int))
 some (v11, ()))))
 else none))
 else (some (false, ()))))
 else (some (false, ()))
theorem eval (k : Nat) (a0 : Dt43) (a1 : Int) : evalF spec cals T Tryz.f158 k (a0, a1, ()) = e  a0 a1 := by kernel_rfl
theorem of (k : Nat) (a0 : Dt43) (a1 : Int) {y : Bool × Unit} (h : e  a0 a1 = some y) : F (a0, a1, ()) = some y := limF_of k ((eval k a0 a1).trans h)
end r01_Bit
namespace r01_Shift
def spec : Spec := ⟨[(false, Kt43), (false, (.int .i64))], [(false, Kt43), (false, (.int .i64))], .own, fun j => match j with | 15 => [(0, .lf (.z 86 (.int .u32) false)), (6, .lf (.v true)), (7, .lf (.o 86 (.int .u32) true)), (8, .lf (.v true)), (9, .lf (.v true)), (10, .lf (.v true))] | _ => []⟩
def cals : Cals := (Cals.cons 125 r01_Norm.sig (Cals.base tabs))
def sig : Sig := spec.sig cals T Tryz.f159
def F (x : Dt43 × Int × Unit) : Option (Dt43 × Int × Unit) := limF spec cals T Tryz.f159 x
theorem ck : CalsOk Tryz.prog cals := (CalsOk.cons r01_Norm.cal (CalsOk.base tabsOk))
theorem cal : CalOk Tryz.prog tabs 159 sig := calOk_lim' tabOk ck mix Tryz.func159 (by kernel_rfl) (by kernel_rfl) (by kernel_rfl) (by kernel_rfl)
def m15 (x0 : Dt43) (x6 : Int) (x7 : Dt43) (x8 : Int) (x9 : Int) (x10 : Int) : S := ⟨[(0, .one (.lf (.val false Kt43 x0))), (6, .one (.lf (.val true (.int .i64) x6))), (7, .one (.lf (.own 0))), (8, .one (.lf (.val true (.int .i64) x8))), (9, .one (.lf (.val true (.int .i64) x9))), (10, .one (.lf (.val true (.int .i64) x10)))], ⟨[some ⟨86, (.int .u32), true, true, x7⟩], []⟩⟩
def b15 (f15 : Dt43 → Int → Dt43 → Int → Int → Int → Option (Dt43 × Int × Unit)) (x0 : Dt43) (x6 : Int) (x7 : Dt43) (x8 : Int) (x9 : Int) (x10 : Int) : Option (Dt43 × Int × Unit) :=
 let v1 := (List.length x0 : Int)
 let v2 := decide (x10 < v1)
 bif v2 then (bif decide (0 ≤ x10) && decide (x10 < (List.length x0 : Int)) then (let v3 := List.getD x0 (Int.toNat x10) (0 : Int)
 let v4 := IntKind.u64.wrap v3
 let v5 := IntKind.u64.wrap x9
 bif decide (v5 < 0) then none
 else (let v6 := shlI .u64 v4 v5
 let v7 := IntKind.i64.wrap (x10 + x8)
 let v8 := decide (v7 ≥ (0 : Int))
 bif v8 then (let v9 := IntKind.i64.wrap (x10 + x8)
 let v10 := decide (v9 < x6)
 bif v10 then (let v11 := IntKind.i64.wrap (x10 + x8)
 bif decide (0 ≤ v11) && decide (v11 < (List.length x7 : Int)) then (let v12 := List.getD x7 (Int.toNat v11) (0 : Int)
 let v13 := IntKind.u32.wrap v6
 let v14 := bitsOp .or .u32 v12 v13
 bif decide (0 ≤ v11) && decide (v11 < (List.length x7 : Int)) then (let v15 := List.set x7 (Int.toNat v11) v14
 let v16 := IntKind.i64.wrap (x10 + x8)
 let v17 := IntKind.i64.wrap (v16 + (1 : Int))
 let v18 := decide (v17 ≥ (0 : Int))
 bif v18 then (let v19 := IntKind.i64.wrap (x10 + x8)
 let v20 := IntKind.i64.wrap (v19 + (1 : Int))
 let v21 := decide (v20 < x6)
 bif v21 then (let v22 := IntKind.i64.wrap (x10 + x8)
 let v23 := IntKind.i64.wrap (v22 + (1 : Int))
 bif decide (0 ≤ v23) && decide (v23 < (List.length v15 : Int)) then (let v24 := List.getD v15 (Int.toNat v23) (0 : Int)
 bif decide ((32 : Int) < 0) then none
 else (let v25 := shrI .u64 v6 (32 : Int)
 let v26 := IntKind.u32.wrap v25
 let v27 := bitsOp .or .u32 v24 v26
 bif decide (0 ≤ v23) && decide (v23 < (List.length v15 : Int)) then (let v28 := List.set v15 (Int.toNat v23) v27
 let v29 := IntKind.i64.wrap (x10 + (1 : Int))
 f15 x0 x6 v28 x8 x9 v29)
 else none))
 else none)
 else (let v30 := IntKind.i64.wrap (x10 + (1 : Int))
 f15 x0 x6 v15 x8 x9 v30))
 else (let v31 := IntKind.i64.wrap (x10 + (1 : Int))
 f15 x0 x6 v15 x8 x9 v31))
 else none)
 else none)
 else (let v32 := IntKind.i64.wrap (x10 + x8)
 let v33 := IntKind.i64.wrap (v32 + (1 : Int))
 let v34 := decide (v33 ≥ (0 : Int))
 bif v34 then (let v35 := IntKind.i64.wrap (x10 + x8)
 let v36 := IntKind.i64.wrap (v35 + (1 : Int))
 let v37 := decide (v36 < x6)
 bif v37 then (let v38 := IntKind.i64.wrap (x10 + x8)
 let v39 := IntKind.i64.wrap (v38 + (1 : Int))
 bif decide (0 ≤ v39) && decide (v39 < (List.length x7 : Int)) then (let v40 := List.getD x7 (Int.toNat v39) (0 : Int)
 bif decide ((32 : Int) < 0) then none
 else (let v41 := shrI .u64 v6 (32 : Int)
 let v42 := IntKind.u32.wrap v41
 let v43 := bitsOp .or .u32 v40 v42
 bif decide (0 ≤ v39) && decide (v39 < (List.length x7 : Int)) then (let v44 := List.set x7 (Int.toNat v39) v43
 let v45 := IntKind.i64.wrap (x10 + (1 : Int))
 f15 x0 x6 v44 x8 x9 v45)
 else none))
 else none)
 else (let v46 := IntKind.i64.wrap (x10 + (1 : Int))
 f15 x0 x6 x7 x8 x9 v46))
 else (let v47 := IntKind.i64.wrap (x10 + (1 : Int))
 f15 x0 x6 x7 x8 x9 v47)))
 else (let v48 := IntKind.i64.wrap (x10 + x8)
 let v49 := IntKind.i64.wrap (v48 + (1 : Int))
 let v50 := decide (v49 ≥ (0 : Int))
 bif v50 then (let v51 := IntKind.i64.wrap (x10 + x8)
 let v52 := IntKind.i64.wrap (v51 + (1 : Int))
 let v53 := decide (v52 < x6)
 bif v53 then (let v54 := IntKind.i64.wrap (x10 + x8)
 let v55 := IntKind.i64.wrap (v54 + (1 : Int))
 bif decide (0 ≤ v55) && decide (v55 < (List.length x7 : Int)) then (let v56 := List.getD x7 (Int.toNat v55) (0 : Int)
 bif decide ((32 : Int) < 0) then none
 else (let v57 := shrI .u64 v6 (32 : Int)
 let v58 := IntKind.u32.wrap v57
 let v59 := bitsOp .or .u32 v56 v58
 bif decide (0 ≤ v55) && decide (v55 < (List.length x7 : Int)) then (let v60 := List.set x7 (Int.toNat v55) v59
 let v61 := IntKind.i64.wrap (x10 + (1 : Int))
 f15 x0 x6 v60 x8 x9 v61)
 else none))
 else none)
 else (let v62 := IntKind.i64.wrap (x10 + (1 : Int))
 f15 x0 x6 x7 x8 x9 v62))
 else (let v63 := IntKind.i64.wrap (x10 + (1 : Int))
 f15 x0 x6 x7 x8 x9 v63))))
 else none)
 else ((r01_Norm.F (x7, ())).bind fun y64 =>
 some (y64.1, (0 : Int), ()))
def e (f15 : Dt43 → Int → Dt43 → Int → Int → Int → Option (Dt43 × Int × Unit)) (a0 : Dt43) (a1 : Int) : Option (Dt43 × Int × Unit) :=
 let v1 := decide (a1 < (-1048576 : Int))
 bif v1 then (some (zt43, (12 : Int), ()))
 else (let v2 := decide (a1 > (1048576 : Int))
 bif v2 then (some (zt43, (12 : Int), ()))
 else ((r01_Norm.F (a0, ())).bind fun y3 =>
 let v4 := (List.length y3.1 : Int)
 let v5 := (v4 == (0 : Int))
 bif v5 then (let v6 := zt43
 some (v6, (0 : Int), ()))
 else (let v7 := (List.length a0 : Int)
 let v8 := decide (a1 > (0 : Int))
 bif v8 then (bif decide ((32 : Int) = 0) then none
 else (let v9 := IntKind.i64.wrap (Int.tdiv a1 (32 : Int))
 let v10 := IntKind.i64.wrap (v9 + (1 : Int))
 let v11 := IntKind.i64.wrap (v7 + v10)
 bif decide (0 ≤ v11) && (decide (v11 ≤ v11) && (decide (Int.toNat v11 * 4 ≤ 281474976710656) && Nat.blt 0 4)) then (let v12 := List.replicate (Int.toNat v11) (0 : Int)
 bif decide ((32 : Int) = 0) then none
 else (let v13 := IntKind.i64.wrap (Int.tdiv a1 (32 : Int))
 bif decide ((32 : Int) = 0) then none
 else (let v14 := Int.tmod a1 (32 : Int)
 let v15 := decide (v14 < (0 : Int))
 bif v15 then (let v16 := IntKind.i64.wrap (v13 - (1 : Int))
 let v17 := IntKind.i64.wrap (v14 + (32 : Int))
 f15 a0 v11 v12 v16 v17 (0 : Int))
 else (f15 a0 v11 v12 v13 v14 (0 : Int)))))
 else none))
 else (bif decide (0 ≤ v7) && (decide (v7 ≤ v7) && (decide (Int.toNat v7 * 4 ≤ 281474976710656) && Nat.blt 0 4)) then (let v18 := List.replicate (Int.toNat v7) (0 : Int)
 bif decide ((32 : Int) = 0) then none
 else (let v19 := IntKind.i64.wrap (Int.tdiv a1 (32 : Int))
 bif decide ((32 : Int) = 0) then none
 else (let v20 := Int.tmod a1 (32 : Int)
 let v21 := decide (v20 < (0 : Int))
 bif v21 then (let v22 := IntKind.i64.wrap (v19 - (1 : Int))
 let v23 := IntKind.i64.wrap (v20 + (32 : Int))
 f15 a0 v7 v18 v22 v23 (0 : Int))
 else (f15 a0 v7 v18 v19 v20 (0 : Int)))))
 else none))))
def L15 (k : Nat) (x0 : Dt43) (x6 : Int) (x7 : Dt43) (x8 : Int) (x9 : Int) (x10 : Int) : Option (Dt43 × Int × Unit) := heads (spec.env cals T Tryz.f159) (Func.pts Tryz.f159) k 15 (m15 x0 x6 x7 x8 x9 x10)
theorem L15_succ (k : Nat) (x0 : Dt43) (x6 : Int) (x7 : Dt43) (x8 : Int) (x9 : Int) (x10 : Int) : L15 (k + 1) x0 x6 x7 x8 x9 x10 = b15 (L15 k) x0 x6 x7 x8 x9 x10 := by kernel_rfl
theorem eval (k : Nat) (a0 : Dt43) (a1 : Int) : evalF spec cals T Tryz.f159 k (a0, a1, ()) = e (L15 k) a0 a1 := by kernel_rfl
theorem of (k : Nat) (a0 : Dt43) (a1 : Int) {y : Dt43 × Int × Unit} (h : e (L15 k) a0 a1 = some y) : F (a0, a1, ()) = some y := limF_of k ((eval k a0 a1).trans h)
end r01_Shift
namespace r01_twice
def spec : Spec := ⟨[(false, Kt43), (false, .bool)], [(false, Kt43)], .own, fun j => match j with | 6 => [(0, .lf (.z 86 (.int .u32) false)), (5, .lf (.o 86 (.int .u32) true)), (6, .lf (.v true)), (7, .lf (.v true))] | _ => []⟩
def cals : Cals := (Cals.cons 125 r01_Norm.sig (Cals.base tabs))
def sig : Sig := spec.sig cals T Tryz.f160
def F (x : Dt43 × Bool × Unit) : Option (Dt43 × Unit) := limF spec cals T Tryz.f160 x
theorem ck : CalsOk Tryz.prog cals := (CalsOk.cons r01_Norm.cal (CalsOk.base tabsOk))
theorem cal : CalOk Tryz.prog tabs 160 sig := calOk_lim' tabOk ck mix Tryz.func160 (by kernel_rfl) (by kernel_rfl) (by kernel_rfl) (by kernel_rfl)
def m6 (x0 : Dt43) (x5 : Dt43) (x6 : Int) (x7 : Int) : S := ⟨[(0, .one (.lf (.val false Kt43 x0))), (5, .one (.lf (.own 0))), (6, .one (.lf (.val true (.int .u32) x6))), (7, .one (.lf (.val true (.int .i64) x7)))], ⟨[some ⟨86, (.int .u32), true, true, x5⟩], []⟩⟩
def b6 (f6 : Dt43 → Dt43 → Int → Int → Option (Dt43 × Unit)) (x0 : Dt43) (x5 : Dt43) (x6 : Int) (x7 : Int) : Option (Dt43 × Unit) :=
 let v1 := (List.length x0 : Int)
 let v2 := decide (x7 < v1)
 bif v2 then (bif decide (0 ≤ x7) && decide (x7 < (List.length x0 : Int)) then (let v3 := List.getD x0 (Int.toNat x7) (0 : Int)
 bif decide ((1 : Int) < 0) then none
 else (let v4 := shlI .u32 v3 (1 : Int)
 let v5 := bitsOp .or .u32 v4 x6
 bif decide (0 ≤ x7) && decide (x7 < (List.length x5 : Int)) then (let v6 := List.set x5 (Int.toNat x7) v5
 bif decide (0 ≤ x7) && decide (x7 < (List.length x0 : Int)) then (let v7 := List.getD x0 (Int.toNat x7) (0 : Int)
 bif decide ((31 : Int) < 0) then none
 else (let v8 := shrI .u32 v7 (31 : Int)
 let v9 := IntKind.i64.wrap (x7 + (1 : Int))
 f6 x0 v6 v8 v9))
 else none)
 else none))
 else none)
 else (let v10 := (List.length x0 : Int)
 bif decide (0 ≤ v10) && decide (v10 < (List.length x5 : Int)) then (let v11 := List.set x5 (Int.toNat v10) x6
 (r01_Norm.F (v11, ())).bind fun y12 =>
 some (y12.1, ()))
 else none)
def e (f6 : Dt43 → Dt43 → Int → Int → Option (Dt43 × Unit)) (a0 : Dt43) (a1 : Bool) : Option (Dt43 × Unit) :=
 let v1 := (List.length a0 : Int)
 let v2 := IntKind.i64.wrap (v1 + (1 : Int))
 bif decide (0 ≤ v2) && (decide (v2 ≤ v2) && (decide (Int.toNat v2 * 4 ≤ 281474976710656) && Nat.blt 0 4)) then (let v3 := List.replicate (Int.toNat v2) (0 : Int)
 bif a1 then (f6 a0 v3 (1 : Int) (0 : Int))
 else (f6 a0 v3 (0 : Int) (0 : Int)))
 else none
def L6 (k : Nat) (x0 : Dt43) (x5 : Dt43) (x6 : Int) (x7 : Int) : Option (Dt43 × Unit) := heads (spec.env cals T Tryz.f160) (Func.pts Tryz.f160) k 6 (m6 x0 x5 x6 x7)
theorem L6_succ (k : Nat) (x0 : Dt43) (x5 : Dt43) (x6 : Int) (x7 : Int) : L6 (k + 1) x0 x5 x6 x7 = b6 (L6 k) x0 x5 x6 x7 := by kernel_rfl
theorem eval (k : Nat) (a0 : Dt43) (a1 : Bool) : evalF spec cals T Tryz.f160 k (a0, a1, ()) = e (L6 k) a0 a1 := by kernel_rfl
theorem of (k : Nat) (a0 : Dt43) (a1 : Bool) {y : Dt43 × Unit} (h : e (L6 k) a0 a1 = some y) : F (a0, a1, ()) = some y := limF_of k ((eval k a0 a1).trans h)
end r01_twice
namespace r01_Gcd
def spec : Spec := ⟨[(false, Kt43), (false, Kt43)], [(false, Kt43)], .own, fun j => match j with | 11 => [(0, .lf (.o 86 (.int .u32) true)), (1, .lf (.o 86 (.int .u32) true)), (6, .lf (.v true))] | 15 => [(0, .lf (.o 86 (.int .u32) true)), (1, .lf (.o 86 (.int .u32) true)), (6, .lf (.v true))] | 16 => [(0, .lf (.o 86 (.int .u32) true)), (1, .lf (.o 86 (.int .u32) true)), (6, .lf (.v true))] | 18 => [(0, .lf (.o 86 (.int .u32) true)), (1, .lf (.o 86 (.int .u32) true)), (6, .lf (.v true))] | 24 => [(0, .lf (.o 86 (.int .u32) true)), (6, .lf (.v true)), (7, .lf (.v true))] | _ => []⟩
def cals : Cals := (Cals.cons 125 r01_Norm.sig (Cals.cons 134 r01_Cmp.sig (Cals.cons 158 r01_Bit.sig (Cals.cons 159 r01_Shift.sig (Cals.cons 135 r01_Sub.sig (Cals.cons 160 r01_twice.sig (Cals.base tabs)))))))
def sig : Sig := spec.sig cals T Tryz.f122
def F (x : Dt43 × Dt43 × Unit) : Option (Dt43 × Unit) := limF spec cals T Tryz.f122 x
theorem ck : CalsOk Tryz.prog cals := (CalsOk.cons r01_Norm.cal (CalsOk.cons r01_Cmp.cal (CalsOk.cons r01_Bit.cal (CalsOk.cons r01_Shift.cal (CalsOk.cons r01_Sub.cal (CalsOk.cons r01_twice.cal (CalsOk.base tabsOk)))))))
theorem cal : CalOk Tryz.prog tabs 122 sig := calOk_lim' tabOk ck mix Tryz.func122 (by kernel_rfl) (by kernel_rfl) (by kernel_rfl) (by kernel_rfl)
def m11 (x0 : Dt43) (x1 : Dt43) (x6 : Int) : S := ⟨[(0, .one (.lf (.own 0))), (1, .one (.lf (.own 1))), (6, .one (.lf (.val true (.int .i64) x6)))], ⟨[some ⟨86, (.int .u32), true, true, x0⟩, some ⟨86, (.int .u32), true, true, x1⟩], []⟩⟩
def m15 (x0 : Dt43) (x1 : Dt43) (x6 : Int) : S := ⟨[(0, .one (.lf (.own 0))), (1, .one (.lf (.own 1))), (6, .one (.lf (.val true (.int .i64) x6)))], ⟨[some ⟨86, (.int .u32), true, true, x0⟩, some ⟨86, (.int .u32), true, true, x1⟩], []⟩⟩
def m16 (x0 : Dt43) (x1 : Dt43) (x6 : Int) : S := ⟨[(0, .one (.lf (.own 0))), (1, .one (.lf (.own 1))), (6, .one (.lf (.val true (.int .i64) x6)))], ⟨[some ⟨86, (.int .u32), true, true, x0⟩, some ⟨86, (.int .u32), true, true, x1⟩], []⟩⟩
def m18 (x0 : Dt43) (x1 : Dt43) (x6 : Int) : S := ⟨[(0, .one (.lf (.own 0))), (1, .one (.lf (.own 1))), (6, .one (.lf (.val true (.int .i64) x6)))], ⟨[some ⟨86, (.int .u32), true, true, x0⟩, some ⟨86, (.int .u32), true, true, x1⟩], []⟩⟩
def m24 (x0 : Dt43) (x6 : Int) (x7 : Int) : S := ⟨[(0, .one (.lf (.own 0))), (6, .one (.lf (.val true (.int .i64) x6))), (7, .one (.lf (.val true (.int .i64) x7)))], ⟨[some ⟨86, (.int .u32), true, true, x0⟩], []⟩⟩
def b11 (f11 : Dt43 → Dt43 → Int → Option (Dt43 × Unit)) (f15 : Dt43 → Dt43 → Int → Option (Dt43 × Unit)) (f16 : Dt43 → Dt43 → Int → Option (Dt43 × Unit)) (f18 : Dt43 → Dt43 → Int → Option (Dt43 × Unit)) (f24 : Dt43 → Int → Int → Option (Dt43 × Unit)) (x0 : Dt43) (x1 : Dt43) (x6 : Int) : Option (Dt43 × Unit) :=
 (r01_Bit.F (x0, (0 : Int), ())).bind fun y1 =>
 let v2 := not y1.1
 bif v2 then ((r01_Bit.F (x1, (0 : Int), ())).bind fun y3 =>
 let v4 := not y3.1
 bif v4 then ((r01_Shift.F (x0, (-1 : Int), ())).bind fun y5 =>
 (r01_Shift.F (x1, (-1 : Int), ())).bind fun y6 =>
 let v7 := IntKind.i64.wrap (x6 + (1 : Int))
 f11 y5.1 y6.1 v7)
 else (f15 x0 x1 x6))
 else (f15 x0 x1 x6)
def b15 (f11 : Dt43 → Dt43 → Int → Option (Dt43 × Unit)) (f15 : Dt43 → Dt43 → Int → Option (Dt43 × Unit)) (f16 : Dt43 → Dt43 → Int → Option (Dt43 × Unit)) (f18 : Dt43 → Dt43 → Int → Option (Dt43 × Unit)) (f24 : Dt43 → Int → Int → Option (Dt43 × Unit)) (x0 : Dt43) (x1 : Dt43) (x6 : Int) : Option (Dt43 × Unit) :=
 let v1 := (List.length x1 : Int)
 let v2 := decide (v1 > (0 : Int))
 bif v2 then (f16 x0 x1 x6)
 else (f24 x0 x6 (0 : Int))
def b16 (f11 : Dt43 → Dt43 → Int → Option (Dt43 × Unit)) (f15 : Dt43 → Dt43 → Int → Option (Dt43 × Unit)) (f16 : Dt43 → Dt43 → Int → Option (Dt43 × Unit)) (f18 : Dt43 → Dt43 → Int → Option (Dt43 × Unit)) (f24 : Dt43 → Int → Int → Option (Dt43 × Unit)) (x0 : Dt43) (x1 : Dt43) (x6 : Int) : Option (Dt43 × Unit) :=
 (r01_Bit.F (x0, (0 : Int), ())).bind fun y1 =>
 let v2 := not y1.1
 bif v2 then ((r01_Shift.F (x0, (-1 : Int), ())).bind fun y3 =>
 f16 y3.1 x1 x6)
 else (f18 x0 x1 x6)
def b18 (f11 : Dt43 → Dt43 → Int → Option (Dt43 × Unit)) (f15 : Dt43 → Dt43 → Int → Option (Dt43 × Unit)) (f16 : Dt43 → Dt43 → Int → Option (Dt43 × Unit)) (f18 : Dt43 → Dt43 → Int → Option (Dt43 × Unit)) (f24 : Dt43 → Int → Int → Option (Dt43 × Unit)) (x0 : Dt43) (x1 : Dt43) (x6 : Int) : Option (Dt43 × Unit) :=
 (r01_Bit.F (x1, (0 : Int), ())).bind fun y1 =>
 let v2 := not y1.1
 bif v2 then ((r01_Shift.F (x1, (-1 : Int), ())).bind fun y3 =>
 f18 x0 y3.1 x6)
 else ((r01_Cmp.F (x0, x1, ())).bind fun y4 =>
 let v5 := decide (y4.1 > (0 : Int))
 bif v5 then ((r01_Sub.F (x0, x1, ())).bind fun y6 =>
 f15 x1 y6.1 x6)
 else ((r01_Sub.F (x1, x0, ())).bind fun y7 =>
 f15 x0 y7.1 x6))
def b24 (f11 : Dt43 → Dt43 → Int → Option (Dt43 × Unit)) (f15 : Dt43 → Dt43 → Int → Option (Dt43 × Unit)) (f16 : Dt43 → Dt43 → Int → Option (Dt43 × Unit)) (f18 : Dt43 → Dt43 → Int → Option (Dt43 × Unit)) (f24 : Dt43 → Int → Int → Option (Dt43 × Unit)) (x0 : Dt43) (x6 : Int) (x7 : Int) : Option (Dt43 × Unit) :=
 let v1 := decide (x7 < x6)
 bif v1 then ((r01_twice.F (x0, false, ())).bind fun y2 =>
 let v3 := IntKind.i64.wrap (x7 + (1 : Int))
 f24 y2.1 x6 v3)
 else (some (x0, ()))
def e (f11 : Dt43 → Dt43 → Int → Option (Dt43 × Unit)) (f15 : Dt43 → Dt43 → Int → Option (Dt43 × Unit)) (f16 : Dt43 → Dt43 → Int → Option (Dt43 × Unit)) (f18 : Dt43 → Dt43 → Int → Option (Dt43 × Unit)) (f24 : Dt43 → Int → Int → Option (Dt43 × Unit)) (a0 : Dt43) (a1 : Dt43) : Option (Dt43 × Unit) :=
 (r01_Norm.F (a0, ())).bind fun y1 =>
 (r01_Norm.F (a1, ())).bind fun y2 =>
 let v3 := (List.length y1.1 : Int)
 let v4 := (v3 == (0 : Int))
 bif v4 then (some (y2.1, ()))
 else (let v5 := (List.length y2.1 : Int)
 let v6 := (v5 == (0 : Int))
 bif v6 then (some (y1.1, ()))
 else (let v7 := ([(1 : Int)] : List Int)
 (r01_Cmp.F (y1.1, v7, ())).bind fun y8 =>
 let v9 := (y8.1 == (0 : Int))
 bif v9 then (some (v7, ()))
 else ((r01_Cmp.F (y2.1, v7, ())).bind fun y10 =>
 let v11 := (y10.1 == (0 : Int))
 bif v11 then (some (v7, ()))
 else (f11 y1.1 y2.1 (0 : Int)))))
def L11 (k : Nat) (x0 : Dt43) (x1 : Dt43) (x6 : Int) : Option (Dt43 × Unit) := heads (spec.env cals T Tryz.f122) (Func.pts Tryz.f122) k 11 (m11 x0 x1 x6)
def L15 (k : Nat) (x0 : Dt43) (x1 : Dt43) (x6 : Int) : Option (Dt43 × Unit) := heads (spec.env cals T Tryz.f122) (Func.pts Tryz.f122) k 15 (m15 x0 x1 x6)
def L16 (k : Nat) (x0 : Dt43) (x1 : Dt43) (x6 : Int) : Option (Dt43 × Unit) := heads (spec.env cals T Tryz.f122) (Func.pts Tryz.f122) k 16 (m16 x0 x1 x6)
def L18 (k : Nat) (x0 : Dt43) (x1 : Dt43) (x6 : Int) : Option (Dt43 × Unit) := heads (spec.env cals T Tryz.f122) (Func.pts Tryz.f122) k 18 (m18 x0 x1 x6)
def L24 (k : Nat) (x0 : Dt43) (x6 : Int) (x7 : Int) : Option (Dt43 × Unit) := heads (spec.env cals T Tryz.f122) (Func.pts Tryz.f122) k 24 (m24 x0 x6 x7)
theorem L11_succ (k : Nat) (x0 : Dt43) (x1 : Dt43) (x6 : Int) : L11 (k + 1) x0 x1 x6 = b11 (L11 k) (L15 k) (L16 k) (L18 k) (L24 k) x0 x1 x6 := by kernel_rfl
theorem L15_succ (k : Nat) (x0 : Dt43) (x1 : Dt43) (x6 : Int) : L15 (k + 1) x0 x1 x6 = b15 (L11 k) (L15 k) (L16 k) (L18 k) (L24 k) x0 x1 x6 := by kernel_rfl
theorem L16_succ (k : Nat) (x0 : Dt43) (x1 : Dt43) (x6 : Int) : L16 (k + 1) x0 x1 x6 = b16 (L11 k) (L15 k) (L16 k) (L18 k) (L24 k) x0 x1 x6 := by kernel_rfl
theorem L18_succ (k : Nat) (x0 : Dt43) (x1 : Dt43) (x6 : Int) : L18 (k + 1) x0 x1 x6 = b18 (L11 k) (L15 k) (L16 k) (L18 k) (L24 k) x0 x1 x6 := by kernel_rfl
theorem L24_succ (k : Nat) (x0 : Dt43) (x6 : Int) (x7 : Int) : L24 (k + 1) x0 x6 x7 = b24 (L11 k) (L15 k) (L16 k) (L18 k) (L24 k) x0 x6 x7 := by kernel_rfl
theorem eval (k : Nat) (a0 : Dt43) (a1 : Dt43) : evalF spec cals T Tryz.f122 k (a0, a1, ()) = e (L11 k) (L15 k) (L16 k) (L18 k) (L24 k) a0 a1 := by kernel_rfl
theorem of (k : Nat) (a0 : Dt43) (a1 : Dt43) {y : Dt43 × Unit} (h : e (L11 k) (L15 k) (L16 k) (L18 k) (L24 k) a0 a1 = some y) : F (a0, a1, ()) = some y := limF_of k ((eval k a0 a1).trans h)
end r01_Gcd
namespace r02_made
def spec : Spec := ⟨[(false, .bool), (false, Kt43)], [(true, Kt45)], .own, fun j => match j with  | _ => []⟩
def cals : Cals := (Cals.cons 125 r01_Norm.sig (Cals.base tabs))
def sig : Sig := spec.sig cals T Tryz.f127
def F (x : Bool × Dt43 × Unit) : Option (Dt45 × Unit) := limF spec cals T Tryz.f127 x
theorem ck : CalsOk Tryz.prog cals := (CalsOk.cons r01_Norm.cal (CalsOk.base tabsOk))
theorem cal : CalOk Tryz.prog tabs 127 sig := calOk_lim' tabOk ck mix Tryz.func127 (by kernel_rfl) (by kernel_rfl) (by kernel_rfl) (by kernel_rfl)
def e  (a0 : Bool) (a1 : Dt43) : Option (Dt45 × Unit) :=
 (r01_Norm.F (a1, ())).bind fun y1 =>
 bif a0 then (let v2 := (List.length y1.1 : Int)
 let v3 := decide (v2 > (0 : Int))
 some ((v3, y1.1), ()))
 else (some ((false, y1.1), ()))
theorem eval (k : Nat) (a0 : Bool) (a1 : Dt43) : evalF spec cals T Tryz.f127 k (a0, a1, ()) = e  a0 a1 := by kernel_rfl
theorem of (k : Nat) (a0 : Bool) (a1 : Dt43) {y : Dt45 × Unit} (h : e  a0 a1 = some y) : F (a0, a1, ()) = some y := limF_of k ((eval k a0 a1).trans h)
end r02_made
namespace r02_Norm
def spec : Spec := ⟨[(true, Kt45)], [(true, Kt45)], .own, fun j => match j with  | _ => []⟩
def cals : Cals := (Cals.cons 127 r02_made.sig (Cals.base tabs))
def sig : Sig := spec.sig cals T Tryz.f124
def F (x : Dt45 × Unit) : Option (Dt45 × Unit) := limF spec cals T Tryz.f124 x
theorem ck : CalsOk Tryz.prog cals := (CalsOk.cons r02_made.cal (CalsOk.base tabsOk))
theorem cal : CalOk Tryz.prog tabs 124 sig := calOk_lim' tabOk ck mix Tryz.func124 (by kernel_rfl) (by kernel_rfl) (by kernel_rfl) (by kernel_rfl)
def e  (a0 : Dt45) : Option (Dt45 × Unit) :=
 (r02_made.F (a0.1, a0.2, ())).bind fun y1 =>
 some ((y1.1.1, y1.1.2), ())
theorem eval (k : Nat) (a0 : Dt45) : evalF spec cals T Tryz.f124 k (a0, ()) = e  a0 := by kernel_rfl
theorem of (k : Nat) (a0 : Dt45) {y : Dt45 × Unit} (h : e  a0 = some y) : F (a0, ()) = some y := limF_of k ((eval k a0).trans h)
end r02_Norm
namespace r01_Div
def spec : Spec := ⟨[(false, Kt43), (false, Kt43)], [(false, Kt43), (false, Kt43), (false, (.int .i64))], .own, fun j => match j with | 11 => [(0, .lf (.z 86 (.int .u32) true)), (1, .lf (.o 86 (.int .u32) true)), (7, .lf (.o 86 (.int .u32) true)), (9, .lf (.o 86 (.int .u32) true)), (10, .lf (.v true))] | _ => []⟩
def cals : Cals := (Cals.cons 125 r01_Norm.sig (Cals.cons 158 r01_Bit.sig (Cals.cons 160 r01_twice.sig (Cals.cons 134 r01_Cmp.sig (Cals.cons 135 r01_Sub.sig (Cals.base tabs))))))
def sig : Sig := spec.sig cals T Tryz.f126
def F (x : Dt43 × Dt43 × Unit) : Option (Dt43 × Dt43 × Int × Unit) := limF spec cals T Tryz.f126 x
theorem ck : CalsOk Tryz.prog cals := (CalsOk.cons r01_Norm.cal (CalsOk.cons r01_Bit.cal (CalsOk.cons r01_twice.cal (CalsOk.cons r01_Cmp.cal (CalsOk.cons r01_Sub.cal (CalsOk.base tabsOk))))))
theorem cal : CalOk Tryz.prog tabs 126 sig := calOk_lim' tabOk ck mix Tryz.func126 (by kernel_rfl) (by kernel_rfl) (by kernel_rfl) (by kernel_rfl)
def m11 (x0 : Dt43) (x1 : Dt43) (x7 : Dt43) (x9 : Dt43) (x10 : Int) : S := ⟨[(0, .one (.lf (.val true Kt43 x0))), (1, .one (.lf (.own 0))), (7, .one (.lf (.own 1))), (9, .one (.lf (.own 2))), (10, .one (.lf (.val true (.int .i64) x10)))], ⟨[some ⟨86, (.int .u32), true, true, x1⟩, some ⟨86, (.int .u32), true, true, x7⟩, some ⟨86, (.int .u32), true, true, x9⟩], []⟩⟩
def b11 (f11 : Dt43 → Dt43 → Dt43 → Dt43 → Int → Option (Dt43 × Dt43 × Int × Unit)) (x0 : Dt43) (x1 : Dt43) (x7 : Dt43) (x9 : Dt43) (x10 : Int) : Option (Dt43 × Dt43 × Int × Unit) :=
 let v1 := decide (x10 ≥ (0 : Int))
 bif v1 then ((r01_Bit.F (x0, x10, ())).bind fun y2 =>
 (r01_twice.F (x9, y2.1, ())).bind fun y3 =>
 (r01_Cmp.F (y3.1, x1, ())).bind fun y4 =>
 let v5 := decide (y4.1 ≥ (0 : Int))
 bif v5 then ((r01_Sub.F (y3.1, x1, ())).bind fun y6 =>
 bif decide ((32 : Int) = 0) then none
 else (let v7 := IntKind.i64.wrap (Int.tdiv x10 (32 : Int))
 bif decide (0 ≤ v7) && decide (v7 < (List.length x7 : Int)) then (let v8 := List.getD x7 (Int.toNat v7) (0 : Int)
 bif decide ((32 : Int) = 0) then none
 else (let v9 := Int.tmod x10 (32 : Int)
 let v10 := IntKind.u64.wrap v9
 bif decide (v10 < 0) then none
 else (let v11 := shlI .u32 (1 : Int) v10
 let v12 := bitsOp .or .u32 v8 v11
 bif decide (0 ≤ v7) && decide (v7 < (List.length x7 : Int)) then (let v13 := List.set x7 (Int.toNat v7) v12
 let v14 := IntKind.i64.wrap (x10 - (1 : Int))
 f11 x0 x1 v13 y6.1 v14)
 else none)))
 else none))
 else (let v15 := IntKind.i64.wrap (x10 - (1 : Int))
 f11 x0 x1 x7 y3.1 v15))
 else ((r01_Norm.F (x7, ())).bind fun y16 =>
 some (y16.1, x9, (0 : Int), ()))
def e (f11 : Dt43 → Dt43 → Dt43 → Dt43 → Int → Option (Dt43 × Dt43 × Int × Unit)) (a0 : Dt43) (a1 : Dt43) : Option (Dt43 × Dt43 × Int × Unit) :=
 (r01_Norm.F (a1, ())).bind fun y1 =>
 let v2 := (List.length y1.1 : Int)
 let v3 := (v2 == (0 : Int))
 bif v3 then (some (zt43, zt43, (11 : Int), ()))
 else ((r01_Norm.F (a0, ())).bind fun y4 =>
 let v5 := (List.length y4.1 : Int)
 bif decide (0 ≤ v5) && (decide (v5 ≤ v5) && (decide (Int.toNat v5 * 4 ≤ 281474976710656) && Nat.blt 0 4)) then (let v6 := List.replicate (Int.toNat v5) (0 : Int)
 let v7 := (List.length y1.1 : Int)
 let v8 := IntKind.i64.wrap (v7 - (1 : Int))
 let v9 := (List.length y4.1 : Int)
 let v10 := decide (v8 > v9)
 bif v10 then (let v11 := (List.length y4.1 : Int)
 let v12 := (List.length y4.1 : Int)
 let v13 := IntKind.i64.wrap (v12 - v11)
 bif decide (0 ≤ v13) && decide (v13 ≤ (List.length y4.1 : Int)) then (let v14 := List.drop (Int.toNat v13) y4.1
 (r01_Norm.F (v14, ())).bind fun y15 =>
 let v16 := (List.length y4.1 : Int)
 let v17 := IntKind.i64.wrap (v16 - v11)
 let v18 := IntKind.i64.wrap ((32 : Int) * v17)
 let v19 := IntKind.i64.wrap (v18 - (1 : Int))
 f11 y4.1 y1.1 v6 y15.1 v19)
 else none)
 else (let v20 := (List.length y4.1 : Int)
 let v21 := IntKind.i64.wrap (v20 - v8)
 bif decide (0 ≤ v21) && decide (v21 ≤ (List.length y4.1 : Int)) then (let v22 := List.drop (Int.toNat v21) y4.1
 (r01_Norm.F (v22, ())).bind fun y23 =>
 let v24 := (List.length y4.1 : Int)
 let v25 := IntKind.i64.wrap (v24 - v8)
 let v26 := IntKind.i64.wrap ((32 : Int) * v25)
 let v27 := IntKind.i64.wrap (v26 - (1 : Int))
 f11 y4.1 y1.1 v6 y23.1 v27)
 else none))
 else none)
def L11 (k : Nat) (x0 : Dt43) (x1 : Dt43) (x7 : Dt43) (x9 : Dt43) (x10 : Int) : Option (Dt43 × Dt43 × Int × Unit) := heads (spec.env cals T Tryz.f126) (Func.pts Tryz.f126) k 11 (m11 x0 x1 x7 x9 x10)
theorem L11_succ (k : Nat) (x0 : Dt43) (x1 : Dt43) (x7 : Dt43) (x9 : Dt43) (x10 : Int) : L11 (k + 1) x0 x1 x7 x9 x10 = b11 (L11 k) x0 x1 x7 x9 x10 := by kernel_rfl
theorem eval (k : Nat) (a0 : Dt43) (a1 : Dt43) : evalF spec cals T Tryz.f126 k (a0, a1, ()) = e (L11 k) a0 a1 := by kernel_rfl
theorem of (k : Nat) (a0 : Dt43) (a1 : Dt43) {y : Dt43 × Dt43 × Int × Unit} (h : e (L11 k) a0 a1 = some y) : F (a0, a1, ()) = some y := limF_of k ((eval k a0 a1).trans h)
end r01_Div
namespace r03_Norm
def spec : Spec := ⟨[(true, Kt47)], [(true, Kt47)], .own, fun j => match j with  | _ => []⟩
def cals : Cals := (Cals.cons 124 r02_Norm.sig (Cals.cons 125 r01_Norm.sig (Cals.cons 122 r01_Gcd.sig (Cals.cons 126 r01_Div.sig (Cals.base tabs)))))
def sig : Sig := spec.sig cals T Tryz.f77
def F (x : Dt47 × Unit) : Option (Dt47 × Unit) := limF spec cals T Tryz.f77 x
theorem ck : CalsOk Tryz.prog cals := (CalsOk.cons r02_Norm.cal (CalsOk.cons r01_Norm.cal (CalsOk.cons r01_Gcd.cal (CalsOk.cons r01_Div.cal (CalsOk.base tabsOk)))))
theorem cal : CalOk Tryz.prog tabs 77 sig := calOk_lim' tabOk ck mix Tryz.func77 (by kernel_rfl) (by kernel_rfl) (by kernel_rfl) (by kernel_rfl)
def e  (a0 : Dt47) : Option (Dt47 × Unit) :=
 (r02_Norm.F ((a0.1.1, a0.1.2), ())).bind fun y1 =>
 (r01_Norm.F (a0.2, ())).bind fun y2 =>
 let v3 := (List.length y2.1 : Int)
 let v4 := (v3 == (0 : Int))
 bif v4 then (let v5 := ([(1 : Int)] : List Int)
 some ((zt45, v5), ()))
 else (let v6 := (List.length y1.1.2 : Int)
 let v7 := (v6 == (0 : Int))
 bif v7 then (let v8 := ([(1 : Int)] : List Int)
 some ((zt45, v8), ()))
 else ((r01_Gcd.F (y1.1.2, y2.1, ())).bind fun y9 =>
 (r01_Div.F (y1.1.2, y9.1, ())).bind fun y10 =>
 (r01_Div.F (y2.1, y9.1, ())).bind fun y11 =>
 some (((y1.1.1, y10.1), y11.1), ())))
theorem eval (k : Nat) (a0 : Dt47) : evalF spec cals T Tryz.f77 k (a0, ()) = e  a0 := by kernel_rfl
theorem of (k : Nat) (a0 : Dt47) {y : Dt47 × Unit} (h : e  a0 = some y) : F (a0, ()) = some y := limF_of k ((eval k a0).trans h)
end r03_Norm
namespace r01_Of
def spec : Spec := ⟨[(false, (.int .u64))], [(false, Kt43)], .own, fun j => match j with  | _ => []⟩
def cals : Cals := (Cals.cons 125 r01_Norm.sig (Cals.base tabs))
def sig : Sig := spec.sig cals T Tryz.f136
def F (x : Int × Unit) : Option (Dt43 × Unit) := limF spec cals T Tryz.f136 x
theorem ck : CalsOk Tryz.prog cals := (CalsOk.cons r01_Norm.cal (CalsOk.base tabsOk))
theorem cal : CalOk Tryz.prog tabs 136 sig := calOk_lim' tabOk ck mix Tryz.func136 (by kernel_rfl) (by kernel_rfl) (by kernel_rfl) (by kernel_rfl)
def e  (a0 : Int) : Option (Dt43 × Unit) :=
 let v1 := IntKind.u32.wrap a0
 bif decide ((32 : Int) < 0) then none
 else (let v2 := shrI .u64 a0 (32 : Int)
 let v3 := IntKind.u32.wrap v2
 let v4 := ([v1, v3] : List Int)
 (r01_Norm.F (v4, ())).bind fun y5 =>
 some (y5.1, ()))
theorem eval (k : Nat) (a0 : Int) : evalF spec cals T Tryz.f136 k (a0, ()) = e  a0 := by kernel_rfl
theorem of (k : Nat) (a0 : Int) {y : Dt43 × Unit} (h : e  a0 = some y) : F (a0, ()) = some y := limF_of k ((eval k a0).trans h)
end r01_Of
namespace r02_Of
def spec : Spec := ⟨[(false, (.int .i64))], [(true, Kt45)], .own, fun j => match j with  | _ => []⟩
def cals : Cals := (Cals.cons 136 r01_Of.sig (Cals.cons 127 r02_made.sig (Cals.base tabs)))
def sig : Sig := spec.sig cals T Tryz.f92
def F (x : Int × Unit) : Option (Dt45 × Unit) := limF spec cals T Tryz.f92 x
theorem ck : CalsOk Tryz.prog cals := (CalsOk.cons r01_Of.cal (CalsOk.cons r02_made.cal (CalsOk.base tabsOk)))
theorem cal : CalOk Tryz.prog tabs 92 sig := calOk_lim' tabOk ck mix Tryz.func92 (by kernel_rfl) (by kernel_rfl) (by kernel_rfl) (by kernel_rfl)
def e  (a0 : Int) : Option (Dt45 × Unit) :=
 let v1 := decide (a0 < (0 : Int))
 bif v1 then (let v2 := IntKind.u64.wrap a0
 let v3 := IntKind.u64.wrap ((0 : Int) - v2)
 (r01_Of.F (v3, ())).bind fun y4 =>
 (r02_made.F (true, y4.1, ())).bind fun y5 =>
 some ((y5.1.1, y5.1.2), ()))
 else (let v6 := IntKind.u64.wrap a0
 (r01_Of.F (v6, ())).bind fun y7 =>
 (r02_made.F (false, y7.1, ())).bind fun y8 =>
 some ((y8.1.1, y8.1.2), ()))
theorem eval (k : Nat) (a0 : Int) : evalF spec cals T Tryz.f92 k (a0, ()) = e  a0 := by kernel_rfl
theorem of (k : Nat) (a0 : Int) {y : Dt45 × Unit} (h : e  a0 = some y) : F (a0, ()) = some y := limF_of k ((eval k a0).trans h)
end r02_Of
namespace r03_Whole
def spec : Spec := ⟨[(false, (.int .i64))], [(true, Kt47)], .own, fun j => match j with  | _ => []⟩
def cals : Cals := (Cals.cons 92 r02_Of.sig (Cals.cons 77 r03_Norm.sig (Cals.base tabs)))
def sig : Sig := spec.sig cals T Tryz.f47
def F (x : Int × Unit) : Option (Dt47 × Unit) := limF spec cals T Tryz.f47 x
theorem ck : CalsOk Tryz.prog cals := (CalsOk.cons r02_Of.cal (CalsOk.cons r03_Norm.cal (CalsOk.base tabsOk)))
theorem cal : CalOk Tryz.prog tabs 47 sig := calOk_lim' tabOk ck mix Tryz.func47 (by kernel_rfl) (by kernel_rfl) (by kernel_rfl) (by kernel_rfl)
def e  (a0 : Int) : Option (Dt47 × Unit) :=
 (r02_Of.F (a0, ())).bind fun y1 =>
 let v2 := ([(1 : Int)] : List Int)
 (r03_Norm.F (((y1.1.1, y1.1.2), v2), ())).bind fun y3 =>
 some (((y3.1.1.1, y3.1.1.2), y3.1.2), ())
theorem eval (k : Nat) (a0 : Int) : evalF spec cals T Tryz.f47 k (a0, ()) = e  a0 := by kernel_rfl
theorem of (k : Nat) (a0 : Int) {y : Dt47 × Unit} (h : e  a0 = some y) : F (a0, ()) = some y := limF_of k ((eval k a0).trans h)
end r03_Whole
namespace r02_Sign
def spec : Spec := ⟨[(true, Kt45)], [(false, (.int .i64))], .own, fun j => match j with  | _ => []⟩
def cals : Cals := (Cals.cons 124 r02_Norm.sig (Cals.base tabs))
def sig : Sig := spec.sig cals T Tryz.f76
def F (x : Dt45 × Unit) : Option (Int × Unit) := limF spec cals T Tryz.f76 x
theorem ck : CalsOk Tryz.prog cals := (CalsOk.cons r02_Norm.cal (CalsOk.base tabsOk))
theorem cal : CalOk Tryz.prog tabs 76 sig := calOk_lim' tabOk ck mix Tryz.func76 (by kernel_rfl) (by kernel_rfl) (by kernel_rfl) (by kernel_rfl)
def e  (a0 : Dt45) : Option (Int × Unit) :=
 (r02_Norm.F ((a0.1, a0.2), ())).bind fun y1 =>
 bif y1.1.1 then (some ((-1 : Int), ()))
 else (let v2 := (List.length y1.1.2 : Int)
 let v3 := decide (v2 > (0 : Int))
 bif v3 then (some ((1 : Int), ()))
 else (some ((0 : Int), ())))
theorem eval (k : Nat) (a0 : Dt45) : evalF spec cals T Tryz.f76 k (a0, ()) = e  a0 := by kernel_rfl
theorem of (k : Nat) (a0 : Dt45) {y : Int × Unit} (h : e  a0 = some y) : F (a0, ()) = some y := limF_of k ((eval k a0).trans h)
end r02_Sign
namespace r03_Sign
def spec : Spec := ⟨[(true, Kt47)], [(false, (.int .i64))], .own, fun j => match j with  | _ => []⟩
def cals : Cals := (Cals.cons 77 r03_Norm.sig (Cals.cons 76 r02_Sign.sig (Cals.base tabs)))
def sig : Sig := spec.sig cals T Tryz.f27
def F (x : Dt47 × Unit) : Option (Int × Unit) := limF spec cals T Tryz.f27 x
theorem ck : CalsOk Tryz.prog cals := (CalsOk.cons r03_Norm.cal (CalsOk.cons r02_Sign.cal (CalsOk.base tabsOk)))
theorem cal : CalOk Tryz.prog tabs 27 sig := calOk_lim' tabOk ck mix Tryz.func27 (by kernel_rfl) (by kernel_rfl) (by kernel_rfl) (by kernel_rfl)
def e  (a0 : Dt47) : Option (Int × Unit) :=
 (r03_Norm.F (((a0.1.1, a0.1.2), a0.2), ())).bind fun y1 =>
 (r02_Sign.F ((y1.1.1.1, y1.1.1.2), ())).bind fun y2 =>
 some (y2.1, ())
theorem eval (k : Nat) (a0 : Dt47) : evalF spec cals T Tryz.f27 k (a0, ()) = e  a0 := by kernel_rfl
theorem of (k : Nat) (a0 : Dt47) {y : Int × Unit} (h : e  a0 = some y) : F (a0, ()) = some y := limF_of k ((eval k a0).trans h)
end r03_Sign
namespace r01_Mul
def spec : Spec := ⟨[(false, Kt43), (false, Kt43)], [(false, Kt43)], .own, fun j => match j with | 3 => [(0, .lf (.z 86 (.int .u32) false)), (1, .lf (.z 86 (.int .u32) false)), (5, .lf (.o 86 (.int .u32) true)), (6, .lf (.v true))] | 7 => [(0, .lf (.z 86 (.int .u32) false)), (1, .lf (.z 86 (.int .u32) false)), (5, .lf (.o 86 (.int .u32) true)), (6, .lf (.v true)), (7, .lf (.v true)), (8, .lf (.v true))] | _ => []⟩
def cals : Cals := (Cals.cons 125 r01_Norm.sig (Cals.base tabs))
def sig : Sig := spec.sig cals T Tryz.f79
def F (x : Dt43 × Dt43 × Unit) : Option (Dt43 × Unit) := limF spec cals T Tryz.f79 x
theorem ck : CalsOk Tryz.prog cals := (CalsOk.cons r01_Norm.cal (CalsOk.base tabsOk))
theorem cal : CalOk Tryz.prog tabs 79 sig := calOk_lim' tabOk ck mix Tryz.func79 (by kernel_rfl) (by kernel_rfl) (by kernel_rfl) (by kernel_rfl)
def m3 (x0 : Dt43) (x1 : Dt43) (x5 : Dt43) (x6 : Int) : S := ⟨[(0, .one (.lf (.val false Kt43 x0))), (1, .one (.lf (.val false Kt43 x1))), (5, .one (.lf (.own 0))), (6, .one (.lf (.val true (.int .i64) x6)))], ⟨[some ⟨86, (.int .u32), true, true, x5⟩], []⟩⟩
def m7 (x0 : Dt43) (x1 : Dt43) (x5 : Dt43) (x6 : Int) (x7 : Int) (x8 : Int) : S := ⟨[(0, .one (.lf (.val false Kt43 x0))), (1, .one (.lf (.val false Kt43 x1))), (5, .one (.lf (.own 0))), (6, .one (.lf (.val true (.int .i64) x6))), (7, .one (.lf (.val true (.int .u64) x7))), (8, .one (.lf (.val true (.int .i64) x8)))], ⟨[some ⟨86, (.int .u32), true, true, x5⟩], []⟩⟩
def b3 (f3 : Dt43 → Dt43 → Dt43 → Int → Option (Dt43 × Unit)) (f7 : Dt43 → Dt43 → Dt43 → Int → Int → Int → Option (Dt43 × Unit)) (x0 : Dt43) (x1 : Dt43) (x5 : Dt43) (x6 : Int) : Option (Dt43 × Unit) :=
 let v1 := (List.length x0 : Int)
 let v2 := decide (x6 < v1)
 bif v2 then (f7 x0 x1 x5 x6 (0 : Int) (0 : Int))
 else ((r01_Norm.F (x5, ())).bind fun y3 =>
 some (y3.1, ()))
def b7 (f3 : Dt43 → Dt43 → Dt43 → Int → Option (Dt43 × Unit)) (f7 : Dt43 → Dt43 → Dt43 → Int → Int → Int → Option (Dt43 × Unit)) (x0 : Dt43) (x1 : Dt43) (x5 : Dt43) (x6 : Int) (x7 : Int) (x8 : Int) : Option (Dt43 × Unit) :=
 let v1 := (List.length x1 : Int)
 let v2 := decide (x8 < v1)
 bif v2 then (bif decide (0 ≤ x6) && decide (x6 < (List.length x0 : Int)) then (let v3 := List.getD x0 (Int.toNat x6) (0 : Int)
 let v4 := IntKind.u64.wrap v3
 bif decide (0 ≤ x8) && decide (x8 < (List.length x1 : Int)) then (let v5 := List.getD x1 (Int.toNat x8) (0 : Int)
 let v6 := IntKind.u64.wrap v5
 let v7 := IntKind.u64.wrap (v4 * v6)
 let v8 := IntKind.i64.wrap (x6 + x8)
 bif decide (0 ≤ v8) && decide (v8 < (List.length x5 : Int)) then (let v9 := List.getD x5 (Int.toNat v8) (0 : Int)
 let v10 := IntKind.u64.wrap v9
 let v11 := IntKind.u64.wrap (v7 + v10)
 let v12 := IntKind.u64.wrap (v11 + x7)
 let v13 := IntKind.i64.wrap (x6 + x8)
 let v14 := IntKind.u32.wrap v12
 bif decide (0 ≤ v13) && decide (v13 < (List.length x5 : Int)) then (let v15 := List.set x5 (Int.toNat v13) v14
 bif decide ((32 : Int) < 0) then none
 else (let v16 := shrI .u64 v12 (32 : Int)
 let v17 := IntKind.i64.wrap (x8 + (1 : Int))
 f7 x0 x1 v15 x6 v16 v17))
 else none)
 else none)
 else none)
 else none)
 else (let v18 := (List.length x1 : Int)
 let v19 := IntKind.i64.wrap (x6 + v18)
 let v20 := IntKind.u32.wrap x7
 bif decide (0 ≤ v19) && decide (v19 < (List.length x5 : Int)) then (let v21 := List.set x5 (Int.toNat v19) v20
 let v22 := IntKind.i64.wrap (x6 + (1 : Int))
 f3 x0 x1 v21 v22)
 else none)
def e (f3 : Dt43 → Dt43 → Dt43 → Int → Option (Dt43 × Unit)) (f7 : Dt43 → Dt43 → Dt43 → Int → Int → Int → Option (Dt43 × Unit)) (a0 : Dt43) (a1 : Dt43) : Option (Dt43 × Unit) :=
 let v1 := (List.length a0 : Int)
 let v2 := (List.length a1 : Int)
 let v3 := IntKind.i64.wrap (v1 + v2)
 bif decide (0 ≤ v3) && (decide (v3 ≤ v3) && (decide (Int.toNat v3 * 4 ≤ 281474976710656) && Nat.blt 0 4)) then (let v4 := List.replicate (Int.toNat v3) (0 : Int)
 f3 a0 a1 v4 (0 : Int))
 else none
def L3 (k : Nat) (x0 : Dt43) (x1 : Dt43) (x5 : Dt43) (x6 : Int) : Option (Dt43 × Unit) := heads (spec.env cals T Tryz.f79) (Func.pts Tryz.f79) k 3 (m3 x0 x1 x5 x6)
def L7 (k : Nat) (x0 : Dt43) (x1 : Dt43) (x5 : Dt43) (x6 : Int) (x7 : Int) (x8 : Int) : Option (Dt43 × Unit) := heads (spec.env cals T Tryz.f79) (Func.pts Tryz.f79) k 7 (m7 x0 x1 x5 x6 x7 x8)
theorem L3_succ (k : Nat) (x0 : Dt43) (x1 : Dt43) (x5 : Dt43) (x6 : Int) : L3 (k + 1) x0 x1 x5 x6 = b3 (L3 k) (L7 k) x0 x1 x5 x6 := by kernel_rfl
theorem L7_succ (k : Nat) (x0 : Dt43) (x1 : Dt43) (x5 : Dt43) (x6 : Int) (x7 : Int) (x8 : Int) : L7 (k + 1) x0 x1 x5 x6 x7 x8 = b7 (L3 k) (L7 k) x0 x1 x5 x6 x7 x8 := by kernel_rfl
theorem eval (k : Nat) (a0 : Dt43) (a1 : Dt43) : evalF spec cals T Tryz.f79 k (a0, a1, ()) = e (L3 k) (L7 k) a0 a1 := by kernel_rfl
theorem of (k : Nat) (a0 : Dt43) (a1 : Dt43) {y : Dt43 × Unit} (h : e (L3 k) (L7 k) a0 a1 = some y) : F (a0, a1, ()) = some y := limF_of k ((eval k a0 a1).trans h)
end r01_Mul
namespace r02_Mul
def spec : Spec := ⟨[(true, Kt45), (true, Kt45)], [(true, Kt45)], .own, fun j => match j with  | _ => []⟩
def cals : Cals := (Cals.cons 79 r01_Mul.sig (Cals.cons 127 r02_made.sig (Cals.base tabs)))
def sig : Sig := spec.sig cals T Tryz.f78
def F (x : Dt45 × Dt45 × Unit) : Option (Dt45 × Unit) := limF spec cals T Tryz.f78 x
theorem ck : CalsOk Tryz.prog cals := (CalsOk.cons r01_Mul.cal (CalsOk.cons r02_made.cal (CalsOk.base tabsOk)))
theorem cal : CalOk Tryz.prog tabs 78 sig := calOk_lim' tabOk ck mix Tryz.func78 (by kernel_rfl) (by kernel_rfl) (by kernel_rfl) (by kernel_rfl)
def e  (a0 : Dt45) (a1 : Dt45) : Option (Dt45 × Unit) :=
 let v1 := (!(a0.1 == a1.1))
 (r01_Mul.F (a0.2, a1.2, ())).bind fun y2 =>
 (r02_made.F (v1, y2.1, ())).bind fun y3 =>
 some ((y3.1.1, y3.1.2), ())
theorem eval (k : Nat) (a0 : Dt45) (a1 : Dt45) : evalF spec cals T Tryz.f78 k (a0, a1, ()) = e  a0 a1 := by kernel_rfl
theorem of (k : Nat) (a0 : Dt45) (a1 : Dt45) {y : Dt45 × Unit} (h : e  a0 a1 = some y) : F (a0, a1, ()) = some y := limF_of k ((eval k a0 a1).trans h)
end r02_Mul
namespace r03_Mul
def spec : Spec := ⟨[(true, Kt47), (true, Kt47)], [(true, Kt47)], .own, fun j => match j with  | _ => []⟩
def cals : Cals := (Cals.cons 77 r03_Norm.sig (Cals.cons 78 r02_Mul.sig (Cals.cons 79 r01_Mul.sig (Cals.base tabs))))
def sig : Sig := spec.sig cals T Tryz.f29
def F (x : Dt47 × Dt47 × Unit) : Option (Dt47 × Unit) := limF spec cals T Tryz.f29 x
theorem ck : CalsOk Tryz.prog cals := (CalsOk.cons r03_Norm.cal (CalsOk.cons r02_Mul.cal (CalsOk.cons r01_Mul.cal (CalsOk.base tabsOk))))
theorem cal : CalOk Tryz.prog tabs 29 sig := calOk_lim' tabOk ck mix Tryz.func29 (by kernel_rfl) (by kernel_rfl) (by kernel_rfl) (by kernel_rfl)
def e  (a0 : Dt47) (a1 : Dt47) : Option (Dt47 × Unit) :=
 (r03_Norm.F (((a0.1.1, a0.1.2), a0.2), ())).bind fun y1 =>
 (r03_Norm.F (((a1.1.1, a1.1.2), a1.2), ())).bind fun y2 =>
 (r02_Mul.F ((y1.1.1.1, y1.1.1.2), (y2.1.1.1, y2.1.1.2), ())).bind fun y3 =>
 (r01_Mul.F (y1.1.2, y2.1.2, ())).bind fun y4 =>
 (r03_Norm.F (((y3.1.1, y3.1.2), y4.1), ())).bind fun y5 =>
 some (((y5.1.1.1, y5.1.1.2), y5.1.2), ())
theorem eval (k : Nat) (a0 : Dt47) (a1 : Dt47) : evalF spec cals T Tryz.f29 k (a0, a1, ()) = e  a0 a1 := by kernel_rfl
theorem of (k : Nat) (a0 : Dt47) (a1 : Dt47) {y : Dt47 × Unit} (h : e  a0 a1 = some y) : F (a0, a1, ()) = some y := limF_of k ((eval k a0 a1).trans h)
end r03_Mul
namespace r01_Add
def spec : Spec := ⟨[(false, Kt43), (false, Kt43)], [(false, Kt43)], .own, fun j => match j with | 7 => [(0, .lf (.z 86 (.int .u32) false)), (1, .lf (.z 86 (.int .u32) false)), (5, .lf (.v true)), (6, .lf (.o 86 (.int .u32) true)), (7, .lf (.v true)), (8, .lf (.v true))] | _ => []⟩
def cals : Cals := (Cals.cons 163 r01_at.sig (Cals.cons 125 r01_Norm.sig (Cals.base tabs)))
def sig : Sig := spec.sig cals T Tryz.f133
def F (x : Dt43 × Dt43 × Unit) : Option (Dt43 × Unit) := limF spec cals T Tryz.f133 x
theorem ck : CalsOk Tryz.prog cals := (CalsOk.cons r01_at.cal (CalsOk.cons r01_Norm.cal (CalsOk.base tabsOk)))
theorem cal : CalOk Tryz.prog tabs 133 sig := calOk_lim' tabOk ck mix Tryz.func133 (by kernel_rfl) (by kernel_rfl) (by kernel_rfl) (by kernel_rfl)
def m7 (x0 : Dt43) (x1 : Dt43) (x5 : Int) (x6 : Dt43) (x7 : Int) (x8 : Int) : S := ⟨[(0, .one (.lf (.val false Kt43 x0))), (1, .one (.lf (.val false Kt43 x1))), (5, .one (.lf (.val true (.int .i64) x5))), (6, .one (.lf (.own 0))), (7, .one (.lf (.val true (.int .u64) x7))), (8, .one (.lf (.val true (.int .i64) x8)))], ⟨[some ⟨86, (.int .u32), true, true, x6⟩], []⟩⟩
def b7 (f7 : Dt43 → Dt43 → Int → Dt43 → Int → Int → Option (Dt43 × Unit)) (x0 : Dt43) (x1 : Dt43) (x5 : Int) (x6 : Dt43) (x7 : Int) (x8 : Int) : Option (Dt43 × Unit) :=
 let v1 := decide (x8 ≤ x5)
 bif v1 then ((r01_at.F (x0, x8, ())).bind fun y2 =>
 (r01_at.F (x1, x8, ())).bind fun y3 =>
 let v4 := IntKind.u64.wrap (y2.1 + y3.1)
 let v5 := IntKind.u64.wrap (v4 + x7)
 let v6 := IntKind.u32.wrap v5
 bif decide (0 ≤ x8) && decide (x8 < (List.length x6 : Int)) then (let v7 := List.set x6 (Int.toNat x8) v6
 bif decide ((32 : Int) < 0) then none
 else (let v8 := shrI .u64 v5 (32 : Int)
 let v9 := IntKind.i64.wrap (x8 + (1 : Int))
 f7 x0 x1 x5 v7 v8 v9))
 else none)
 else ((r01_Norm.F (x6, ())).bind fun y10 =>
 some (y10.1, ()))
def e (f7 : Dt43 → Dt43 → Int → Dt43 → Int → Int → Option (Dt43 × Unit)) (a0 : Dt43) (a1 : Dt43) : Option (Dt43 × Unit) :=
 let v1 := (List.length a0 : Int)
 let v2 := (List.length a1 : Int)
 let v3 := decide (v2 > v1)
 bif v3 then (let v4 := (List.length a1 : Int)
 let v5 := IntKind.i64.wrap (v4 + (1 : Int))
 bif decide (0 ≤ v5) && (decide (v5 ≤ v5) && (decide (Int.toNat v5 * 4 ≤ 281474976710656) && Nat.blt 0 4)) then (let v6 := List.replicate (Int.toNat v5) (0 : Int)
 f7 a0 a1 v4 v6 (0 : Int) (0 : Int))
 else none)
 else (let v7 := IntKind.i64.wrap (v1 + (1 : Int))
 bif decide (0 ≤ v7) && (decide (v7 ≤ v7) && (decide (Int.toNat v7 * 4 ≤ 281474976710656) && Nat.blt 0 4)) then (let v8 := List.replicate (Int.toNat v7) (0 : Int)
 f7 a0 a1 v1 v8 (0 : Int) (0 : Int))
 else none)
def L7 (k : Nat) (x0 : Dt43) (x1 : Dt43) (x5 : Int) (x6 : Dt43) (x7 : Int) (x8 : Int) : Option (Dt43 × Unit) := heads (spec.env cals T Tryz.f133) (Func.pts Tryz.f133) k 7 (m7 x0 x1 x5 x6 x7 x8)
theorem L7_succ (k : Nat) (x0 : Dt43) (x1 : Dt43) (x5 : Int) (x6 : Dt43) (x7 : Int) (x8 : Int) : L7 (k + 1) x0 x1 x5 x6 x7 x8 = b7 (L7 k) x0 x1 x5 x6 x7 x8 := by kernel_rfl
theorem eval (k : Nat) (a0 : Dt43) (a1 : Dt43) : evalF spec cals T Tryz.f133 k (a0, a1, ()) = e (L7 k) a0 a1 := by kernel_rfl
theorem of (k : Nat) (a0 : Dt43) (a1 : Dt43) {y : Dt43 × Unit} (h : e (L7 k) a0 a1 = some y) : F (a0, a1, ()) = some y := limF_of k ((eval k a0 a1).trans h)
end r01_Add
namespace r02_Add
def spec : Spec := ⟨[(true, Kt45), (true, Kt45)], [(true, Kt45)], .own, fun j => match j with  | _ => []⟩
def cals : Cals := (Cals.cons 133 r01_Add.sig (Cals.cons 127 r02_made.sig (Cals.cons 134 r01_Cmp.sig (Cals.cons 135 r01_Sub.sig (Cals.base tabs)))))
def sig : Sig := spec.sig cals T Tryz.f90
def F (x : Dt45 × Dt45 × Unit) : Option (Dt45 × Unit) := limF spec cals T Tryz.f90 x
theorem ck : CalsOk Tryz.prog cals := (CalsOk.cons r01_Add.cal (CalsOk.cons r02_made.cal (CalsOk.cons r01_Cmp.cal (CalsOk.cons r01_Sub.cal (CalsOk.base tabsOk)))))
theorem cal : CalOk Tryz.prog tabs 90 sig := calOk_lim' tabOk ck mix Tryz.func90 (by kernel_rfl) (by kernel_rfl) (by kernel_rfl) (by kernel_rfl)
def e  (a0 : Dt45) (a1 : Dt45) : Option (Dt45 × Unit) :=
 let v1 := (a0.1 == a1.1)
 bif v1 then ((r01_Add.F (a0.2, a1.2, ())).bind fun y2 =>
 (r02_made.F (a0.1, y2.1, ())).bind fun y3 =>
 some ((y3.1.1, y3.1.2), ()))
 else ((r01_Cmp.F (a0.2, a1.2, ())).bind fun y4 =>
 let v5 := decide (y4.1 ≥ (0 : Int))
 bif v5 then ((r01_Sub.F (a0.2, a1.2, ())).bind fun y6 =>
 (r02_made.F (a0.1, y6.1, ())).bind fun y7 =>
 some ((y7.1.1, y7.1.2), ()))
 else ((r01_Sub.F (a1.2, a0.2, ())).bind fun y8 =>
 (r02_made.F (a1.1, y8.1, ())).bind fun y9 =>
 some ((y9.1.1, y9.1.2), ())))
theorem eval (k : Nat) (a0 : Dt45) (a1 : Dt45) : evalF spec cals T Tryz.f90 k (a0, a1, ()) = e  a0 a1 := by kernel_rfl
theorem of (k : Nat) (a0 : Dt45) (a1 : Dt45) {y : Dt45 × Unit} (h : e  a0 a1 = some y) : F (a0, a1, ()) = some y := limF_of k ((eval k a0 a1).trans h)
end r02_Add
namespace r03_positive
def spec : Spec := ⟨[(false, Kt43)], [(true, Kt45)], .shared, fun j => match j with  | _ => []⟩
def cals : Cals := (Cals.base tabs)
def sig : Sig := spec.sig cals T Tryz.f91
def F (x : Dt43 × Unit) : Option (Dt45 × Unit) := limF spec cals T Tryz.f91 x
theorem ck : CalsOk Tryz.prog cals := (CalsOk.base tabsOk)
theorem cal : CalOk Tryz.prog tabs 91 sig := calOk_lim' tabOk ck mix Tryz.func91 (by kernel_rfl) (by kernel_rfl) (by kernel_rfl) (by kernel_rfl)
def e  (a0 : Dt43) : Option (Dt45 × Unit) :=
 some ((false, a0), ())
theorem eval (k : Nat) (a0 : Dt43) : evalF spec cals T Tryz.f91 k (a0, ()) = e  a0 := by kernel_rfl
theorem of (k : Nat) (a0 : Dt43) {y : Dt45 × Unit} (h : e  a0 = some y) : F (a0, ()) = some y := limF_of k ((eval k a0).trans h)
end r03_positive
namespace r03_Add
def spec : Spec := ⟨[(true, Kt47), (true, Kt47)], [(true, Kt47)], .own, fun j => match j with  | _ => []⟩
def cals : Cals := (Cals.cons 77 r03_Norm.sig (Cals.cons 91 r03_positive.sig (Cals.cons 78 r02_Mul.sig (Cals.cons 90 r02_Add.sig (Cals.cons 79 r01_Mul.sig (Cals.base tabs))))))
def sig : Sig := spec.sig cals T Tryz.f44
def F (x : Dt47 × Dt47 × Unit) : Option (Dt47 × Unit) := limF spec cals T Tryz.f44 x
theorem ck : CalsOk Tryz.prog cals := (CalsOk.cons r03_Norm.cal (CalsOk.cons r03_positive.cal (CalsOk.cons r02_Mul.cal (CalsOk.cons r02_Add.cal (CalsOk.cons r01_Mul.cal (CalsOk.base tabsOk))))))
theorem cal : CalOk Tryz.prog tabs 44 sig := calOk_lim' tabOk ck mix Tryz.func44 (by kernel_rfl) (by kernel_rfl) (by kernel_rfl) (by kernel_rfl)
def e  (a0 : Dt47) (a1 : Dt47) : Option (Dt47 × Unit) :=
 (r03_Norm.F (((a0.1.1, a0.1.2), a0.2), ())).bind fun y1 =>
 (r03_Norm.F (((a1.1.1, a1.1.2), a1.2), ())).bind fun y2 =>
 (r03_positive.F (y2.1.2, ())).bind fun y3 =>
 (r02_Mul.F ((y1.1.1.1, y1.1.1.2), (y3.1.1, y3.1.2), ())).bind fun y4 =>
 (r03_positive.F (y1.1.2, ())).bind fun y5 =>
 (r02_Mul.F ((y2.1.1.1, y2.1.1.2), (y5.1.1, y5.1.2), ())).bind fun y6 =>
 (r02_Add.F ((y4.1.1, y4.1.2), (y6.1.1, y6.1.2), ())).bind fun y7 =>
 (r01_Mul.F (y1.1.2, y2.1.2, ())).bind fun y8 =>
 (r03_Norm.F (((y7.1.1, y7.1.2), y8.1), ())).bind fun y9 =>
 some (((y9.1.1.1, y9.1.1.2), y9.1.2), ())
theorem eval (k : Nat) (a0 : Dt47) (a1 : Dt47) : evalF spec cals T Tryz.f44 k (a0, a1, ()) = e  a0 a1 := by kernel_rfl
theorem of (k : Nat) (a0 : Dt47) (a1 : Dt47) {y : Dt47 × Unit} (h : e  a0 a1 = some y) : F (a0, a1, ()) = some y := limF_of k ((eval k a0 a1).trans h)
end r03_Add
namespace r06_zero
def spec : Spec := ⟨[], [(true, Kt47)], .own, fun j => match j with  | _ => []⟩
def cals : Cals := (Cals.cons 47 r03_Whole.sig (Cals.base tabs))
def sig : Sig := spec.sig cals T Tryz.f108
def F (x : Unit) : Option (Dt47 × Unit) := limF spec cals T Tryz.f108 x
theorem ck : CalsOk Tryz.prog cals := (CalsOk.cons r03_Whole.cal (CalsOk.base tabsOk))
theorem cal : CalOk Tryz.prog tabs 108 sig := calOk_lim' tabOk ck mix Tryz.func108 (by kernel_rfl) (by kernel_rfl) (by kernel_rfl) (by kernel_rfl)
def e   : Option (Dt47 × Unit) :=
 (r03_Whole.F ((0 : Int), ())).bind fun y1 =>
 some (((y1.1.1.1, y1.1.1.2), y1.1.2), ())
theorem eval (k : Nat)  : evalF spec cals T Tryz.f108 k () = e   := by kernel_rfl
theorem of (k : Nat)  {y : Dt47 × Unit} (h : e   = some y) : F () = some y := limF_of k ((eval k ).trans h)
end r06_zero
namespace r17_At
def spec : Spec := ⟨[(false, Kt22), (false, (.int .i64))], [(true, Kt69), (false, .bool), (false, .bool)], .shared, fun j => match j with  | _ => []⟩
def cals : Cals := (Cals.base tabs)
def F (x : Dt22 × Int × Unit) : Option (Dt69 × Bool × Bool × Unit) := limF spec cals T Tryz.f59 x
def e  (a0 : Dt22) (a1 : Int) : Option (Dt69 × Bool × Bool × Unit) :=
 let v1 := decide (a1 > (0 : Int))
 bif v1 then (let v2 := (List.length a0 : Int)
 let v3 := decide (a1 ≤ v2)
 bif v3 then (let v4 := IntKind.i64.wrap (a1 - (1 : Int))
 bif decide (0 ≤ v4) && decide (v4 < (List.length a0 : Int)) then (let v5 := (List.getD a0 (Int.toNat v4) zt69).1
 let v6 := ((List.getD a0 (Int.toNat v4) zt69).2).1
 let v7 := (((((List.getD a0 (Int.toNat v4) zt69).2).2).1).1).1
 let v8 := (((((List.getD a0 (Int.toNat v4) zt69).2).2).1).1).2
 let v9 := ((((List.getD a0 (Int.toNat v4) zt69).2).2).1).2
 let v10 := (((List.getD a0 (Int.toNat v4) zt69).2).2).2
 some ((v5, (v6, (((v7, v8), v9), v10))), true, true, ()))
 else none)
 else (let v11 := decide (a1 < (0 : Int))
 bif v11 then (let v12 := (List.length a0 : Int)
 let v13 := negI .i64 v12
 let v14 := decide (a1 ≥ v13)
 bif v14 then (let v15 := negI .i64 a1
 let v16 := IntKind.i64.wrap (v15 - (1 : Int))
 bif decide (0 ≤ v16) && decide (v16 < (List.length a0 : Int)) then (let v17 := (List.getD a0 (Int.toNat v16) zt69).1
 let v18 := ((List.getD a0 (Int.toNat v16) zt69).2).1
 let v19 := (((((List.getD a0 (Int.toNat v16) zt69).2).2).1).1).1
 let v20 := (((((List.getD a0 (Int.toNat v16) zt69).2).2).1).1).2
 let v21 := ((((List.getD a0 (Int.toNat v16) zt69).2).2).1).2
 let v22 := (((List.getD a0 (Int.toNat v16) zt69).2).2).2
 some ((v17, (v18, (((v19, v20), v21), v22))), false, true, ()))
 else none)
 else (some (zt69, false, false, ())))
 else (some (zt69, false, false, ()))))
 else (let v23 := decide (a1 < (0 : Int))
 bif v23 then (let v24 := (List.length a0 : Int)
 let v25 := negI .i64 v24
 let v26 := decide (a1 ≥ v25)
 bif v26 then (let v27 := negI .i64 a1
 let v28 := IntKind.i64.wrap (v27 - (1 : Int))
 bif decide (0 ≤ v28) && decide (v28 < (List.length a0 : Int)) then (let v29 := (List.getD a0 (Int.toNat v28) zt69).1
 let v30 := ((List.getD a0 (Int.toNat v28) zt69).2).1
 let v31 := (((((List.getD a0 (Int.toNat v28) zt69).2).2).1).1).1
 let v32 := (((((List.getD a0 (Int.toNat v28) zt69).2).2).1).1).2
 let v33 := ((((List.getD a0 (Int.toNat v28) zt69).2).2).1).2
 let v34 := (((List.getD a0 (Int.toNat v28) zt69).2).2).2
 some ((v29, (v30, (((v31, v32), v33), v34))), false, true, ()))
 else none)
 else (some (zt69, false, false, ())))
 else (some (zt69, false, false, ())))
theorem eval (k : Nat) (a0 : Dt22) (a1 : Int) : evalF spec cals T Tryz.f59 k (a0, a1, ()) = e  a0 a1 := by kernel_rfl
theorem of (k : Nat) (a0 : Dt22) (a1 : Int) {y : Dt69 × Bool × Bool × Unit} (h : e  a0 a1 = some y) : F (a0, a1, ()) = some y := limF_of k ((eval k a0 a1).trans h)
end r17_At
namespace r06_Value
def spec : Spec := ⟨[(false, Kt40), (false, Kt23)], [(true, Kt47)], .own, fun j => match j with | 3 => [(0, .lf (.z 73 Kt73 false)), (1, .lf (.z 47 Kt47 false)), (4, .box 47 [.v true, .v true, .v true]), (5, .box 47 [.v true, .o 86 (.int .u32) true, .o 86 (.int .u32) true]), (6, .lf (.v true))] | _ => []⟩
def cals : Cals := (Cals.cons 108 r06_zero.sig (Cals.cons 29 r03_Mul.sig (Cals.cons 44 r03_Add.sig (Cals.base tabs))))
def sig : Sig := spec.sig cals T Tryz.f61
def F (x : Dt40 × Dt23 × Unit) : Option (Dt47 × Unit) := limF spec cals T Tryz.f61 x
theorem ck : CalsOk Tryz.prog cals := (CalsOk.cons r06_zero.cal (CalsOk.cons r03_Mul.cal (CalsOk.cons r03_Add.cal (CalsOk.base tabsOk))))
theorem cal : CalOk Tryz.prog tabs 61 sig := calOk_lim' tabOk ck mix Tryz.func61 (by kernel_rfl) (by kernel_rfl) (by kernel_rfl) (by kernel_rfl)
def m3 (x0 : Dt40) (x1 : Dt23) (x4_0 : Bool) (x5_0 : Bool) (x5_1 : Dt43) (x5_2 : Dt43) (x6 : Int) : S := ⟨[(0, .one (.lf (.val false Kt40 x0))), (1, .one (.lf (.val false Kt23 x1))), (4, .box 0 0), (5, .box 1 0), (6, .one (.lf (.val true (.int .i64) x6)))], ⟨[some ⟨86, (.int .u32), true, true, x5_1⟩, some ⟨86, (.int .u32), true, true, x5_2⟩], [some ⟨47, [.val true .bool x4_0, .nil, .nil]⟩, some ⟨47, [.val true .bool x5_0, .own 0, .own 1]⟩]⟩⟩
def b3 (f3 : Dt40 → Dt23 → Bool → Bool → Dt43 → Dt43 → Int → Option (Dt47 × Unit)) (x0 : Dt40) (x1 : Dt23) (x4_0 : Bool) (x5_0 : Bool) (x5_1 : Dt43) (x5_2 : Dt43) (x6 : Int) : Option (Dt47 × Unit) :=
 let v1 := (List.length x0 : Int)
 let v2 := decide (x6 < v1)
 bif v2 then (bif decide (0 ≤ x6) && decide (x6 < (List.length x0 : Int)) then (let v3 := (List.getD x0 (Int.toNat x6) zt73).1
 let v4 := decide (v3 ≥ (0 : Int))
 bif v4 then (bif decide (0 ≤ x6) && decide (x6 < (List.length x0 : Int)) then (let v5 := (List.getD x0 (Int.toNat x6) zt73).1
 let v6 := (List.length x1 : Int)
 let v7 := decide (v5 < v6)
 bif v7 then (bif decide (0 ≤ x6) && decide (x6 < (List.length x0 : Int)) then (let v8 := (((List.getD x0 (Int.toNat x6) zt73).2).1).1
 let v9 := (((List.getD x0 (Int.toNat x6) zt73).2).1).2
 let v10 := ((List.getD x0 (Int.toNat x6) zt73).2).2
 bif decide (0 ≤ x6) && decide (x6 < (List.length x0 : Int)) then (let v11 := (List.getD x0 (Int.toNat x6) zt73).1
 bif decide (0 ≤ v11) && decide (v11 < (List.length x1 : Int)) then (let v12 := ((List.getD x1 (Int.toNat v11) zt47).1).1
 let v13 := ((List.getD x1 (Int.toNat v11) zt47).1).2
 let v14 := (List.getD x1 (Int.toNat v11) zt47).2
 (r03_Mul.F (((v8, v9), v10), ((v12, v13), v14), ())).bind fun y15 =>
 (r03_Add.F (((x5_0, x5_1), x5_2), ((y15.1.1.1, y15.1.1.2), y15.1.2), ())).bind fun y16 =>
 let v17 := IntKind.i64.wrap (x6 + (1 : Int))
 f3 x0 x1 x4_0 y16.1.1.1 y16.1.1.2 y16.1.2 v17)
 else none)
 else none)
 else none)
 else (let v18 := IntKind.i64.wrap (x6 + (1 : Int))
 f3 x0 x1 x4_0 x5_0 x5_1 x5_2 v18))
 else none)
 else (let v19 := IntKind.i64.wrap (x6 + (1 : Int))
 f3 x0 x1 x4_0 x5_0 x5_1 x5_2 v19))
 else none)
 else (some (((x5_0, x5_1), x5_2), ()))
def e (f3 : Dt40 → Dt23 → Bool → Bool → Dt43 → Dt43 → Int → Option (Dt47 × Unit)) (a0 : Dt40) (a1 : Dt23) : Option (Dt47 × Unit) :=
 (r06_zero.F ()).bind fun y1 =>
 f3 a0 a1 false y1.1.1.1 y1.1.1.2 y1.1.2 (0 : Int)
def L3 (k : Nat) (x0 : Dt40) (x1 : Dt23) (x4_0 : Bool) (x5_0 : Bool) (x5_1 : Dt43) (x5_2 : Dt43) (x6 : Int) : Option (Dt47 × Unit) := heads (spec.env cals T Tryz.f61) (Func.pts Tryz.f61) k 3 (m3 x0 x1 x4_0 x5_0 x5_1 x5_2 x6)
theorem L3_succ (k : Nat) (x0 : Dt40) (x1 : Dt23) (x4_0 : Bool) (x5_0 : Bool) (x5_1 : Dt43) (x5_2 : Dt43) (x6 : Int) : L3 (k + 1) x0 x1 x4_0 x5_0 x5_1 x5_2 x6 = b3 (L3 k) x0 x1 x4_0 x5_0 x5_1 x5_2 x6 := by kernel_rfl
theorem eval (k : Nat) (a0 : Dt40) (a1 : Dt23) : evalF spec cals T Tryz.f61 k (a0, a1, ()) = e (L3 k) a0 a1 := by kernel_rfl
theorem of (k : Nat) (a0 : Dt40) (a1 : Dt23) {y : Dt47 × Unit} (h : e (L3 k) a0 a1 = some y) : F (a0, a1, ()) = some y := limF_of k ((eval k a0 a1).trans h)
end r06_Value
namespace atoms_New
def spec : Spec := ⟨[], [(false, Kt22)], .own, fun j => match j with  | _ => []⟩
def cals : Cals := (Cals.cons 62 ratio_Whole.sig (Cals.base tabs))
def sig : Sig := spec.sig cals T Tryz.f20
def F (x : Unit) : Option (Dt22 × Unit) := limF spec cals T Tryz.f20 x
theorem ck : CalsOk Tryz.prog cals := (CalsOk.cons ratio_Whole.cal (CalsOk.base tabsOk))
theorem cal : CalOk Tryz.prog tabs 20 sig := calOk_lim' tabOk ck mix Tryz.func20 (by kernel_rfl) (by kernel_rfl) (by kernel_rfl) (by kernel_rfl)
def e   : Option (Dt22 × Unit) :=
 (ratio_Whole.F ((0 : Int), ())).bind fun y1 =>
 let v2 := ([(ByteArray.empty, (zt40, (((y1.1.1.1, y1.1.1.2), y1.1.2), false)))] : List Dt69)
 some (v2, ())
theorem eval (k : Nat)  : evalF spec cals T Tryz.f20 k () = e   := by kernel_rfl
theorem of (k : Nat)  {y : Dt22 × Unit} (h : e   = some y) : F () = some y := limF_of k ((eval k ).trans h)
end atoms_New
namespace atoms_put
def spec : Spec := ⟨[(false, Kt22), (false, .mp), (true, Kt69)], [(false, Kt22), (false, (.int .i64)), (false, (.int .i64))], .shared, fun j => match j with | 7 => [(5, .box 69 [.v true, .z 73 Kt73 true, .v true, .z 86 (.int .u32) true, .z 86 (.int .u32) true, .v true]), (9, .lf (.v true)), (10, .lf (.v true)), (11, .lf (.o 69 Kt69 true)), (37, .lf (.v true)), (38, .lf (.v true))] | _ => []⟩
def cals : Cals := (Cals.cons 66 atoms_key.sig (Cals.cons 117 atoms_own.sig (Cals.base tabs)))
def sig : Sig := spec.sig cals T Tryz.f65
def F (x : Dt22 × (List (ByteArray × Int)) × Dt69 × Unit) : Option (Dt22 × Int × Int × Unit) := limF spec cals T Tryz.f65 x
theorem ck : CalsOk Tryz.prog cals := (CalsOk.cons atoms_key.cal (CalsOk.cons atoms_own.cal (CalsOk.base tabsOk)))
theorem cal : CalOk Tryz.prog tabs 65 sig := calOk_lim' tabOk ck mix Tryz.func65 (by kernel_rfl) (by kernel_rfl) (by kernel_rfl) (by kernel_rfl)
def m7 (x5_0 : ByteArray) (x5_1 : Dt40) (x5_2 : Bool) (x5_3 : Dt43) (x5_4 : Dt43) (x5_5 : Bool) (x9 : Int) (x10 : Bool) (x11 : Dt22) (x37 : Int) (x38 : Int) : S := ⟨[(5, .box 0 0), (9, .one (.lf (.val true (.int .i64) x9))), (10, .one (.lf (.val true .bool x10))), (11, .one (.lf (.own 0))), (37, .one (.lf (.val true (.int .i64) x37))), (38, .one (.lf (.val true (.int .i64) x38)))], ⟨[some ⟨69, Kt69, true, true, x11⟩], [some ⟨69, [.val true .str x5_0, .val true Kt40 x5_1, .val true .bool x5_2, .val true Kt43 x5_3, .val true Kt43 x5_4, .val true .bool x5_5]⟩]⟩⟩
def b7 (f7 : ByteArray → Dt40 → Bool → Dt43 → Dt43 → Bool → Int → Bool → Dt22 → Int → Int → Option (Dt22 × Int × Int × Unit)) (x5_0 : ByteArray) (x5_1 : Dt40) (x5_2 : Bool) (x5_3 : Dt43) (x5_4 : Dt43) (x5_5 : Bool) (x9 : Int) (x10 : Bool) (x11 : Dt22) (x37 : Int) (x38 : Int) : Option (Dt22 × Int × Int × Unit) :=
 let v1 := decide (x38 < x37)
 bif v1 then (bif decide (0 ≤ x38) && decide (x38 < (List.length x11 : Int)) then (let v2 := (List.getD x11 (Int.toNat x38) zt69).1
 let v3 := ((List.getD x11 (Int.toNat x38) zt69).2).1
 let v4 := (((((List.getD x11 (Int.toNat x38) zt69).2).2).1).1).1
 let v5 := (((((List.getD x11 (Int.toNat x38) zt69).2).2).1).1).2
 let v6 := ((((List.getD x11 (Int.toNat x38) zt69).2).2).1).2
 let v7 := (((List.getD x11 (Int.toNat x38) zt69).2).2).2
 (atoms_own.F ((v2, (v3, (((v4, v5), v6), v7))), ())).bind fun y8 =>
 bif decide (0 ≤ x38) && decide (x38 < (List.length x11 : Int)) then (let v9 := List.set x11 (Int.toNat x38) (y8.1.1, (y8.1.2.1, (((y8.1.2.2.1.1.1, y8.1.2.2.1.1.2), y8.1.2.2.1.2), y8.1.2.2.2)))
 let v10 := IntKind.i64.wrap (x38 + (1 : Int))
 f7 x5_0 x5_1 x5_2 x5_3 x5_4 x5_5 x9 x10 v9 x37 v10)
 else none)
 else none)
 else (let v11 := not x10
 bif v11 then ((atoms_own.F ((x5_0, (x5_1, (((x5_2, x5_3), x5_4), x5_5))), ())).bind fun y12 =>
 let v13 := ([(y12.1.1, (y12.1.2.1, (((y12.1.2.2.1.1.1, y12.1.2.2.1.1.2), y12.1.2.2.1.2), y12.1.2.2.2)))] : List Dt69)
 bif decide (List.length x11 + List.length v13 < 1353245080339) then (let v14 := List.append x11 v13
 let v15 := (List.length v14 : Int)
 some (v14, v15, (0 : Int), ()))
 else none)
 else (some (x11, x9, (0 : Int), ())))
def e (f7 : ByteArray → Dt40 → Bool → Dt43 → Dt43 → Bool → Int → Bool → Dt22 → Int → Int → Option (Dt22 × Int × Int × Unit)) (a0 : Dt22) (a1 : (List (ByteArray × Int))) (a2 : Dt69) : Option (Dt22 × Int × Int × Unit) :=
 (atoms_key.F ((a2.1, (a2.2.1, (((a2.2.2.1.1.1, a2.2.2.1.1.2), a2.2.2.1.2), a2.2.2.2))), ())).bind fun y1 =>
 let v2 := mpFind y1.1 a1
 let v3 := not (Option.isSome v2)
 bif v3 then (let v4 := (List.length a0 : Int)
 let v5 := (v4 == (262144 : Int))
 bif v5 then (some (zt22, (0 : Int), (2 : Int), ()))
 else (let v6 := (List.length a0 : Int)
 let v7 := (List.length a0 : Int)
 let v8 := IntKind.i64.wrap (v7 + (1 : Int))
 bif decide (0 ≤ v6) && (decide (v6 ≤ v8) && (decide (Int.toNat v8 * 104 ≤ 281474976710656) && Nat.blt 0 104)) then (let v9 := List.replicate (Int.toNat v6) zt69
 let v10 := List.take (List.length v9) a0 ++ List.drop (List.length a0) v9
 let v11 := ((Nat.min (List.length a0) (List.length v9) : Nat) : Int)
 let v12 := (List.length v10 : Int)
 f7 a2.1 a2.2.1 a2.2.2.1.1.1 a2.2.2.1.1.2 a2.2.2.1.2 a2.2.2.2 (Option.getD v2 (0 : Int)) (Option.isSome v2) v10 v12 (0 : Int))
 else none))
 else (let v13 := (List.length a0 : Int)
 let v14 := (List.length a0 : Int)
 let v15 := IntKind.i64.wrap (v14 + (1 : Int))
 bif decide (0 ≤ v13) && (decide (v13 ≤ v15) && (decide (Int.toNat v15 * 104 ≤ 281474976710656) && Nat.blt 0 104)) then (let v16 := List.replicate (Int.toNat v13) zt69
 let v17 := List.take (List.length v16) a0 ++ List.drop (List.length a0) v16
 let v18 := ((Nat.min (List.length a0) (List.length v16) : Nat) : Int)
 let v19 := (List.length v17 : Int)
 f7 a2.1 a2.2.1 a2.2.2.1.1.1 a2.2.2.1.1.2 a2.2.2.1.2 a2.2.2.2 (Option.getD v2 (0 : Int)) (Option.isSome v2) v17 v19 (0 : Int))
 else none)
def L7 (k : Nat) (x5_0 : ByteArray) (x5_1 : Dt40) (x5_2 : Bool) (x5_3 : Dt43) (x5_4 : Dt43) (x5_5 : Bool) (x9 : Int) (x10 : Bool) (x11 : Dt22) (x37 : Int) (x38 : Int) : Option (Dt22 × Int × Int × Unit) := heads (spec.env cals T Tryz.f65) (Func.pts Tryz.f65) k 7 (m7 x5_0 x5_1 x5_2 x5_3 x5_4 x5_5 x9 x10 x11 x37 x38)
theorem L7_succ (k : Nat) (x5_0 : ByteArray) (x5_1 : Dt40) (x5_2 : Bool) (x5_3 : Dt43) (x5_4 : Dt43) (x5_5 : Bool) (x9 : Int) (x10 : Bool) (x11 : Dt22) (x37 : Int) (x38 : Int) : L7 (k + 1) x5_0 x5_1 x5_2 x5_3 x5_4 x5_5 x9 x10 x11 x37 x38 = b7 (L7 k) x5_0 x5_1 x5_2 x5_3 x5_4 x5_5 x9 x10 x11 x37 x38 := by kernel_rfl
theorem eval (k : Nat) (a0 : Dt22) (a1 : (List (ByteArray × Int))) (a2 : Dt69) : evalF spec cals T Tryz.f65 k (a0, a1, a2, ()) = e (L7 k) a0 a1 a2 := by kernel_rfl
theorem of (k : Nat) (a0 : Dt22) (a1 : (List (ByteArray × Int))) (a2 : Dt69) {y : Dt22 × Int × Int × Unit} (h : e (L7 k) a0 a1 a2 = some y) : F (a0, a1, a2, ()) = some y := limF_of k ((eval k a0 a1 a2).trans h)
end atoms_put
namespace ratio_Div
def spec : Spec := ⟨[(true, Kt47), (true, Kt47)], [(true, Kt47), (false, (.int .i64))], .own, fun j => match j with  | _ => []⟩
def cals : Cals := (Cals.cons 115 ratio_Inv.sig (Cals.cons 105 ratio_Mul.sig (Cals.base tabs)))
def sig : Sig := spec.sig cals T Tryz.f67
def F (x : Dt47 × Dt47 × Unit) : Option (Dt47 × Int × Unit) := limF spec cals T Tryz.f67 x
theorem ck : CalsOk Tryz.prog cals := (CalsOk.cons ratio_Inv.cal (CalsOk.cons ratio_Mul.cal (CalsOk.base tabsOk)))
theorem cal : CalOk Tryz.prog tabs 67 sig := calOk_lim' tabOk ck mix Tryz.func67 (by kernel_rfl) (by kernel_rfl) (by kernel_rfl) (by kernel_rfl)
def e  (a0 : Dt47) (a1 : Dt47) : Option (Dt47 × Int × Unit) :=
 (ratio_Inv.F (((a1.1.1, a1.1.2), a1.2), ())).bind fun y1 =>
 let v2 := (y1.2.1 != (0 : Int))
 bif v2 then (some (zt47, y1.2.1, ()))
 else ((ratio_Mul.F (((a0.1.1, a0.1.2), a0.2), ((y1.1.1.1, y1.1.1.2), y1.1.2), ())).bind fun y3 =>
 some (((y3.1.1.1, y3.1.1.2), y3.1.2), (0 : Int), ()))
theorem eval (k : Nat) (a0 : Dt47) (a1 : Dt47) : evalF spec cals T Tryz.f67 k (a0, a1, ()) = e  a0 a1 := by kernel_rfl
theorem of (k : Nat) (a0 : Dt47) (a1 : Dt47) {y : Dt47 × Int × Unit} (h : e  a0 a1 = some y) : F (a0, a1, ()) = some y := limF_of k ((eval k a0 a1).trans h)
end ratio_Div
namespace ratio_Neg
def spec : Spec := ⟨[(true, Kt47)], [(true, Kt47)], .own, fun j => match j with  | _ => []⟩
def cals : Cals := (Cals.cons 101 ratio_Norm.sig (Cals.cons 118 whole_Neg.sig (Cals.base tabs)))
def sig : Sig := spec.sig cals T Tryz.f68
def F (x : Dt47 × Unit) : Option (Dt47 × Unit) := limF spec cals T Tryz.f68 x
theorem ck : CalsOk Tryz.prog cals := (CalsOk.cons ratio_Norm.cal (CalsOk.cons whole_Neg.cal (CalsOk.base tabsOk)))
theorem cal : CalOk Tryz.prog tabs 68 sig := calOk_lim' tabOk ck mix Tryz.func68 (by kernel_rfl) (by kernel_rfl) (by kernel_rfl) (by kernel_rfl)
def e  (a0 : Dt47) : Option (Dt47 × Unit) :=
 (ratio_Norm.F (((a0.1.1, a0.1.2), a0.2), ())).bind fun y1 =>
 (whole_Neg.F ((y1.1.1.1, y1.1.1.2), ())).bind fun y2 =>
 some (((y2.1.1, y2.1.2), y1.1.2), ())
theorem eval (k : Nat) (a0 : Dt47) : evalF spec cals T Tryz.f68 k (a0, ()) = e  a0 := by kernel_rfl
theorem of (k : Nat) (a0 : Dt47) {y : Dt47 × Unit} (h : e  a0 = some y) : F (a0, ()) = some y := limF_of k ((eval k a0).trans h)
end ratio_Neg
namespace atoms_Below
def spec : Spec := ⟨[(false, Kt22), (true, Kt49), (false, .bool)], [(false, Kt22), (false, (.int .i64)), (false, (.int .i64))], .shared, fun j => match j with  | _ => []⟩
def cals : Cals := (Cals.cons 52 atoms_load.sig (Cals.cons 63 linear_Prime.sig (Cals.cons 64 ratio_Sign.sig (Cals.cons 66 atoms_key.sig (Cals.cons 65 atoms_put.sig (Cals.cons 68 ratio_Neg.sig (Cals.cons 67 ratio_Div.sig (Cals.base tabs))))))))
def sig : Sig := spec.sig cals T Tryz.f21
def F (x : Dt22 × Dt49 × Bool × Unit) : Option (Dt22 × Int × Int × Unit) := limF spec cals T Tryz.f21 x
theorem ck : CalsOk Tryz.prog cals := (CalsOk.cons atoms_load.cal (CalsOk.cons linear_Prime.cal (CalsOk.cons ratio_Sign.cal (CalsOk.cons atoms_key.cal (CalsOk.cons atoms_put.cal (CalsOk.cons ratio_Neg.cal (CalsOk.cons ratio_Div.cal (CalsOk.base tabsOk))))))))
theorem cal : CalOk Tryz.prog tabs 21 sig := calOk_lim' tabOk ck mix Tryz.func21 (by kernel_rfl) (by kernel_rfl) (by kernel_rfl) (by kernel_rfl)
def e  (a0 : Dt22) (a1 : Dt49) (a2 : Bool) : Option (Dt22 × Int × Int × Unit) :=
 (atoms_load.F (a0, ())).bind fun y1 =>
 let v2 := not y1.2.1
 bif v2 then (some (zt22, (0 : Int), (170 : Int), ()))
 else ((linear_Prime.F (a1.1, ())).bind fun y3 =>
 let v4 := (List.length y3.1 : Int)
 let v5 := (v4 == (0 : Int))
 bif v5 then ((ratio_Sign.F (((a1.2.1.1, a1.2.1.2), a1.2.2), ())).bind fun y6 =>
 let v7 := decide (y6.1 < (0 : Int))
 bif v7 then (bif decide (0 ≤ (0 : Int)) && decide ((0 : Int) < (List.length a0 : Int)) then (let v8 := (List.getD a0 (Int.toNat (0 : Int)) zt69).1
 let v9 := ((List.getD a0 (Int.toNat (0 : Int)) zt69).2).1
 let v10 := (((((List.getD a0 (Int.toNat (0 : Int)) zt69).2).2).1).1).1
 let v11 := (((((List.getD a0 (Int.toNat (0 : Int)) zt69).2).2).1).1).2
 let v12 := ((((List.getD a0 (Int.toNat (0 : Int)) zt69).2).2).1).2
 let v13 := (((List.getD a0 (Int.toNat (0 : Int)) zt69).2).2).2
 (atoms_key.F ((v8, (v9, (((v10, v11), v12), v13))), ())).bind fun y14 =>
 let v15 := mpPut y14.1 (1 : Int) ([] : List (ByteArray × Int))
 bif decide (0 ≤ (0 : Int)) && decide ((0 : Int) < (List.length a0 : Int)) then (let v16 := (List.getD a0 (Int.toNat (0 : Int)) zt69).1
 let v17 := ((List.getD a0 (Int.toNat (0 : Int)) zt69).2).1
 let v18 := (((((List.getD a0 (Int.toNat (0 : Int)) zt69).2).2).1).1).1
 let v19 := (((((List.getD a0 (Int.toNat (0 : Int)) zt69).2).2).1).1).2
 let v20 := ((((List.getD a0 (Int.toNat (0 : Int)) zt69).2).2).1).2
 let v21 := (((List.getD a0 (Int.toNat (0 : Int)) zt69).2).2).2
 (atoms_put.F (a0, v15, (v16, (v17, (((v18, v19), v20), v21))), ())).bind fun y22 =>
 some (y22.1, (1 : Int), (0 : Int), ()))
 else none)
 else none)
 else (let v23 := (y6.1 == (0 : Int))
 bif v23 then (let v24 := not a2
 bif v24 then (bif decide (0 ≤ (0 : Int)) && decide ((0 : Int) < (List.length a0 : Int)) then (let v25 := (List.getD a0 (Int.toNat (0 : Int)) zt69).1
 let v26 := ((List.getD a0 (Int.toNat (0 : Int)) zt69).2).1
 let v27 := (((((List.getD a0 (Int.toNat (0 : Int)) zt69).2).2).1).1).1
 let v28 := (((((List.getD a0 (Int.toNat (0 : Int)) zt69).2).2).1).1).2
 let v29 := ((((List.getD a0 (Int.toNat (0 : Int)) zt69).2).2).1).2
 let v30 := (((List.getD a0 (Int.toNat (0 : Int)) zt69).2).2).2
 (atoms_key.F ((v25, (v26, (((v27, v28), v29), v30))), ())).bind fun y31 =>
 let v32 := mpPut y31.1 (1 : Int) ([] : List (ByteArray × Int))
 bif decide (0 ≤ (0 : Int)) && decide ((0 : Int) < (List.length a0 : Int)) then (let v33 := (List.getD a0 (Int.toNat (0 : Int)) zt69).1
 let v34 := ((List.getD a0 (Int.toNat (0 : Int)) zt69).2).1
 let v35 := (((((List.getD a0 (Int.toNat (0 : Int)) zt69).2).2).1).1).1
 let v36 := (((((List.getD a0 (Int.toNat (0 : Int)) zt69).2).2).1).1).2
 let v37 := ((((List.getD a0 (Int.toNat (0 : Int)) zt69).2).2).1).2
 let v38 := (((List.getD a0 (Int.toNat (0 : Int)) zt69).2).2).2
 (atoms_put.F (a0, v32, (v33, (v34, (((v35, v36), v37), v38))), ())).bind fun y39 =>
 some (y39.1, (1 : Int), (0 : Int), ()))
 else none)
 else none)
 else (bif decide (0 ≤ (0 : Int)) && decide ((0 : Int) < (List.length a0 : Int)) then (let v40 := (List.getD a0 (Int.toNat (0 : Int)) zt69).1
 let v41 := ((List.getD a0 (Int.toNat (0 : Int)) zt69).2).1
 let v42 := (((((List.getD a0 (Int.toNat (0 : Int)) zt69).2).2).1).1).1
 let v43 := (((((List.getD a0 (Int.toNat (0 : Int)) zt69).2).2).1).1).2
 let v44 := ((((List.getD a0 (Int.toNat (0 : Int)) zt69).2).2).1).2
 let v45 := (((List.getD a0 (Int.toNat (0 : Int)) zt69).2).2).2
 (atoms_key.F ((v40, (v41, (((v42, v43), v44), v45))), ())).bind fun y46 =>
 let v47 := mpPut y46.1 (1 : Int) ([] : List (ByteArray × Int))
 bif decide (0 ≤ (0 : Int)) && decide ((0 : Int) < (List.length a0 : Int)) then (let v48 := (List.getD a0 (Int.toNat (0 : Int)) zt69).1
 let v49 := ((List.getD a0 (Int.toNat (0 : Int)) zt69).2).1
 let v50 := (((((List.getD a0 (Int.toNat (0 : Int)) zt69).2).2).1).1).1
 let v51 := (((((List.getD a0 (Int.toNat (0 : Int)) zt69).2).2).1).1).2
 let v52 := ((((List.getD a0 (Int.toNat (0 : Int)) zt69).2).2).1).2
 let v53 := (((List.getD a0 (Int.toNat (0 : Int)) zt69).2).2).2
 (atoms_put.F (a0, v47, (v48, (v49, (((v50, v51), v52), v53))), ())).bind fun y54 =>
 some (y54.1, (-1 : Int), (0 : Int), ()))
 else none)
 else none))
 else (bif decide (0 ≤ (0 : Int)) && decide ((0 : Int) < (List.length a0 : Int)) then (let v55 := (List.getD a0 (Int.toNat (0 : Int)) zt69).1
 let v56 := ((List.getD a0 (Int.toNat (0 : Int)) zt69).2).1
 let v57 := (((((List.getD a0 (Int.toNat (0 : Int)) zt69).2).2).1).1).1
 let v58 := (((((List.getD a0 (Int.toNat (0 : Int)) zt69).2).2).1).1).2
 let v59 := ((((List.getD a0 (Int.toNat (0 : Int)) zt69).2).2).1).2
 let v60 := (((List.getD a0 (Int.toNat (0 : Int)) zt69).2).2).2
 (atoms_key.F ((v55, (v56, (((v57, v58), v59), v60))), ())).bind fun y61 =>
 let v62 := mpPut y61.1 (1 : Int) ([] : List (ByteArray × Int))
 bif decide (0 ≤ (0 : Int)) && decide ((0 : Int) < (List.length a0 : Int)) then (let v63 := (List.getD a0 (Int.toNat (0 : Int)) zt69).1
 let v64 := ((List.getD a0 (Int.toNat (0 : Int)) zt69).2).1
 let v65 := (((((List.getD a0 (Int.toNat (0 : Int)) zt69).2).2).1).1).1
 let v66 := (((((List.getD a0 (Int.toNat (0 : Int)) zt69).2).2).1).1).2
 let v67 := ((((List.getD a0 (Int.toNat (0 : Int)) zt69).2).2).1).2
 let v68 := (((List.getD a0 (Int.toNat (0 : Int)) zt69).2).2).2
 (atoms_put.F (a0, v62, (v63, (v64, (((v65, v66), v67), v68))), ())).bind fun y69 =>
 some (y69.1, (-1 : Int), (0 : Int), ()))
 else none)
 else none)))
 else ((ratio_Neg.F (((y3.2.1.1.1, y3.2.1.1.2), y3.2.1.2), ())).bind fun y70 =>
 (ratio_Div.F (((a1.2.1.1, a1.2.1.2), a1.2.2), ((y70.1.1.1, y70.1.1.2), y70.1.2), ())).bind fun y71 =>
 (ratio_Sign.F (((y3.2.1.1.1, y3.2.1.1.2), y3.2.1.2), ())).bind fun y72 =>
 let v73 := decide (y72.1 > (0 : Int))
 let v74 := (a2 == v73)
 (atoms_put.F (a0, y1.1, (ByteArray.empty, (y3.1, (((y71.1.1.1, y71.1.1.2), y71.1.2), v74))), ())).bind fun y75 =>
 let v76 := (y75.2.2.1 != (0 : Int))
 bif v76 then (some (y75.1, y75.2.1, y75.2.2.1, ()))
 else (bif v73 then (some (y75.1, y75.2.1, y75.2.2.1, ()))
 else (let v77 := negI .i64 y75.2.1
 some (y75.1, v77, (0 : Int), ())))))
theorem eval (k : Nat) (a0 : Dt22) (a1 : Dt49) (a2 : Bool) : evalF spec cals T Tryz.f21 k (a0, a1, a2, ()) = e  a0 a1 a2 := by kernel_rfl
theorem of (k : Nat) (a0 : Dt22) (a1 : Dt49) (a2 : Bool) {y : Dt22 × Int × Int × Unit} (h : e  a0 a1 a2 = some y) : F (a0, a1, a2, ()) = some y := limF_of k ((eval k a0 a1 a2).trans h)
end atoms_Below
namespace w_lives
def spec : Spec := ⟨[], [(false, .bool)], .own, fun j => match j with  | _ => []⟩
def cals : Cals := (Cals.cons 20 atoms_New.sig (Cals.cons 47 r03_Whole.sig (Cals.cons 21 atoms_Below.sig (Cals.base tabs))))
def sig : Sig := spec.sig cals T Tryz.f19
def F (x : Unit) : Option (Bool × Unit) := limF spec cals T Tryz.f19 x
theorem ck : CalsOk Tryz.prog cals := (CalsOk.cons atoms_New.cal (CalsOk.cons r03_Whole.cal (CalsOk.cons atoms_Below.cal (CalsOk.base tabsOk))))
theorem cal : CalOk Tryz.prog tabs 19 sig := calOk_lim' tabOk ck mix Tryz.func19 (by kernel_rfl) (by kernel_rfl) (by kernel_rfl) (by kernel_rfl)
def e   : Option (Bool × Unit) :=
 (atoms_New.F ()).bind fun y1 =>
 (r03_Whole.F ((-2 : Int), ())).bind fun y2 =>
 let v3 := ([((0 : Int), ((y2.1.1.1, y2.1.1.2), y2.1.2))] : List Dt73)
 (r03_Whole.F ((3 : Int), ())).bind fun y4 =>
 (atoms_Below.F (y1.1, (v3, ((y4.1.1.1, y4.1.1.2), y4.1.2)), true, ())).bind fun y5 =>
 let v6 := (y5.2.2.1 == (0 : Int))
 bif v6 then (let v7 := (y5.2.1 == (-2 : Int))
 bif v7 then (let v8 := (List.length y5.1 : Int)
 let v9 := (v8 == (2 : Int))
 some (v9, ()))
 else (some (false, ())))
 else (some (false, ()))
theorem eval (k : Nat)  : evalF spec cals T Tryz.f19 k () = e   := by kernel_rfl
theorem of (k : Nat)  {y : Bool × Unit} (h : e   = some y) : F () = some y := limF_of k ((eval k ).trans h)
end w_lives
namespace m_Affine
def spec : Spec := ⟨[(true, Kt49)], [(true, Kt49)], .own, fun j => match j with  | _ => []⟩
def cals : Cals := (Cals.cons 42 m_Form.sig (Cals.cons 58 m_Rat.sig (Cals.base tabs)))
def sig : Sig := spec.sig cals T Tryz.f22
def F (x : Dt49 × Unit) : Option (Dt49 × Unit) := limF spec cals T Tryz.f22 x
theorem ck : CalsOk Tryz.prog cals := (CalsOk.cons m_Form.cal (CalsOk.cons m_Rat.cal (CalsOk.base tabsOk)))
theorem cal : CalOk Tryz.prog tabs 22 sig := calOk_lim' tabOk ck mix Tryz.func22 (by kernel_rfl) (by kernel_rfl) (by kernel_rfl) (by kernel_rfl)
def e  (a0 : Dt49) : Option (Dt49 × Unit) :=
 (m_Form.F (a0.1, ())).bind fun y1 =>
 (m_Rat.F (((a0.2.1.1, a0.2.1.2), a0.2.2), ())).bind fun y2 =>
 some ((y1.1, ((y2.1.1.1, y2.1.1.2), y2.1.2)), ())
theorem eval (k : Nat) (a0 : Dt49) : evalF spec cals T Tryz.f22 k (a0, ()) = e  a0 := by kernel_rfl
theorem of (k : Nat) (a0 : Dt49) {y : Dt49 × Unit} (h : e  a0 = some y) : F (a0, ()) = some y := limF_of k ((eval k a0).trans h)
end m_Affine
namespace w_same
def spec : Spec := ⟨[(false, Kt22), (false, Kt22)], [(false, .bool)], .own, fun j => match j with | 4 => [(0, .lf (.z 69 Kt69 false)), (1, .lf (.z 69 Kt69 false)), (5, .lf (.v true))] | _ => []⟩
def cals : Cals := (Cals.cons 69 r17_Alike.sig (Cals.base tabs))
def sig : Sig := spec.sig cals T Tryz.f23
def F (x : Dt22 × Dt22 × Unit) : Option (Bool × Unit) := limF spec cals T Tryz.f23 x
theorem ck : CalsOk Tryz.prog cals := (CalsOk.cons r17_Alike.cal (CalsOk.base tabsOk))
theorem cal : CalOk Tryz.prog tabs 23 sig := calOk_lim' tabOk ck mix Tryz.func23 (by kernel_rfl) (by kernel_rfl) (by kernel_rfl) (by kernel_rfl)
def m4 (x0 : Dt22) (x1 : Dt22) (x5 : Int) : S := ⟨[(0, .one (.lf (.val false Kt22 x0))), (1, .one (.lf (.val false Kt22 x1))), (5, .one (.lf (.val true (.int .i64) x5)))], ⟨[], []⟩⟩
def b4 (f4 : Dt22 → Dt22 → Int → Option (Bool × Unit)) (x0 : Dt22) (x1 : Dt22) (x5 : Int) : Option (Bool × Unit) :=
 let v1 := (List.length x0 : Int)
 let v2 := decide (x5 < v1)
 bif v2 then (bif decide (0 ≤ x5) && decide (x5 < (List.length x0 : Int)) then (let v3 := (List.getD x0 (Int.toNat x5) zt69).1
 let v4 := ((List.getD x0 (Int.toNat x5) zt69).2).1
 let v5 := (((((List.getD x0 (Int.toNat x5) zt69).2).2).1).1).1
 let v6 := (((((List.getD x0 (Int.toNat x5) zt69).2).2).1).1).2
 let v7 := ((((List.getD x0 (Int.toNat x5) zt69).2).2).1).2
 let v8 := (((List.getD x0 (Int.toNat x5) zt69).2).2).2
 bif decide (0 ≤ x5) && decide (x5 < (List.length x1 : Int)) then (let v9 := (List.getD x1 (Int.toNat x5) zt69).1
 let v10 := ((List.getD x1 (Int.toNat x5) zt69).2).1
 let v11 := (((((List.getD x1 (Int.toNat x5) zt69).2).2).1).1).1
 let v12 := (((((List.getD x1 (Int.toNat x5) zt69).2).2).1).1).2
 let v13 := ((((List.getD x1 (Int.toNat x5) zt69).2).2).1).2
 let v14 := (((List.getD x1 (Int.toNat x5) zt69).2).2).2
 (r17_Alike.F ((v3, (v4, (((v5, v6), v7), v8))), (v9, (v10, (((v11, v12), v13), v14))), ())).bind fun y15 =>
 let v16 := not y15.1
 bif v16 then (some (false, ()))
 else (let v17 := IntKind.i64.wrap (x5 + (1 : Int))
 f4 x0 x1 v17))
 else none)
 else none)
 else (some (true, ()))
def e (f4 : Dt22 → Dt22 → Int → Option (Bool × Unit)) (a0 : Dt22) (a1 : Dt22) : Option (Bool × Unit) :=
 let v1 := (List.length a0 : Int)
 let v2 := (List.length a1 : Int)
 let v3 := (v1 != v2)
 bif v3 then (some (false, ()))
 else (f4 a0 a1 (0 : Int))
def L4 (k : Nat) (x0 : Dt22) (x1 : Dt22) (x5 : Int) : Option (Bool × Unit) := heads (spec.env cals T Tryz.f23) (Func.pts Tryz.f23) k 4 (m4 x0 x1 x5)
theorem L4_succ (k : Nat) (x0 : Dt22) (x1 : Dt22) (x5 : Int) : L4 (k + 1) x0 x1 x5 = b4 (L4 k) x0 x1 x5 := by kernel_rfl
theorem eval (k : Nat) (a0 : Dt22) (a1 : Dt22) : evalF spec cals T Tryz.f23 k (a0, a1, ()) = e (L4 k) a0 a1 := by kernel_rfl
theorem of (k : Nat) (a0 : Dt22) (a1 : Dt22) {y : Bool × Unit} (h : e (L4 k) a0 a1 = some y) : F (a0, a1, ()) = some y := limF_of k ((eval k a0 a1).trans h)
end w_same
namespace w_below
def spec : Spec := ⟨[(true, Kt49), (false, .bool), (false, Kt23)], [(false, .bool)], .own, fun j => match j with  | _ => []⟩
def cals : Cals := (Cals.cons 61 r06_Value.sig (Cals.cons 44 r03_Add.sig (Cals.cons 27 r03_Sign.sig (Cals.base tabs))))
def sig : Sig := spec.sig cals T Tryz.f24
def F (x : Dt49 × Bool × Dt23 × Unit) : Option (Bool × Unit) := limF spec cals T Tryz.f24 x
theorem ck : CalsOk Tryz.prog cals := (CalsOk.cons r06_Value.cal (CalsOk.cons r03_Add.cal (CalsOk.cons r03_Sign.cal (CalsOk.base tabsOk))))
theorem cal : CalOk Tryz.prog tabs 24 sig := calOk_lim' tabOk ck mix Tryz.func24 (by kernel_rfl) (by kernel_rfl) (by kernel_rfl) (by kernel_rfl)
def e  (a0 : Dt49) (a1 : Bool) (a2 : Dt23) : Option (Bool × Unit) :=
 (r06_Value.F (a0.1, a2, ())).bind fun y1 =>
 (r03_Add.F (((y1.1.1.1, y1.1.1.2), y1.1.2), ((a0.2.1.1, a0.2.1.2), a0.2.2), ())).bind fun y2 =>
 (r03_Sign.F (((y2.1.1.1, y2.1.1.2), y2.1.2), ())).bind fun y3 =>
 let v4 := decide (y3.1 < (0 : Int))
 bif v4 then (some (true, ()))
 else (let v5 := (y3.1 == (0 : Int))
 bif v5 then (let v6 := not a1
 some (v6, ()))
 else (some (false, ())))
theorem eval (k : Nat) (a0 : Dt49) (a1 : Bool) (a2 : Dt23) : evalF spec cals T Tryz.f24 k (a0, a1, a2, ()) = e  a0 a1 a2 := by kernel_rfl
theorem of (k : Nat) (a0 : Dt49) (a1 : Bool) (a2 : Dt23) {y : Bool × Unit} (h : e  a0 a1 a2 = some y) : F (a0, a1, a2, ()) = some y := limF_of k ((eval k a0 a1 a2).trans h)
end w_below
namespace atoms_Says
def spec : Spec := ⟨[(false, Kt22), (false, (.int .i64))], [(true, Kt49), (false, .bool), (false, (.int .i64))], .own, fun j => match j with  | _ => []⟩
def cals : Cals := (Cals.cons 52 atoms_load.sig (Cals.cons 53 atoms_literal.sig (Cals.cons 70 linear_Norm.sig (Cals.cons 68 ratio_Neg.sig (Cals.cons 62 ratio_Whole.sig (Cals.cons 71 linear_Scale.sig (Cals.base tabs)))))))
def sig : Sig := spec.sig cals T Tryz.f25
def F (x : Dt22 × Int × Unit) : Option (Dt49 × Bool × Int × Unit) := limF spec cals T Tryz.f25 x
theorem ck : CalsOk Tryz.prog cals := (CalsOk.cons atoms_load.cal (CalsOk.cons atoms_literal.cal (CalsOk.cons linear_Norm.cal (CalsOk.cons ratio_Neg.cal (CalsOk.cons ratio_Whole.cal (CalsOk.cons linear_Scale.cal (CalsOk.base tabsOk)))))))
theorem cal : CalOk Tryz.prog tabs 25 sig := calOk_lim' tabOk ck mix Tryz.func25 (by kernel_rfl) (by kernel_rfl) (by kernel_rfl) (by kernel_rfl)
def e  (a0 : Dt22) (a1 : Int) : Option (Dt49 × Bool × Int × Unit) :=
 (atoms_load.F (a0, ())).bind fun y1 =>
 (atoms_literal.F (a0, a1, ())).bind fun y2 =>
 let v3 := not y1.2.1
 bif v3 then (some (zt49, false, (170 : Int), ()))
 else (let v4 := not y2.2.1
 bif v4 then (some (zt49, false, (170 : Int), ()))
 else (let v5 := (!(y2.1.1.toList == (⟨#[]⟩ : ByteArray).toList))
 bif v5 then (some (zt49, false, (170 : Int), ()))
 else ((linear_Norm.F (y2.1.2.1, ())).bind fun y6 =>
 (ratio_Neg.F (((y2.1.2.2.1.1.1, y2.1.2.2.1.1.2), y2.1.2.2.1.2), ())).bind fun y7 =>
 let v8 := decide (a1 > (0 : Int))
 bif v8 then (some ((y6.1, ((y7.1.1.1, y7.1.1.2), y7.1.2)), y2.1.2.2.2, (0 : Int), ()))
 else ((ratio_Whole.F ((-1 : Int), ())).bind fun y9 =>
 (linear_Scale.F (((y9.1.1.1, y9.1.1.2), y9.1.2), y6.1, ())).bind fun y10 =>
 (ratio_Neg.F (((y7.1.1.1, y7.1.1.2), y7.1.2), ())).bind fun y11 =>
 let v12 := not y2.1.2.2.2
 some ((y10.1, ((y11.1.1.1, y11.1.1.2), y11.1.2)), v12, (0 : Int), ())))))
theorem eval (k : Nat) (a0 : Dt22) (a1 : Int) : evalF spec cals T Tryz.f25 k (a0, a1, ()) = e  a0 a1 := by kernel_rfl
theorem of (k : Nat) (a0 : Dt22) (a1 : Int) {y : Dt49 × Bool × Int × Unit} (h : e  a0 a1 = some y) : F (a0, a1, ()) = some y := limF_of k ((eval k a0 a1).trans h)
end atoms_Says
end
end Go.Fx.Tryz
