import Derived.Test.YtjojmgadmdgdgaaW17a
namespace Go.Fx.Try
open Go Go.Proofs Go.Fx
set_option linter.unusedVariables false
set_option maxRecDepth 100000

noncomputable section
namespace atoms_own
def spec : Spec := ⟨[(true, Kt50)], [(true, Kt50)], .own, fun j => match j with  | _ => []⟩
def cals : Cals := (Cals.cons 20 linear_Norm.sig (Cals.cons 29 ratio_Norm.sig (Cals.base tabs)))
def sig : Sig := spec.sig cals T Try.f30
def F (x : Dt50 × Unit) : Option (Dt50 × Unit) := limF spec cals T Try.f30 x
theorem ck : CalsOk Try.prog cals := (CalsOk.cons linear_Norm.cal (CalsOk.cons ratio_Norm.cal (CalsOk.base tabsOk)))
theorem cal : CalOk Try.prog tabs 30 sig := calOk_lim' tabOk ck mix Try.func30 (by kernel_rfl) (by kernel_rfl) (by kernel_rfl) (by kernel_rfl)
def e  (a0 : Dt50) : Option (Dt50 × Unit) :=
 (linear_Norm.F (a0.2.1, ())).bind fun y1 =>
 (ratio_Norm.F (((a0.2.2.1.1.1, a0.2.2.1.1.2), a0.2.2.1.2), ())).bind fun y2 =>
 some ((a0.1, (y1.1, (((y2.1.1.1, y2.1.1.2), y2.1.2), a0.2.2.2))), ())
theorem eval (k : Nat) (a0 : Dt50) : evalF spec cals T Try.f30 k (a0, ()) = e  a0 := by kernel_rfl
theorem of (k : Nat) (a0 : Dt50) {y : Dt50 × Unit} (h : e  a0 = some y) : F (a0, ()) = some y := limF_of k ((eval k a0).trans h)
end atoms_own
namespace slices_Equal_Nat
def spec : Spec := ⟨[(false, Kt29), (false, Kt29)], [(false, .bool)], .own, fun j => match j with | 4 => [(0, .lf (.z 55 (.int .u32) false)), (1, .lf (.z 55 (.int .u32) false)), (12, .lf (.v true)), (13, .lf (.v true))] | _ => []⟩
def cals : Cals := (Cals.base tabs)
def sig : Sig := spec.sig cals T Try.f62
def F (x : Dt29 × Dt29 × Unit) : Option (Bool × Unit) := limF spec cals T Try.f62 x
theorem ck : CalsOk Try.prog cals := (CalsOk.base tabsOk)
theorem cal : CalOk Try.prog tabs 62 sig := calOk_lim' tabOk ck mix Try.func62 (by kernel_rfl) (by kernel_rfl) (by kernel_rfl) (by kernel_rfl)
def m4 (x0 : Dt29) (x1 : Dt29) (x12 : Int) (x13 : Int) : S := ⟨[(0, .one (.lf (.val false Kt29 x0))), (1, .one (.lf (.val false Kt29 x1))), (12, .one (.lf (.val true (.int .i64) x12))), (13, .one (.lf (.val true (.int .i64) x13)))], ⟨[], []⟩⟩
def b4 (f4 : Dt29 → Dt29 → Int → Int → Option (Bool × Unit)) (x0 : Dt29) (x1 : Dt29) (x12 : Int) (x13 : Int) : Option (Bool × Unit) :=
 let v1 := decide (x13 < x12)
 bif v1 then (bif decide (0 ≤ x13) && decide (x13 < (List.length x0 : Int)) then (let v2 := List.getD x0 (Int.toNat x13) (0 : Int)
 bif decide (0 ≤ x13) && decide (x13 < (List.length x1 : Int)) then (let v3 := List.getD x1 (Int.toNat x13) (0 : Int)
 let v4 := (v2 != v3)
 bif v4 then (some (false, ()))
 else (let v5 := IntKind.i64.wrap (x13 + (1 : Int))
 f4 x0 x1 x12 v5))
 else none)
 else none)
 else (some (true, ()))
def e (f4 : Dt29 → Dt29 → Int → Int → Option (Bool × Unit)) (a0 : Dt29) (a1 : Dt29) : Option (Bool × Unit) :=
 let v1 := (List.length a0 : Int)
 let v2 := (List.length a1 : Int)
 let v3 := (v1 != v2)
 bif v3 then (some (false, ()))
 else (let v4 := (List.length a0 : Int)
 f4 a0 a1 v4 (0 : Int))
def L4 (k : Nat) (x0 : Dt29) (x1 : Dt29) (x12 : Int) (x13 : Int) : Option (Bool × Unit) := heads (spec.env cals T Try.f62) (Func.pts Try.f62) k 4 (m4 x0 x1 x12 x13)
theorem L4_succ (k : Nat) (x0 : Dt29) (x1 : Dt29) (x12 : Int) (x13 : Int) : L4 (k + 1) x0 x1 x12 x13 = b4 (L4 k) x0 x1 x12 x13 := by kernel_rfl
theorem eval (k : Nat) (a0 : Dt29) (a1 : Dt29) : evalF spec cals T Try.f62 k (a0, a1, ()) = e (L4 k) a0 a1 := by kernel_rfl
theorem of (k : Nat) (a0 : Dt29) (a1 : Dt29) {y : Bool × Unit} (h : e (L4 k) a0 a1 = some y) : F (a0, a1, ()) = some y := limF_of k ((eval k a0 a1).trans h)
end slices_Equal_Nat
namespace atoms_sameRat
def spec : Spec := ⟨[(true, Kt33), (true, Kt33)], [(false, .bool)], .own, fun j => match j with  | _ => []⟩
def cals : Cals := (Cals.cons 62 slices_Equal_Nat.sig (Cals.base tabs))
def sig : Sig := spec.sig cals T Try.f42
def F (x : Dt33 × Dt33 × Unit) : Option (Bool × Unit) := limF spec cals T Try.f42 x
theorem ck : CalsOk Try.prog cals := (CalsOk.cons slices_Equal_Nat.cal (CalsOk.base tabsOk))
theorem cal : CalOk Try.prog tabs 42 sig := calOk_lim' tabOk ck mix Try.func42 (by kernel_rfl) (by kernel_rfl) (by kernel_rfl) (by kernel_rfl)
def e  (a0 : Dt33) (a1 : Dt33) : Option (Bool × Unit) :=
 let v1 := (a0.1.1 == a1.1.1)
 bif v1 then ((slices_Equal_Nat.F (a0.1.2, a1.1.2, ())).bind fun y2 =>
 bif y2.1 then ((slices_Equal_Nat.F (a0.2, a1.2, ())).bind fun y3 =>
 some (y3.1, ()))
 else (some (false, ())))
 else (some (false, ()))
theorem eval (k : Nat) (a0 : Dt33) (a1 : Dt33) : evalF spec cals T Try.f42 k (a0, a1, ()) = e  a0 a1 := by kernel_rfl
theorem of (k : Nat) (a0 : Dt33) (a1 : Dt33) {y : Bool × Unit} (h : e  a0 a1 = some y) : F (a0, a1, ()) = some y := limF_of k ((eval k a0 a1).trans h)
end atoms_sameRat
namespace atoms_sameForm_1
def spec : Spec := ⟨[(true, Kt36), (true, Kt36)], [(false, .bool)], .own, fun j => match j with  | _ => []⟩
def cals : Cals := (Cals.cons 42 atoms_sameRat.sig (Cals.base tabs))
def sig : Sig := spec.sig cals T Try.f64
def F (x : Dt36 × Dt36 × Unit) : Option (Bool × Unit) := limF spec cals T Try.f64 x
theorem ck : CalsOk Try.prog cals := (CalsOk.cons atoms_sameRat.cal (CalsOk.base tabsOk))
theorem cal : CalOk Try.prog tabs 64 sig := calOk_lim' tabOk ck mix Try.func64 (by kernel_rfl) (by kernel_rfl) (by kernel_rfl) (by kernel_rfl)
def e  (a0 : Dt36) (a1 : Dt36) : Option (Bool × Unit) :=
 let v1 := (a0.1 == a1.1)
 bif v1 then ((atoms_sameRat.F (((a0.2.1.1, a0.2.1.2), a0.2.2), ((a1.2.1.1, a1.2.1.2), a1.2.2), ())).bind fun y2 =>
 some (y2.1, ()))
 else (some (false, ()))
theorem eval (k : Nat) (a0 : Dt36) (a1 : Dt36) : evalF spec cals T Try.f64 k (a0, a1, ()) = e  a0 a1 := by kernel_rfl
theorem of (k : Nat) (a0 : Dt36) (a1 : Dt36) {y : Bool × Unit} (h : e  a0 a1 = some y) : F (a0, a1, ()) = some y := limF_of k ((eval k a0 a1).trans h)
end atoms_sameForm_1
namespace slices_EqualFunc_Form
def spec : Spec := ⟨[(false, Kt37), (false, Kt37), (false, (.fnc 64))], [(false, .bool)], .own, fun j => match j with | 4 => [(1, .lf (.z 36 Kt36 false)), (2, .lf (.v false)), (15, .lf (.z 36 Kt36 false)), (16, .lf (.v true)), (17, .lf (.v true))] | _ => []⟩
def cals : Cals := (Cals.cons 64 atoms_sameForm_1.sig (Cals.base tabs))
def sig : Sig := spec.sig cals T Try.f63
def F (x : Dt37 × Dt37 × Unit × Unit) : Option (Bool × Unit) := limF spec cals T Try.f63 x
theorem ck : CalsOk Try.prog cals := (CalsOk.cons atoms_sameForm_1.cal (CalsOk.base tabsOk))
theorem cal : CalOk Try.prog tabs 63 sig := calOk_lim' tabOk ck mix Try.func63 (by kernel_rfl) (by kernel_rfl) (by kernel_rfl) (by kernel_rfl)
def m4 (x1 : Dt37) (x2 : Unit) (x15 : Dt37) (x16 : Int) (x17 : Int) : S := ⟨[(1, .one (.lf (.val false Kt37 x1))), (2, .one (.lf (.val false (.fnc 64) x2))), (15, .one (.lf (.val false Kt37 x15))), (16, .one (.lf (.val true (.int .i64) x16))), (17, .one (.lf (.val true (.int .i64) x17)))], ⟨[], []⟩⟩
def b4 (f4 : Dt37 → Unit → Dt37 → Int → Int → Option (Bool × Unit)) (x1 : Dt37) (x2 : Unit) (x15 : Dt37) (x16 : Int) (x17 : Int) : Option (Bool × Unit) :=
 let v1 := decide (x17 < x16)
 bif v1 then (bif decide (0 ≤ x17) && decide (x17 < (List.length x15 : Int)) then (let v2 := (List.getD x15 (Int.toNat x17) zt36).1
 let v3 := (((List.getD x15 (Int.toNat x17) zt36).2).1).1
 let v4 := (((List.getD x15 (Int.toNat x17) zt36).2).1).2
 let v5 := ((List.getD x15 (Int.toNat x17) zt36).2).2
 bif decide (0 ≤ x17) && decide (x17 < (List.length x1 : Int)) then (let v6 := (List.getD x1 (Int.toNat x17) zt36).1
 let v7 := (((List.getD x1 (Int.toNat x17) zt36).2).1).1
 let v8 := (((List.getD x1 (Int.toNat x17) zt36).2).1).2
 let v9 := ((List.getD x1 (Int.toNat x17) zt36).2).2
 (atoms_sameForm_1.F ((v2, ((v3, v4), v5)), (v6, ((v7, v8), v9)), ())).bind fun y10 =>
 let v11 := not y10.1
 bif v11 then (some (false, ()))
 else (let v12 := IntKind.i64.wrap (x17 + (1 : Int))
 f4 x1 x2 x15 x16 v12))
 else none)
 else none)
 else (some (true, ()))
def e (f4 : Dt37 → Unit → Dt37 → Int → Int → Option (Bool × Unit)) (a0 : Dt37) (a1 : Dt37) (a2 : Unit) : Option (Bool × Unit) :=
 let v1 := (List.length a0 : Int)
 let v2 := (List.length a1 : Int)
 let v3 := (v1 != v2)
 bif v3 then (some (false, ()))
 else (let v4 := (List.length a0 : Int)
 f4 a1 a2 a0 v4 (0 : Int))
def L4 (k : Nat) (x1 : Dt37) (x2 : Unit) (x15 : Dt37) (x16 : Int) (x17 : Int) : Option (Bool × Unit) := heads (spec.env cals T Try.f63) (Func.pts Try.f63) k 4 (m4 x1 x2 x15 x16 x17)
theorem L4_succ (k : Nat) (x1 : Dt37) (x2 : Unit) (x15 : Dt37) (x16 : Int) (x17 : Int) : L4 (k + 1) x1 x2 x15 x16 x17 = b4 (L4 k) x1 x2 x15 x16 x17 := by kernel_rfl
theorem eval (k : Nat) (a0 : Dt37) (a1 : Dt37) (a2 : Unit) : evalF spec cals T Try.f63 k (a0, a1, a2, ()) = e (L4 k) a0 a1 a2 := by kernel_rfl
theorem of (k : Nat) (a0 : Dt37) (a1 : Dt37) (a2 : Unit) {y : Bool × Unit} (h : e (L4 k) a0 a1 a2 = some y) : F (a0, a1, a2, ()) = some y := limF_of k ((eval k a0 a1 a2).trans h)
end slices_EqualFunc_Form
namespace atoms_sameForm
def spec : Spec := ⟨[(false, Kt37), (false, Kt37)], [(false, .bool)], .own, fun j => match j with  | _ => []⟩
def cals : Cals := (Cals.cons 63 slices_EqualFunc_Form.sig (Cals.base tabs))
def sig : Sig := spec.sig cals T Try.f43
def F (x : Dt37 × Dt37 × Unit) : Option (Bool × Unit) := limF spec cals T Try.f43 x
theorem ck : CalsOk Try.prog cals := (CalsOk.cons slices_EqualFunc_Form.cal (CalsOk.base tabsOk))
theorem cal : CalOk Try.prog tabs 43 sig := calOk_lim' tabOk ck mix Try.func43 (by kernel_rfl) (by kernel_rfl) (by kernel_rfl) (by kernel_rfl)
def e  (a0 : Dt37) (a1 : Dt37) : Option (Bool × Unit) :=
 (slices_EqualFunc_Form.F (a0, a1, (), ())).bind fun y1 =>
 some (y1.1, ())
theorem eval (k : Nat) (a0 : Dt37) (a1 : Dt37) : evalF spec cals T Try.f43 k (a0, a1, ()) = e  a0 a1 := by kernel_rfl
theorem of (k : Nat) (a0 : Dt37) (a1 : Dt37) {y : Bool × Unit} (h : e  a0 a1 = some y) : F (a0, a1, ()) = some y := limF_of k ((eval k a0 a1).trans h)
end atoms_sameForm
namespace atoms_normal
def spec : Spec := ⟨[(true, Kt50)], [(false, .bool)], .own, fun j => match j with  | _ => []⟩
def cals : Cals := (Cals.cons 30 atoms_own.sig (Cals.cons 42 atoms_sameRat.sig (Cals.cons 43 atoms_sameForm.sig (Cals.base tabs))))
def sig : Sig := spec.sig cals T Try.f18
def F (x : Dt50 × Unit) : Option (Bool × Unit) := limF spec cals T Try.f18 x
theorem ck : CalsOk Try.prog cals := (CalsOk.cons atoms_own.cal (CalsOk.cons atoms_sameRat.cal (CalsOk.cons atoms_sameForm.cal (CalsOk.base tabsOk))))
theorem cal : CalOk Try.prog tabs 18 sig := calOk_lim' tabOk ck mix Try.func18 (by kernel_rfl) (by kernel_rfl) (by kernel_rfl) (by kernel_rfl)
def e  (a0 : Dt50) : Option (Bool × Unit) :=
 (atoms_own.F ((a0.1, (a0.2.1, (((a0.2.2.1.1.1, a0.2.2.1.1.2), a0.2.2.1.2), a0.2.2.2))), ())).bind fun y1 =>
 (atoms_sameRat.F (((y1.1.2.2.1.1.1, y1.1.2.2.1.1.2), y1.1.2.2.1.2), ((a0.2.2.1.1.1, a0.2.2.1.1.2), a0.2.2.1.2), ())).bind fun y2 =>
 bif y2.1 then ((atoms_sameForm.F (y1.1.2.1, a0.2.1, ())).bind fun y3 =>
 some (y3.1, ()))
 else (some (false, ()))
theorem eval (k : Nat) (a0 : Dt50) : evalF spec cals T Try.f18 k (a0, ()) = e  a0 := by kernel_rfl
theorem of (k : Nat) (a0 : Dt50) {y : Bool × Unit} (h : e  a0 = some y) : F (a0, ()) = some y := limF_of k ((eval k a0).trans h)
end atoms_normal
namespace ratio_Whole
def spec : Spec := ⟨[(false, (.int .i64))], [(true, Kt33)], .own, fun j => match j with  | _ => []⟩
def cals : Cals := (Cals.cons 35 whole_Of.sig (Cals.base tabs))
def sig : Sig := spec.sig cals T Try.f15
def F (x : Int × Unit) : Option (Dt33 × Unit) := limF spec cals T Try.f15 x
theorem ck : CalsOk Try.prog cals := (CalsOk.cons whole_Of.cal (CalsOk.base tabsOk))
theorem cal : CalOk Try.prog tabs 15 sig := calOk_lim' tabOk ck mix Try.func15 (by kernel_rfl) (by kernel_rfl) (by kernel_rfl) (by kernel_rfl)
def e  (a0 : Int) : Option (Dt33 × Unit) :=
 (whole_Of.F (a0, ())).bind fun y1 =>
 let v2 := ([(1 : Int)] : List Int)
 some (((y1.1.1, y1.1.2), v2), ())
theorem eval (k : Nat) (a0 : Int) : evalF spec cals T Try.f15 k (a0, ()) = e  a0 := by kernel_rfl
theorem of (k : Nat) (a0 : Int) {y : Dt33 × Unit} (h : e  a0 = some y) : F (a0, ()) = some y := limF_of k ((eval k a0).trans h)
end ratio_Whole
namespace whole_Neg
def spec : Spec := ⟨[(true, Kt31)], [(true, Kt31)], .own, fun j => match j with  | _ => []⟩
def cals : Cals := (Cals.cons 28 whole_Sign.sig (Cals.cons 56 whole_signed.sig (Cals.base tabs)))
def sig : Sig := spec.sig cals T Try.f34
def F (x : Dt31 × Unit) : Option (Dt31 × Unit) := limF spec cals T Try.f34 x
theorem ck : CalsOk Try.prog cals := (CalsOk.cons whole_Sign.cal (CalsOk.cons whole_signed.cal (CalsOk.base tabsOk)))
theorem cal : CalOk Try.prog tabs 34 sig := calOk_lim' tabOk ck mix Try.func34 (by kernel_rfl) (by kernel_rfl) (by kernel_rfl) (by kernel_rfl)
def e  (a0 : Dt31) : Option (Dt31 × Unit) :=
 (whole_Sign.F ((a0.1, a0.2), ())).bind fun y1 =>
 let v2 := ([(-1 : Int), y1.1] : List Int)
 (whole_signed.F (a0.2, v2, ())).bind fun y3 =>
 some ((y3.1.1, y3.1.2), ())
theorem eval (k : Nat) (a0 : Dt31) : evalF spec cals T Try.f34 k (a0, ()) = e  a0 := by kernel_rfl
theorem of (k : Nat) (a0 : Dt31) {y : Dt31 × Unit} (h : e  a0 = some y) : F (a0, ()) = some y := limF_of k ((eval k a0).trans h)
end whole_Neg
namespace ratio_Of
def spec : Spec := ⟨[(true, Kt31), (true, Kt31)], [(true, Kt33), (false, (.int .i64))], .own, fun j => match j with  | _ => []⟩
def cals : Cals := (Cals.cons 28 whole_Sign.sig (Cals.cons 34 whole_Neg.sig (Cals.cons 50 ratio_made.sig (Cals.base tabs))))
def sig : Sig := spec.sig cals T Try.f25
def F (x : Dt31 × Dt31 × Unit) : Option (Dt33 × Int × Unit) := limF spec cals T Try.f25 x
theorem ck : CalsOk Try.prog cals := (CalsOk.cons whole_Sign.cal (CalsOk.cons whole_Neg.cal (CalsOk.cons ratio_made.cal (CalsOk.base tabsOk))))
theorem cal : CalOk Try.prog tabs 25 sig := calOk_lim' tabOk ck mix Try.func25 (by kernel_rfl) (by kernel_rfl) (by kernel_rfl) (by kernel_rfl)
def e  (a0 : Dt31) (a1 : Dt31) : Option (Dt33 × Int × Unit) :=
 (whole_Sign.F ((a1.1, a1.2), ())).bind fun y1 =>
 let v2 := (y1.1 == (0 : Int))
 bif v2 then (some (zt33, (11 : Int), ()))
 else ((whole_Sign.F ((a1.1, a1.2), ())).bind fun y3 =>
 let v4 := decide (y3.1 < (0 : Int))
 bif v4 then ((whole_Neg.F ((a0.1, a0.2), ())).bind fun y5 =>
 (ratio_made.F ((y5.1.1, y5.1.2), a1.2, ())).bind fun y6 =>
 some (((y6.1.1.1, y6.1.1.2), y6.1.2), (0 : Int), ()))
 else ((ratio_made.F ((a0.1, a0.2), a1.2, ())).bind fun y7 =>
 some (((y7.1.1.1, y7.1.1.2), y7.1.2), (0 : Int), ())))
theorem eval (k : Nat) (a0 : Dt31) (a1 : Dt31) : evalF spec cals T Try.f25 k (a0, a1, ()) = e  a0 a1 := by kernel_rfl
theorem of (k : Nat) (a0 : Dt31) (a1 : Dt31) {y : Dt33 × Int × Unit} (h : e  a0 a1 = some y) : F (a0, a1, ()) = some y := limF_of k ((eval k a0 a1).trans h)
end ratio_Of
namespace ratio_Inv
def spec : Spec := ⟨[(true, Kt33)], [(true, Kt33), (false, (.int .i64))], .own, fun j => match j with  | _ => []⟩
def cals : Cals := (Cals.cons 29 ratio_Norm.sig (Cals.cons 25 ratio_Of.sig (Cals.base tabs)))
def sig : Sig := spec.sig cals T Try.f26
def F (x : Dt33 × Unit) : Option (Dt33 × Int × Unit) := limF spec cals T Try.f26 x
theorem ck : CalsOk Try.prog cals := (CalsOk.cons ratio_Norm.cal (CalsOk.cons ratio_Of.cal (CalsOk.base tabsOk)))
theorem cal : CalOk Try.prog tabs 26 sig := calOk_lim' tabOk ck mix Try.func26 (by kernel_rfl) (by kernel_rfl) (by kernel_rfl) (by kernel_rfl)
def e  (a0 : Dt33) : Option (Dt33 × Int × Unit) :=
 (ratio_Norm.F (((a0.1.1, a0.1.2), a0.2), ())).bind fun y1 =>
 (ratio_Of.F ((false, y1.1.2), (y1.1.1.1, y1.1.1.2), ())).bind fun y2 =>
 some (((y2.1.1.1, y2.1.1.2), y2.1.2), y2.2.1, ())
theorem eval (k : Nat) (a0 : Dt33) : evalF spec cals T Try.f26 k (a0, ()) = e  a0 := by kernel_rfl
theorem of (k : Nat) (a0 : Dt33) {y : Dt33 × Int × Unit} (h : e  a0 = some y) : F (a0, ()) = some y := limF_of k ((eval k a0).trans h)
end ratio_Inv
namespace ratio_Mul
def spec : Spec := ⟨[(true, Kt33), (true, Kt33)], [(true, Kt33)], .own, fun j => match j with  | _ => []⟩
def cals : Cals := (Cals.cons 29 ratio_Norm.sig (Cals.cons 55 whole_Mul.sig (Cals.cons 24 nat_Mul.sig (Cals.cons 50 ratio_made.sig (Cals.base tabs)))))
def sig : Sig := spec.sig cals T Try.f33
def F (x : Dt33 × Dt33 × Unit) : Option (Dt33 × Unit) := limF spec cals T Try.f33 x
theorem ck : CalsOk Try.prog cals := (CalsOk.cons ratio_Norm.cal (CalsOk.cons whole_Mul.cal (CalsOk.cons nat_Mul.cal (CalsOk.cons ratio_made.cal (CalsOk.base tabsOk)))))
theorem cal : CalOk Try.prog tabs 33 sig := calOk_lim' tabOk ck mix Try.func33 (by kernel_rfl) (by kernel_rfl) (by kernel_rfl) (by kernel_rfl)
def e  (a0 : Dt33) (a1 : Dt33) : Option (Dt33 × Unit) :=
 (ratio_Norm.F (((a0.1.1, a0.1.2), a0.2), ())).bind fun y1 =>
 (ratio_Norm.F (((a1.1.1, a1.1.2), a1.2), ())).bind fun y2 =>
 (whole_Mul.F ((y1.1.1.1, y1.1.1.2), (y2.1.1.1, y2.1.1.2), ())).bind fun y3 =>
 (nat_Mul.F (y1.1.2, y2.1.2, ())).bind fun y4 =>
 (ratio_made.F ((y3.1.1, y3.1.2), y4.1, ())).bind fun y5 =>
 some (((y5.1.1.1, y5.1.1.2), y5.1.2), ())
theorem eval (k : Nat) (a0 : Dt33) (a1 : Dt33) : evalF spec cals T Try.f33 k (a0, a1, ()) = e  a0 a1 := by kernel_rfl
theorem of (k : Nat) (a0 : Dt33) (a1 : Dt33) {y : Dt33 × Unit} (h : e  a0 a1 = some y) : F (a0, a1, ()) = some y := limF_of k ((eval k a0 a1).trans h)
end ratio_Mul
namespace linear_Scale
def spec : Spec := ⟨[(true, Kt33), (false, Kt37)], [(false, Kt37)], .own, fun j => match j with | 5 => [(2, .box 33 [.v false, .z 55 (.int .u32) false, .z 55 (.int .u32) false]), (5, .lf (.o 36 Kt36 true)), (13, .lf (.v true)), (14, .lf (.v true))] | _ => []⟩
def cals : Cals := (Cals.cons 10 ratio_Sign.sig (Cals.cons 20 linear_Norm.sig (Cals.cons 33 ratio_Mul.sig (Cals.base tabs))))
def sig : Sig := spec.sig cals T Try.f27
def F (x : Dt33 × Dt37 × Unit) : Option (Dt37 × Unit) := limF spec cals T Try.f27 x
theorem ck : CalsOk Try.prog cals := (CalsOk.cons ratio_Sign.cal (CalsOk.cons linear_Norm.cal (CalsOk.cons ratio_Mul.cal (CalsOk.base tabsOk))))
theorem cal : CalOk Try.prog tabs 27 sig := calOk_lim' tabOk ck mix Try.func27 (by kernel_rfl) (by kernel_rfl) (by kernel_rfl) (by kernel_rfl)
def m5 (x2_0 : Bool) (x2_1 : Dt29) (x2_2 : Dt29) (x5 : Dt37) (x13 : Int) (x14 : Int) : S := ⟨[(2, .box 0 0), (5, .one (.lf (.own 0))), (13, .one (.lf (.val true (.int .i64) x13))), (14, .one (.lf (.val true (.int .i64) x14)))], ⟨[some ⟨36, Kt36, true, true, x5⟩], [some ⟨33, [.val false .bool x2_0, .val false Kt29 x2_1, .val false Kt29 x2_2]⟩]⟩⟩
def b5 (f5 : Bool → Dt29 → Dt29 → Dt37 → Int → Int → Option (Dt37 × Unit)) (x2_0 : Bool) (x2_1 : Dt29) (x2_2 : Dt29) (x5 : Dt37) (x13 : Int) (x14 : Int) : Option (Dt37 × Unit) :=
 let v1 := decide (x14 < x13)
 bif v1 then (bif decide (0 ≤ x14) && decide (x14 < (List.length x5 : Int)) then (let v2 := (((List.getD x5 (Int.toNat x14) zt36).2).1).1
 let v3 := (((List.getD x5 (Int.toNat x14) zt36).2).1).2
 let v4 := ((List.getD x5 (Int.toNat x14) zt36).2).2
 (ratio_Mul.F (((x2_0, x2_1), x2_2), ((v2, v3), v4), ())).bind fun y5 =>
 bif decide (0 ≤ x14) && decide (x14 < (List.length x5 : Int)) then (let v6 := List.set x5 (Int.toNat x14) ((List.getD x5 (Int.toNat x14) zt36).1, ((y5.1.1.1, y5.1.1.2), y5.1.2))
 let v7 := IntKind.i64.wrap (x14 + (1 : Int))
 f5 x2_0 x2_1 x2_2 v6 x13 v7)
 else none)
 else none)
 else (some (x5, ()))
def e (f5 : Bool → Dt29 → Dt29 → Dt37 → Int → Int → Option (Dt37 × Unit)) (a0 : Dt33) (a1 : Dt37) : Option (Dt37 × Unit) :=
 (ratio_Sign.F (((a0.1.1, a0.1.2), a0.2), ())).bind fun y1 =>
 let v2 := (y1.1 == (0 : Int))
 bif v2 then (some (zt37, ()))
 else ((linear_Norm.F (a1, ())).bind fun y3 =>
 let v4 := (List.length y3.1 : Int)
 f5 a0.1.1 a0.1.2 a0.2 y3.1 v4 (0 : Int))
def L5 (k : Nat) (x2_0 : Bool) (x2_1 : Dt29) (x2_2 : Dt29) (x5 : Dt37) (x13 : Int) (x14 : Int) : Option (Dt37 × Unit) := heads (spec.env cals T Try.f27) (Func.pts Try.f27) k 5 (m5 x2_0 x2_1 x2_2 x5 x13 x14)
theorem L5_succ (k : Nat) (x2_0 : Bool) (x2_1 : Dt29) (x2_2 : Dt29) (x5 : Dt37) (x13 : Int) (x14 : Int) : L5 (k + 1) x2_0 x2_1 x2_2 x5 x13 x14 = b5 (L5 k) x2_0 x2_1 x2_2 x5 x13 x14 := by kernel_rfl
theorem eval (k : Nat) (a0 : Dt33) (a1 : Dt37) : evalF spec cals T Try.f27 k (a0, a1, ()) = e (L5 k) a0 a1 := by kernel_rfl
theorem of (k : Nat) (a0 : Dt33) (a1 : Dt37) {y : Dt37 × Unit} (h : e (L5 k) a0 a1 = some y) : F (a0, a1, ()) = some y := limF_of k ((eval k a0 a1).trans h)
end linear_Scale
namespace linear_Prime
def spec : Spec := ⟨[(false, Kt37)], [(false, Kt37), (true, Kt33)], .own, fun j => match j with | 7 => [(0, .lf (.o 36 Kt36 true)), (3, .box 33 [.v true, .v true, .v true]), (4, .lf (.o 55 (.int .u32) true)), (5, .lf (.o 55 (.int .u32) true)), (23, .lf (.o 36 Kt36 true)), (24, .lf (.v true)), (25, .lf (.v true))] | _ => []⟩
def cals : Cals := (Cals.cons 20 linear_Norm.sig (Cals.cons 15 ratio_Whole.sig (Cals.cons 21 nat_Of.sig (Cals.cons 22 nat_Gcd.sig (Cals.cons 23 nat_Div.sig (Cals.cons 24 nat_Mul.sig (Cals.cons 10 ratio_Sign.sig (Cals.cons 25 ratio_Of.sig (Cals.cons 26 ratio_Inv.sig (Cals.cons 27 linear_Scale.sig (Cals.base tabs)))))))))))
def sig : Sig := spec.sig cals T Try.f9
def F (x : Dt37 × Unit) : Option (Dt37 × Dt33 × Unit) := limF spec cals T Try.f9 x
theorem ck : CalsOk Try.prog cals := (CalsOk.cons linear_Norm.cal (CalsOk.cons ratio_Whole.cal (CalsOk.cons nat_Of.cal (CalsOk.cons nat_Gcd.cal (CalsOk.cons nat_Div.cal (CalsOk.cons nat_Mul.cal (CalsOk.cons ratio_Sign.cal (CalsOk.cons ratio_Of.cal (CalsOk.cons ratio_Inv.cal (CalsOk.cons linear_Scale.cal (CalsOk.base tabsOk)))))))))))
theorem cal : CalOk Try.prog tabs 9 sig := calOk_lim' tabOk ck mix Try.func9 (by kernel_rfl) (by kernel_rfl) (by kernel_rfl) (by kernel_rfl)
def m7 (x0 : Dt37) (x3_0 : Bool) (x4 : Dt29) (x5 : Dt29) (x24 : Int) (x25 : Int) : S := ⟨[(0, .one (.lf (.own 0))), (3, .box 0 0), (4, .one (.lf (.own 1))), (5, .one (.lf (.own 2))), (23, .one (.lf (.own 0))), (24, .one (.lf (.val true (.int .i64) x24))), (25, .one (.lf (.val true (.int .i64) x25)))], ⟨[some ⟨36, Kt36, true, true, x0⟩, some ⟨55, (.int .u32), true, true, x4⟩, some ⟨55, (.int .u32), true, true, x5⟩], [some ⟨33, [.val true .bool x3_0, .nil, .nil]⟩]⟩⟩
def b7 (f7 : Dt37 → Bool → Dt29 → Dt29 → Int → Int → Option (Dt37 × Dt33 × Unit)) (x0 : Dt37) (x3_0 : Bool) (x4 : Dt29) (x5 : Dt29) (x24 : Int) (x25 : Int) : Option (Dt37 × Dt33 × Unit) :=
 let v1 := decide (x25 < x24)
 bif v1 then (bif decide (0 ≤ x25) && decide (x25 < (List.length x0 : Int)) then (let v2 := (List.getD x0 (Int.toNat x25) zt36).1
 let v3 := (((List.getD x0 (Int.toNat x25) zt36).2).1).1
 let v4 := (((List.getD x0 (Int.toNat x25) zt36).2).1).2
 let v5 := ((List.getD x0 (Int.toNat x25) zt36).2).2
 (nat_Gcd.F (x4, v4, ())).bind fun y6 =>
 (nat_Gcd.F (x5, v5, ())).bind fun y7 =>
 (nat_Div.F (v5, y7.1, ())).bind fun y8 =>
 (nat_Mul.F (x5, y8.1, ())).bind fun y9 =>
 let v10 := IntKind.i64.wrap (x25 + (1 : Int))
 f7 x0 x3_0 y6.1 y9.1 x24 v10)
 else none)
 else (bif decide (0 ≤ (0 : Int)) && decide ((0 : Int) < (List.length x0 : Int)) then (let v11 := (((List.getD x0 (Int.toNat (0 : Int)) zt36).2).1).1
 let v12 := (((List.getD x0 (Int.toNat (0 : Int)) zt36).2).1).2
 let v13 := ((List.getD x0 (Int.toNat (0 : Int)) zt36).2).2
 (ratio_Sign.F (((v11, v12), v13), ())).bind fun y14 =>
 let v15 := decide (y14.1 < (0 : Int))
 (ratio_Of.F ((v15, x4), (false, x5), ())).bind fun y16 =>
 (ratio_Inv.F (((y16.1.1.1, y16.1.1.2), y16.1.2), ())).bind fun y17 =>
 (linear_Scale.F (((y17.1.1.1, y17.1.1.2), y17.1.2), x0, ())).bind fun y18 =>
 some (y18.1, ((y16.1.1.1, y16.1.1.2), y16.1.2), ()))
 else none)
def e (f7 : Dt37 → Bool → Dt29 → Dt29 → Int → Int → Option (Dt37 × Dt33 × Unit)) (a0 : Dt37) : Option (Dt37 × Dt33 × Unit) :=
 (linear_Norm.F (a0, ())).bind fun y1 =>
 let v2 := (List.length y1.1 : Int)
 let v3 := (v2 == (0 : Int))
 bif v3 then ((ratio_Whole.F ((1 : Int), ())).bind fun y4 =>
 some (zt37, ((y4.1.1.1, y4.1.1.2), y4.1.2), ()))
 else ((nat_Of.F ((1 : Int), ())).bind fun y5 =>
 let v6 := (List.length y1.1 : Int)
 f7 y1.1 false zt29 y5.1 v6 (0 : Int))
def L7 (k : Nat) (x0 : Dt37) (x3_0 : Bool) (x4 : Dt29) (x5 : Dt29) (x24 : Int) (x25 : Int) : Option (Dt37 × Dt33 × Unit) := heads (spec.env cals T Try.f9) (Func.pts Try.f9) k 7 (m7 x0 x3_0 x4 x5 x24 x25)
theorem L7_succ (k : Nat) (x0 : Dt37) (x3_0 : Bool) (x4 : Dt29) (x5 : Dt29) (x24 : Int) (x25 : Int) : L7 (k + 1) x0 x3_0 x4 x5 x24 x25 = b7 (L7 k) x0 x3_0 x4 x5 x24 x25 := by kernel_rfl
theorem eval (k : Nat) (a0 : Dt37) : evalF spec cals T Try.f9 k (a0, ()) = e (L7 k) a0 := by kernel_rfl
theorem of (k : Nat) (a0 : Dt37) {y : Dt37 × Dt33 × Unit} (h : e (L7 k) a0 = some y) : F (a0, ()) = some y := limF_of k ((eval k a0).trans h)
end linear_Prime
namespace atoms_may
def spec : Spec := ⟨[(true, Kt50)], [(false, .bool)], .own, fun j => match j with  | _ => []⟩
def cals : Cals := (Cals.cons 18 atoms_normal.sig (Cals.cons 10 ratio_Sign.sig (Cals.cons 9 linear_Prime.sig (Cals.cons 43 atoms_sameForm.sig (Cals.base tabs)))))
def sig : Sig := spec.sig cals T Try.f19
def F (x : Dt50 × Unit) : Option (Bool × Unit) := limF spec cals T Try.f19 x
theorem ck : CalsOk Try.prog cals := (CalsOk.cons atoms_normal.cal (CalsOk.cons ratio_Sign.cal (CalsOk.cons linear_Prime.cal (CalsOk.cons atoms_sameForm.cal (CalsOk.base tabsOk)))))
theorem cal : CalOk Try.prog tabs 19 sig := calOk_lim' tabOk ck mix Try.func19 (by kernel_rfl) (by kernel_rfl) (by kernel_rfl) (by kernel_rfl)
def e  (a0 : Dt50) : Option (Bool × Unit) :=
 (atoms_normal.F ((a0.1, (a0.2.1, (((a0.2.2.1.1.1, a0.2.2.1.1.2), a0.2.2.1.2), a0.2.2.2))), ())).bind fun y1 =>
 let v2 := not y1.1
 bif v2 then (some (false, ()))
 else (let v3 := (!(a0.1.toList == (⟨#[]⟩ : ByteArray).toList))
 bif v3 then (let v4 := (List.length a0.2.1 : Int)
 let v5 := (v4 == (0 : Int))
 bif v5 then ((ratio_Sign.F (((a0.2.2.1.1.1, a0.2.2.1.1.2), a0.2.2.1.2), ())).bind fun y6 =>
 let v7 := (y6.1 == (0 : Int))
 bif v7 then (let v8 := not a0.2.2.2
 some (v8, ()))
 else (some (false, ())))
 else (some (false, ())))
 else ((linear_Prime.F (a0.2.1, ())).bind fun y9 =>
 let v10 := (List.length y9.1 : Int)
 let v11 := decide (v10 > (0 : Int))
 bif v11 then ((atoms_sameForm.F (y9.1, a0.2.1, ())).bind fun y12 =>
 some (y12.1, ()))
 else (some (false, ()))))
theorem eval (k : Nat) (a0 : Dt50) : evalF spec cals T Try.f19 k (a0, ()) = e  a0 := by kernel_rfl
theorem of (k : Nat) (a0 : Dt50) {y : Bool × Unit} (h : e  a0 = some y) : F (a0, ()) = some y := limF_of k ((eval k a0).trans h)
end atoms_may
namespace atoms_load
def spec : Spec := ⟨[(false, Kt23)], [(false, .mp), (false, .bool)], .fresh, fun j => match j with | 8 => [(5, .mpo), (48, .lf (.z 50 Kt50 false)), (49, .lf (.v true)), (50, .lf (.v true))] | _ => []⟩
def cals : Cals := (Cals.cons 10 ratio_Sign.sig (Cals.cons 18 atoms_normal.sig (Cals.cons 12 atoms_key.sig (Cals.cons 19 atoms_may.sig (Cals.base tabs)))))
def sig : Sig := spec.sig cals T Try.f8
def F (x : Dt23 × Unit) : Option ((List (ByteArray × Int)) × Bool × Unit) := limF spec cals T Try.f8 x
theorem ck : CalsOk Try.prog cals := (CalsOk.cons ratio_Sign.cal (CalsOk.cons atoms_normal.cal (CalsOk.cons atoms_key.cal (CalsOk.cons atoms_may.cal (CalsOk.base tabsOk)))))
theorem cal : CalOk Try.prog tabs 8 sig := calOk_lim' tabOk ck mix Try.func8 (by kernel_rfl) (by kernel_rfl) (by kernel_rfl) (by kernel_rfl)
def m8 (x5 : (List (ByteArray × Int))) (x48 : Dt23) (x49 : Int) (x50 : Int) : S := ⟨[(5, .mpo 0), (48, .one (.lf (.val false Kt23 x48))), (49, .one (.lf (.val true (.int .i64) x49))), (50, .one (.lf (.val true (.int .i64) x50)))], ⟨[some ⟨0, eK, true, true, x5⟩], []⟩⟩
def b8 (f8 : (List (ByteArray × Int)) → Dt23 → Int → Int → Option ((List (ByteArray × Int)) × Bool × Unit)) (x5 : (List (ByteArray × Int))) (x48 : Dt23) (x49 : Int) (x50 : Int) : Option ((List (ByteArray × Int)) × Bool × Unit) :=
 let v1 := decide (x50 < x49)
 bif v1 then (bif decide (0 ≤ x50) && decide (x50 < (List.length x48 : Int)) then (let v2 := (List.getD x48 (Int.toNat x50) zt50).1
 let v3 := ((List.getD x48 (Int.toNat x50) zt50).2).1
 let v4 := (((((List.getD x48 (Int.toNat x50) zt50).2).2).1).1).1
 let v5 := (((((List.getD x48 (Int.toNat x50) zt50).2).2).1).1).2
 let v6 := ((((List.getD x48 (Int.toNat x50) zt50).2).2).1).2
 let v7 := (((List.getD x48 (Int.toNat x50) zt50).2).2).2
 (atoms_key.F ((v2, (v3, (((v4, v5), v6), v7))), ())).bind fun y8 =>
 let v9 := mpFind y8.1 x5
 bif Option.isSome v9 then (some (([] : List (ByteArray × Int)), false, ()))
 else ((atoms_may.F ((v2, (v3, (((v4, v5), v6), v7))), ())).bind fun y10 =>
 let v11 := not y10.1
 bif v11 then (some (([] : List (ByteArray × Int)), false, ()))
 else (let v12 := IntKind.i64.wrap (x50 + (2 : Int))
 let v13 := mpPut y8.1 v12 x5
 let v14 := IntKind.i64.wrap (x50 + (1 : Int))
 f8 v13 x48 x49 v14)))
 else none)
 else (some (x5, true, ()))
def e (f8 : (List (ByteArray × Int)) → Dt23 → Int → Int → Option ((List (ByteArray × Int)) × Bool × Unit)) (a0 : Dt23) : Option ((List (ByteArray × Int)) × Bool × Unit) :=
 let v1 := (List.length a0 : Int)
 let v2 := (v1 == (0 : Int))
 bif v2 then (some (([] : List (ByteArray × Int)), false, ()))
 else (let v3 := (List.length a0 : Int)
 let v4 := decide (v3 > (262144 : Int))
 bif v4 then (some (([] : List (ByteArray × Int)), false, ()))
 else (bif decide (0 ≤ (0 : Int)) && decide ((0 : Int) < (List.length a0 : Int)) then (let v5 := (List.getD a0 (Int.toNat (0 : Int)) zt50).1
 let v6 := ((List.getD a0 (Int.toNat (0 : Int)) zt50).2).1
 let v7 := (((((List.getD a0 (Int.toNat (0 : Int)) zt50).2).2).1).1).1
 let v8 := (((((List.getD a0 (Int.toNat (0 : Int)) zt50).2).2).1).1).2
 let v9 := ((((List.getD a0 (Int.toNat (0 : Int)) zt50).2).2).1).2
 let v10 := (((List.getD a0 (Int.toNat (0 : Int)) zt50).2).2).2
 let v11 := (!(v5.toList == (⟨#[]⟩ : ByteArray).toList))
 bif v11 then (some (([] : List (ByteArray × Int)), false, ()))
 else (let v12 := (List.length v6 : Int)
 let v13 := decide (v12 > (0 : Int))
 bif v13 then (some (([] : List (ByteArray × Int)), false, ()))
 else ((ratio_Sign.F (((v7, v8), v9), ())).bind fun y14 =>
 let v15 := (y14.1 != (0 : Int))
 bif v15 then (some (([] : List (ByteArray × Int)), false, ()))
 else (bif v10 then (some (([] : List (ByteArray × Int)), false, ()))
 else ((atoms_normal.F ((v5, (v6, (((v7, v8), v9), v10))), ())).bind fun y16 =>
 let v17 := not y16.1
 bif v17 then (some (([] : List (ByteArray × Int)), false, ()))
 else (bif decide (0 ≤ (1 : Int)) && decide ((1 : Int) ≤ (List.length a0 : Int)) then (let v18 := List.drop (Int.toNat (1 : Int)) a0
 let v19 := (List.length v18 : Int)
 f8 ([] : List (ByteArray × Int)) v18 v19 (0 : Int))
 else none))))))
 else none))
def L8 (k : Nat) (x5 : (List (ByteArray × Int))) (x48 : Dt23) (x49 : Int) (x50 : Int) : Option ((List (ByteArray × Int)) × Bool × Unit) := heads (spec.env cals T Try.f8) (Func.pts Try.f8) k 8 (m8 x5 x48 x49 x50)
theorem L8_succ (k : Nat) (x5 : (List (ByteArray × Int))) (x48 : Dt23) (x49 : Int) (x50 : Int) : L8 (k + 1) x5 x48 x49 x50 = b8 (L8 k) x5 x48 x49 x50 := by kernel_rfl
theorem eval (k : Nat) (a0 : Dt23) : evalF spec cals T Try.f8 k (a0, ()) = e (L8 k) a0 := by kernel_rfl
theorem of (k : Nat) (a0 : Dt23) {y : (List (ByteArray × Int)) × Bool × Unit} (h : e (L8 k) a0 = some y) : F (a0, ()) = some y := limF_of k ((eval k a0).trans h)
end atoms_load
namespace atoms_put
def spec : Spec := ⟨[(false, Kt23), (false, .mp), (true, Kt50)], [(false, Kt23), (false, (.int .i64)), (false, (.int .i64))], .shared, fun j => match j with | 7 => [(5, .box 50 [.v true, .z 36 Kt36 true, .v true, .z 55 (.int .u32) true, .z 55 (.int .u32) true, .v true]), (9, .lf (.v true)), (10, .lf (.v true)), (11, .lf (.o 50 Kt50 true)), (37, .lf (.v true)), (38, .lf (.v true))] | _ => []⟩
def cals : Cals := (Cals.cons 12 atoms_key.sig (Cals.cons 30 atoms_own.sig (Cals.base tabs)))
def sig : Sig := spec.sig cals T Try.f11
def F (x : Dt23 × (List (ByteArray × Int)) × Dt50 × Unit) : Option (Dt23 × Int × Int × Unit) := limF spec cals T Try.f11 x
theorem ck : CalsOk Try.prog cals := (CalsOk.cons atoms_key.cal (CalsOk.cons atoms_own.cal (CalsOk.base tabsOk)))
theorem cal : CalOk Try.prog tabs 11 sig := calOk_lim' tabOk ck mix Try.func11 (by kernel_rfl) (by kernel_rfl) (by kernel_rfl) (by kernel_rfl)
def m7 (x5_0 : ByteArray) (x5_1 : Dt37) (x5_2 : Bool) (x5_3 : Dt29) (x5_4 : Dt29) (x5_5 : Bool) (x9 : Int) (x10 : Bool) (x11 : Dt23) (x37 : Int) (x38 : Int) : S := ⟨[(5, .box 0 0), (9, .one (.lf (.val true (.int .i64) x9))), (10, .one (.lf (.val true .bool x10))), (11, .one (.lf (.own 0))), (37, .one (.lf (.val true (.int .i64) x37))), (38, .one (.lf (.val true (.int .i64) x38)))], ⟨[some ⟨50, Kt50, true, true, x11⟩], [some ⟨50, [.val true .str x5_0, .val true Kt37 x5_1, .val true .bool x5_2, .val true Kt29 x5_3, .val true Kt29 x5_4, .val true .bool x5_5]⟩]⟩⟩
def b7 (f7 : ByteArray → Dt37 → Bool → Dt29 → Dt29 → Bool → Int → Bool → Dt23 → Int → Int → Option (Dt23 × Int × Int × Unit)) (x5_0 : ByteArray) (x5_1 : Dt37) (x5_2 : Bool) (x5_3 : Dt29) (x5_4 : Dt29) (x5_5 : Bool) (x9 : Int) (x10 : Bool) (x11 : Dt23) (x37 : Int) (x38 : Int) : Option (Dt23 × Int × Int × Unit) :=
 let v1 := decide (x38 < x37)
 bif v1 then (bif decide (0 ≤ x38) && decide (x38 < (List.length x11 : Int)) then (let v2 := (List.getD x11 (Int.toNat x38) zt50).1
 let v3 := ((List.getD x11 (Int.toNat x38) zt50).2).1
 let v4 := (((((List.getD x11 (Int.toNat x38) zt50).2).2).1).1).1
 let v5 := (((((List.getD x11 (Int.toNat x38) zt50).2).2).1).1).2
 let v6 := ((((List.getD x11 (Int.toNat x38) zt50).2).2).1).2
 let v7 := (((List.getD x11 (Int.toNat x38) zt50).2).2).2
 (atoms_own.F ((v2, (v3, (((v4, v5), v6), v7))), ())).bind fun y8 =>
 bif decide (0 ≤ x38) && decide (x38 < (List.length x11 : Int)) then (let v9 := List.set x11 (Int.toNat x38) (y8.1.1, (y8.1.2.1, (((y8.1.2.2.1.1.1, y8.1.2.2.1.1.2), y8.1.2.2.1.2), y8.1.2.2.2)))
 let v10 := IntKind.i64.wrap (x38 + (1 : Int))
 f7 x5_0 x5_1 x5_2 x5_3 x5_4 x5_5 x9 x10 v9 x37 v10)
 else none)
 else none)
 else (let v11 := not x10
 bif v11 then ((atoms_own.F ((x5_0, (x5_1, (((x5_2, x5_3), x5_4), x5_5))), ())).bind fun y12 =>
 let v13 := ([(y12.1.1, (y12.1.2.1, (((y12.1.2.2.1.1.1, y12.1.2.2.1.1.2), y12.1.2.2.1.2), y12.1.2.2.2)))] : List Dt50)
 bif decide (List.length x11 + List.length v13 < 1353245080339) then (let v14 := List.append x11 v13
 let v15 := (List.length v14 : Int)
 some (v14, v15, (0 : Int), ()))
 else none)
 else (some (x11, x9, (0 : Int), ())))
def e (f7 : ByteArray → Dt37 → Bool → Dt29 → Dt29 → Bool → Int → Bool → Dt23 → Int → Int → Option (Dt23 × Int × Int × Unit)) (a0 : Dt23) (a1 : (List (ByteArray × Int))) (a2 : Dt50) : Option (Dt23 × Int × Int × Unit) :=
 (atoms_key.F ((a2.1, (a2.2.1, (((a2.2.2.1.1.1, a2.2.2.1.1.2), a2.2.2.1.2), a2.2.2.2))), ())).bind fun y1 =>
 let v2 := mpFind y1.1 a1
 let v3 := not (Option.isSome v2)
 bif v3 then (let v4 := (List.length a0 : Int)
 let v5 := (v4 == (262144 : Int))
 bif v5 then (some (zt23, (0 : Int), (2 : Int), ()))
 else (let v6 := (List.length a0 : Int)
 let v7 := (List.length a0 : Int)
 let v8 := IntKind.i64.wrap (v7 + (1 : Int))
 bif decide (0 ≤ v6) && (decide (v6 ≤ v8) && (decide (Int.toNat v8 * 104 ≤ 281474976710656) && Nat.blt 0 104)) then (let v9 := List.replicate (Int.toNat v6) zt50
 let v10 := List.take (List.length v9) a0 ++ List.drop (List.length a0) v9
 let v11 := ((Nat.min (List.length a0) (List.length v9) : Nat) : Int)
 let v12 := (List.length v10 : Int)
 f7 a2.1 a2.2.1 a2.2.2.1.1.1 a2.2.2.1.1.2 a2.2.2.1.2 a2.2.2.2 (Option.getD v2 (0 : Int)) (Option.isSome v2) v10 v12 (0 : Int))
 else none))
 else (let v13 := (List.length a0 : Int)
 let v14 := (List.length a0 : Int)
 let v15 := IntKind.i64.wrap (v14 + (1 : Int))
 bif decide (0 ≤ v13) && (decide (v13 ≤ v15) && (decide (Int.toNat v15 * 104 ≤ 281474976710656) && Nat.blt 0 104)) then (let v16 := List.replicate (Int.toNat v13) zt50
 let v17 := List.take (List.length v16) a0 ++ List.drop (List.length a0) v16
 let v18 := ((Nat.min (List.length a0) (List.length v16) : Nat) : Int)
 let v19 := (List.length v17 : Int)
 f7 a2.1 a2.2.1 a2.2.2.1.1.1 a2.2.2.1.1.2 a2.2.2.1.2 a2.2.2.2 (Option.getD v2 (0 : Int)) (Option.isSome v2) v17 v19 (0 : Int))
 else none)
def L7 (k : Nat) (x5_0 : ByteArray) (x5_1 : Dt37) (x5_2 : Bool) (x5_3 : Dt29) (x5_4 : Dt29) (x5_5 : Bool) (x9 : Int) (x10 : Bool) (x11 : Dt23) (x37 : Int) (x38 : Int) : Option (Dt23 × Int × Int × Unit) := heads (spec.env cals T Try.f11) (Func.pts Try.f11) k 7 (m7 x5_0 x5_1 x5_2 x5_3 x5_4 x5_5 x9 x10 x11 x37 x38)
theorem L7_succ (k : Nat) (x5_0 : ByteArray) (x5_1 : Dt37) (x5_2 : Bool) (x5_3 : Dt29) (x5_4 : Dt29) (x5_5 : Bool) (x9 : Int) (x10 : Bool) (x11 : Dt23) (x37 : Int) (x38 : Int) : L7 (k + 1) x5_0 x5_1 x5_2 x5_3 x5_4 x5_5 x9 x10 x11 x37 x38 = b7 (L7 k) x5_0 x5_1 x5_2 x5_3 x5_4 x5_5 x9 x10 x11 x37 x38 := by kernel_rfl
theorem eval (k : Nat) (a0 : Dt23) (a1 : (List (ByteArray × Int))) (a2 : Dt50) : evalF spec cals T Try.f11 k (a0, a1, a2, ()) = e (L7 k) a0 a1 a2 := by kernel_rfl
theorem of (k : Nat) (a0 : Dt23) (a1 : (List (ByteArray × Int))) (a2 : Dt50) {y : Dt23 × Int × Int × Unit} (h : e (L7 k) a0 a1 a2 = some y) : F (a0, a1, a2, ()) = some y := limF_of k ((eval k a0 a1 a2).trans h)
end atoms_put
namespace ratio_Div
def spec : Spec := ⟨[(true, Kt33), (true, Kt33)], [(true, Kt33), (false, (.int .i64))], .own, fun j => match j with  | _ => []⟩
def cals : Cals := (Cals.cons 26 ratio_Inv.sig (Cals.cons 33 ratio_Mul.sig (Cals.base tabs)))
def sig : Sig := spec.sig cals T Try.f13
def F (x : Dt33 × Dt33 × Unit) : Option (Dt33 × Int × Unit) := limF spec cals T Try.f13 x
theorem ck : CalsOk Try.prog cals := (CalsOk.cons ratio_Inv.cal (CalsOk.cons ratio_Mul.cal (CalsOk.base tabsOk)))
theorem cal : CalOk Try.prog tabs 13 sig := calOk_lim' tabOk ck mix Try.func13 (by kernel_rfl) (by kernel_rfl) (by kernel_rfl) (by kernel_rfl)
def e  (a0 : Dt33) (a1 : Dt33) : Option (Dt33 × Int × Unit) :=
 (ratio_Inv.F (((a1.1.1, a1.1.2), a1.2), ())).bind fun y1 =>
 let v2 := (y1.2.1 != (0 : Int))
 bif v2 then (some (zt33, y1.2.1, ()))
 else ((ratio_Mul.F (((a0.1.1, a0.1.2), a0.2), ((y1.1.1.1, y1.1.1.2), y1.1.2), ())).bind fun y3 =>
 some (((y3.1.1.1, y3.1.1.2), y3.1.2), (0 : Int), ()))
theorem eval (k : Nat) (a0 : Dt33) (a1 : Dt33) : evalF spec cals T Try.f13 k (a0, a1, ()) = e  a0 a1 := by kernel_rfl
theorem of (k : Nat) (a0 : Dt33) (a1 : Dt33) {y : Dt33 × Int × Unit} (h : e  a0 a1 = some y) : F (a0, a1, ()) = some y := limF_of k ((eval k a0 a1).trans h)
end ratio_Div
namespace ratio_Neg
def spec : Spec := ⟨[(true, Kt33)], [(true, Kt33)], .own, fun j => match j with  | _ => []⟩
def cals : Cals := (Cals.cons 29 ratio_Norm.sig (Cals.cons 34 whole_Neg.sig (Cals.base tabs)))
def sig : Sig := spec.sig cals T Try.f14
def F (x : Dt33 × Unit) : Option (Dt33 × Unit) := limF spec cals T Try.f14 x
theorem ck : CalsOk Try.prog cals := (CalsOk.cons ratio_Norm.cal (CalsOk.cons whole_Neg.cal (CalsOk.base tabsOk)))
theorem cal : CalOk Try.prog tabs 14 sig := calOk_lim' tabOk ck mix Try.func14 (by kernel_rfl) (by kernel_rfl) (by kernel_rfl) (by kernel_rfl)
def e  (a0 : Dt33) : Option (Dt33 × Unit) :=
 (ratio_Norm.F (((a0.1.1, a0.1.2), a0.2), ())).bind fun y1 =>
 (whole_Neg.F ((y1.1.1.1, y1.1.1.2), ())).bind fun y2 =>
 some (((y2.1.1, y2.1.2), y1.1.2), ())
theorem eval (k : Nat) (a0 : Dt33) : evalF spec cals T Try.f14 k (a0, ()) = e  a0 := by kernel_rfl
theorem of (k : Nat) (a0 : Dt33) {y : Dt33 × Unit} (h : e  a0 = some y) : F (a0, ()) = some y := limF_of k ((eval k a0).trans h)
end ratio_Neg
namespace atoms_Below
def spec : Spec := ⟨[(false, Kt23), (true, Kt40), (false, .bool)], [(false, Kt23), (false, (.int .i64)), (false, (.int .i64))], .shared, fun j => match j with  | _ => []⟩
def cals : Cals := (Cals.cons 8 atoms_load.sig (Cals.cons 9 linear_Prime.sig (Cals.cons 10 ratio_Sign.sig (Cals.cons 12 atoms_key.sig (Cals.cons 11 atoms_put.sig (Cals.cons 14 ratio_Neg.sig (Cals.cons 13 ratio_Div.sig (Cals.base tabs))))))))
def sig : Sig := spec.sig cals T Try.f5
def F (x : Dt23 × Dt40 × Bool × Unit) : Option (Dt23 × Int × Int × Unit) := limF spec cals T Try.f5 x
theorem ck : CalsOk Try.prog cals := (CalsOk.cons atoms_load.cal (CalsOk.cons linear_Prime.cal (CalsOk.cons ratio_Sign.cal (CalsOk.cons atoms_key.cal (CalsOk.cons atoms_put.cal (CalsOk.cons ratio_Neg.cal (CalsOk.cons ratio_Div.cal (CalsOk.base tabsOk))))))))
theorem cal : CalOk Try.prog tabs 5 sig := calOk_lim' tabOk ck mix Try.func5 (by kernel_rfl) (by kernel_rfl) (by kernel_rfl) (by kernel_rfl)
def e  (a0 : Dt23) (a1 : Dt40) (a2 : Bool) : Option (Dt23 × Int × Int × Unit) :=
 (atoms_load.F (a0, ())).bind fun y1 =>
 let v2 := not y1.2.1
 bif v2 then (some (zt23, (0 : Int), (170 : Int), ()))
 else ((linear_Prime.F (a1.1, ())).bind fun y3 =>
 let v4 := (List.length y3.1 : Int)
 let v5 := (v4 == (0 : Int))
 bif v5 then ((ratio_Sign.F (((a1.2.1.1, a1.2.1.2), a1.2.2), ())).bind fun y6 =>
 let v7 := decide (y6.1 < (0 : Int))
 bif v7 then (bif decide (0 ≤ (0 : Int)) && decide ((0 : Int) < (List.length a0 : Int)) then (let v8 := (List.getD a0 (Int.toNat (0 : Int)) zt50).1
 let v9 := ((List.getD a0 (Int.toNat (0 : Int)) zt50).2).1
 let v10 := (((((List.getD a0 (Int.toNat (0 : Int)) zt50).2).2).1).1).1
 let v11 := (((((List.getD a0 (Int.toNat (0 : Int)) zt50).2).2).1).1).2
 let v12 := ((((List.getD a0 (Int.toNat (0 : Int)) zt50).2).2).1).2
 let v13 := (((List.getD a0 (Int.toNat (0 : Int)) zt50).2).2).2
 (atoms_key.F ((v8, (v9, (((v10, v11), v12), v13))), ())).bind fun y14 =>
 let v15 := mpPut y14.1 (1 : Int) ([] : List (ByteArray × Int))
 bif decide (0 ≤ (0 : Int)) && decide ((0 : Int) < (List.length a0 : Int)) then (let v16 := (List.getD a0 (Int.toNat (0 : Int)) zt50).1
 let v17 := ((List.getD a0 (Int.toNat (0 : Int)) zt50).2).1
 let v18 := (((((List.getD a0 (Int.toNat (0 : Int)) zt50).2).2).1).1).1
 let v19 := (((((List.getD a0 (Int.toNat (0 : Int)) zt50).2).2).1).1).2
 let v20 := ((((List.getD a0 (Int.toNat (0 : Int)) zt50).2).2).1).2
 let v21 := (((List.getD a0 (Int.toNat (0 : Int)) zt50).2).2).2
 (atoms_put.F (a0, v15, (v16, (v17, (((v18, v19), v20), v21))), ())).bind fun y22 =>
 some (y22.1, (1 : Int), (0 : Int), ()))
 else none)
 else none)
 else (let v23 := (y6.1 == (0 : Int))
 bif v23 then (let v24 := not a2
 bif v24 then (bif decide (0 ≤ (0 : Int)) && decide ((0 : Int) < (List.length a0 : Int)) then (let v25 := (List.getD a0 (Int.toNat (0 : Int)) zt50).1
 let v26 := ((List.getD a0 (Int.toNat (0 : Int)) zt50).2).1
 let v27 := (((((List.getD a0 (Int.toNat (0 : Int)) zt50).2).2).1).1).1
 let v28 := (((((List.getD a0 (Int.toNat (0 : Int)) zt50).2).2).1).1).2
 let v29 := ((((List.getD a0 (Int.toNat (0 : Int)) zt50).2).2).1).2
 let v30 := (((List.getD a0 (Int.toNat (0 : Int)) zt50).2).2).2
 (atoms_key.F ((v25, (v26, (((v27, v28), v29), v30))), ())).bind fun y31 =>
 let v32 := mpPut y31.1 (1 : Int) ([] : List (ByteArray × Int))
 bif decide (0 ≤ (0 : Int)) && decide ((0 : Int) < (List.length a0 : Int)) then (let v33 := (List.getD a0 (Int.toNat (0 : Int)) zt50).1
 let v34 := ((List.getD a0 (Int.toNat (0 : Int)) zt50).2).1
 let v35 := (((((List.getD a0 (Int.toNat (0 : Int)) zt50).2).2).1).1).1
 let v36 := (((((List.getD a0 (Int.toNat (0 : Int)) zt50).2).2).1).1).2
 let v37 := ((((List.getD a0 (Int.toNat (0 : Int)) zt50).2).2).1).2
 let v38 := (((List.getD a0 (Int.toNat (0 : Int)) zt50).2).2).2
 (atoms_put.F (a0, v32, (v33, (v34, (((v35, v36), v37), v38))), ())).bind fun y39 =>
 some (y39.1, (1 : Int), (0 : Int), ()))
 else none)
 else none)
 else (bif decide (0 ≤ (0 : Int)) && decide ((0 : Int) < (List.length a0 : Int)) then (let v40 := (List.getD a0 (Int.toNat (0 : Int)) zt50).1
 let v41 := ((List.getD a0 (Int.toNat (0 : Int)) zt50).2).1
 let v42 := (((((List.getD a0 (Int.toNat (0 : Int)) zt50).2).2).1).1).1
 let v43 := (((((List.getD a0 (Int.toNat (0 : Int)) zt50).2).2).1).1).2
 let v44 := ((((List.getD a0 (Int.toNat (0 : Int)) zt50).2).2).1).2
 let v45 := (((List.getD a0 (Int.toNat (0 : Int)) zt50).2).2).2
 (atoms_key.F ((v40, (v41, (((v42, v43), v44), v45))), ())).bind fun y46 =>
 let v47 := mpPut y46.1 (1 : Int) ([] : List (ByteArray × Int))
 bif decide (0 ≤ (0 : Int)) && decide ((0 : Int) < (List.length a0 : Int)) then (let v48 := (List.getD a0 (Int.toNat (0 : Int)) zt50).1
 let v49 := ((List.getD a0 (Int.toNat (0 : Int)) zt50).2).1
 let v50 := (((((List.getD a0 (Int.toNat (0 : Int)) zt50).2).2).1).1).1
 let v51 := (((((List.getD a0 (Int.toNat (0 : Int)) zt50).2).2).1).1).2
 let v52 := ((((List.getD a0 (Int.toNat (0 : Int)) zt50).2).2).1).2
 let v53 := (((List.getD a0 (Int.toNat (0 : Int)) zt50).2).2).2
 (atoms_put.F (a0, v47, (v48, (v49, (((v50, v51), v52), v53))), ())).bind fun y54 =>
 some (y54.1, (-1 : Int), (0 : Int), ()))
 else none)
 else none))
 else (bif decide (0 ≤ (0 : Int)) && decide ((0 : Int) < (List.length a0 : Int)) then (let v55 := (List.getD a0 (Int.toNat (0 : Int)) zt50).1
 let v56 := ((List.getD a0 (Int.toNat (0 : Int)) zt50).2).1
 let v57 := (((((List.getD a0 (Int.toNat (0 : Int)) zt50).2).2).1).1).1
 let v58 := (((((List.getD a0 (Int.toNat (0 : Int)) zt50).2).2).1).1).2
 let v59 := ((((List.getD a0 (Int.toNat (0 : Int)) zt50).2).2).1).2
 let v60 := (((List.getD a0 (Int.toNat (0 : Int)) zt50).2).2).2
 (atoms_key.F ((v55, (v56, (((v57, v58), v59), v60))), ())).bind fun y61 =>
 let v62 := mpPut y61.1 (1 : Int) ([] : List (ByteArray × Int))
 bif decide (0 ≤ (0 : Int)) && decide ((0 : Int) < (List.length a0 : Int)) then (let v63 := (List.getD a0 (Int.toNat (0 : Int)) zt50).1
 let v64 := ((List.getD a0 (Int.toNat (0 : Int)) zt50).2).1
 let v65 := (((((List.getD a0 (Int.toNat (0 : Int)) zt50).2).2).1).1).1
 let v66 := (((((List.getD a0 (Int.toNat (0 : Int)) zt50).2).2).1).1).2
 let v67 := ((((List.getD a0 (Int.toNat (0 : Int)) zt50).2).2).1).2
 let v68 := (((List.getD a0 (Int.toNat (0 : Int)) zt50).2).2).2
 (atoms_put.F (a0, v62, (v63, (v64, (((v65, v66), v67), v68))), ())).bind fun y69 =>
 some (y69.1, (-1 : Int), (0 : Int), ()))
 else none)
 else none)))
 else ((ratio_Neg.F (((y3.2.1.1.1, y3.2.1.1.2), y3.2.1.2), ())).bind fun y70 =>
 (ratio_Div.F (((a1.2.1.1, a1.2.1.2), a1.2.2), ((y70.1.1.1, y70.1.1.2), y70.1.2), ())).bind fun y71 =>
 (ratio_Sign.F (((y3.2.1.1.1, y3.2.1.1.2), y3.2.1.2), ())).bind fun y72 =>
 let v73 := decide (y72.1 > (0 : Int))
 let v74 := (a2 == v73)
 (atoms_put.F (a0, y1.1, (ByteArray.empty, (y3.1, (((y71.1.1.1, y71.1.1.2), y71.1.2), v74))), ())).bind fun y75 =>
 let v76 := (y75.2.2.1 != (0 : Int))
 bif v76 then (some (y75.1, y75.2.1, y75.2.2.1, ()))
 else (bif v73 then (some (y75.1, y75.2.1, y75.2.2.1, ()))
 else (let v77 := negI .i64 y75.2.1
 some (y75.1, v77, (0 : Int), ())))))
theorem eval (k : Nat) (a0 : Dt23) (a1 : Dt40) (a2 : Bool) : evalF spec cals T Try.f5 k (a0, a1, a2, ()) = e  a0 a1 a2 := by kernel_rfl
theorem of (k : Nat) (a0 : Dt23) (a1 : Dt40) (a2 : Bool) {y : Dt23 × Int × Int × Unit} (h : e  a0 a1 a2 = some y) : F (a0, a1, a2, ()) = some y := limF_of k ((eval k a0 a1 a2).trans h)
end atoms_Below
namespace atoms_New
def spec : Spec := ⟨[], [(false, Kt23)], .own, fun j => match j with  | _ => []⟩
def cals : Cals := (Cals.cons 15 ratio_Whole.sig (Cals.base tabs))
def sig : Sig := spec.sig cals T Try.f6
def F (x : Unit) : Option (Dt23 × Unit) := limF spec cals T Try.f6 x
theorem ck : CalsOk Try.prog cals := (CalsOk.cons ratio_Whole.cal (CalsOk.base tabsOk))
theorem cal : CalOk Try.prog tabs 6 sig := calOk_lim' tabOk ck mix Try.func6 (by kernel_rfl) (by kernel_rfl) (by kernel_rfl) (by kernel_rfl)
def e   : Option (Dt23 × Unit) :=
 (ratio_Whole.F ((0 : Int), ())).bind fun y1 =>
 let v2 := ([(ByteArray.empty, (zt37, (((y1.1.1.1, y1.1.1.2), y1.1.2), false)))] : List Dt50)
 some (v2, ())
theorem eval (k : Nat)  : evalF spec cals T Try.f6 k () = e   := by kernel_rfl
theorem of (k : Nat)  {y : Dt23 × Unit} (h : e   = some y) : F () = some y := limF_of k ((eval k ).trans h)
end atoms_New
namespace r01_Norm
def spec : Spec := ⟨[(false, Kt29)], [(false, Kt29)], .own, fun j => match j with | 2 => [(0, .lf (.z 55 (.int .u32) false)), (3, .lf (.v true))] | 6 => [(0, .lf (.z 55 (.int .u32) false)), (3, .lf (.v true)), (4, .lf (.o 55 (.int .u32) true)), (5, .lf (.v true))] | _ => []⟩
def cals : Cals := (Cals.base tabs)
def sig : Sig := spec.sig cals T Try.f37
def F (x : Dt29 × Unit) : Option (Dt29 × Unit) := limF spec cals T Try.f37 x
theorem ck : CalsOk Try.prog cals := (CalsOk.base tabsOk)
theorem cal : CalOk Try.prog tabs 37 sig := calOk_lim' tabOk ck mix Try.func37 (by kernel_rfl) (by kernel_rfl) (by kernel_rfl) (by kernel_rfl)
def m2 (x0 : Dt29) (x3 : Int) : S := ⟨[(0, .one (.lf (.val false Kt29 x0))), (3, .one (.lf (.val true (.int .i64) x3)))], ⟨[], []⟩⟩
def m6 (x0 : Dt29) (x3 : Int) (x4 : Dt29) (x5 : Int) : S := ⟨[(0, .one (.lf (.val false Kt29 x0))), (3, .one (.lf (.val true (.int .i64) x3))), (4, .one (.lf (.own 0))), (5, .one (.lf (.val true (.int .i64) x5)))], ⟨[some ⟨55, (.int .u32), true, true, x4⟩], []⟩⟩
def b2 (f2 : Dt29 → Int → Option (Dt29 × Unit)) (f6 : Dt29 → Int → Dt29 → Int → Option (Dt29 × Unit)) (x0 : Dt29) (x3 : Int) : Option (Dt29 × Unit) :=
 let v1 := decide (x3 > (0 : Int))
 bif v1 then (let v2 := IntKind.i64.wrap (x3 - (1 : Int))
 bif decide (0 ≤ v2) && decide (v2 < (List.length x0 : Int)) then (let v3 := List.getD x0 (Int.toNat v2) (0 : Int)
 let v4 := (v3 == (0 : Int))
 bif v4 then (let v5 := IntKind.i64.wrap (x3 - (1 : Int))
 f2 x0 v5)
 else (bif decide (0 ≤ x3) && (decide (x3 ≤ x3) && (decide (Int.toNat x3 * 4 ≤ 281474976710656) && Nat.blt 0 4)) then (let v6 := List.replicate (Int.toNat x3) (0 : Int)
 f6 x0 x3 v6 (0 : Int))
 else none))
 else none)
 else (bif decide (0 ≤ x3) && (decide (x3 ≤ x3) && (decide (Int.toNat x3 * 4 ≤ 281474976710656) && Nat.blt 0 4)) then (let v7 := List.replicate (Int.toNat x3) (0 : Int)
 f6 x0 x3 v7 (0 : Int))
 else none)
def b6 (f2 : Dt29 → Int → Option (Dt29 × Unit)) (f6 : Dt29 → Int → Dt29 → Int → Option (Dt29 × Unit)) (x0 : Dt29) (x3 : Int) (x4 : Dt29) (x5 : Int) : Option (Dt29 × Unit) :=
 let v1 := decide (x5 < x3)
 bif v1 then (bif decide (0 ≤ x5) && decide (x5 < (List.length x0 : Int)) then (let v2 := List.getD x0 (Int.toNat x5) (0 : Int)
 bif decide (0 ≤ x5) && decide (x5 < (List.length x4 : Int)) then (let v3 := List.set x4 (Int.toNat x5) v2
 let v4 := IntKind.i64.wrap (x5 + (1 : Int))
 f6 x0 x3 v3 v4)
 else none)
 else none)
 else (some (x4, ()))
def e (f2 : Dt29 → Int → Option (Dt29 × Unit)) (f6 : Dt29 → Int → Dt29 → Int → Option (Dt29 × Unit)) (a0 : Dt29) : Option (Dt29 × Unit) :=
 let v1 := (List.length a0 : Int)
 f2 a0 v1
def L2 (k : Nat) (x0 : Dt29) (x3 : Int) : Option (Dt29 × Unit) := heads (spec.env cals T Try.f37) (Func.pts Try.f37) k 2 (m2 x0 x3)
def L6 (k : Nat) (x0 : Dt29) (x3 : Int) (x4 : Dt29) (x5 : Int) : Option (Dt29 × Unit) := heads (spec.env cals T Try.f37) (Func.pts Try.f37) k 6 (m6 x0 x3 x4 x5)
theorem L2_succ (k : Nat) (x0 : Dt29) (x3 : Int) : L2 (k + 1) x0 x3 = b2 (L2 k) (L6 k) x0 x3 := by kernel_rfl
theorem L6_succ (k : Nat) (x0 : Dt29) (x3 : Int) (x4 : Dt29) (x5 : Int) : L6 (k + 1) x0 x3 x4 x5 = b6 (L2 k) (L6 k) x0 x3 x4 x5 := by kernel_rfl
theorem eval (k : Nat) (a0 : Dt29) : evalF spec cals T Try.f37 k (a0, ()) = e (L2 k) (L6 k) a0 := by kernel_rfl
theorem of (k : Nat) (a0 : Dt29) {y : Dt29 × Unit} (h : e (L2 k) (L6 k) a0 = some y) : F (a0, ()) = some y := limF_of k ((eval k a0).trans h)
end r01_Norm
namespace r02_made
def spec : Spec := ⟨[(false, .bool), (false, Kt29)], [(true, Kt31)], .own, fun j => match j with  | _ => []⟩
def cals : Cals := (Cals.cons 37 r01_Norm.sig (Cals.base tabs))
def sig : Sig := spec.sig cals T Try.f40
def F (x : Bool × Dt29 × Unit) : Option (Dt31 × Unit) := limF spec cals T Try.f40 x
theorem ck : CalsOk Try.prog cals := (CalsOk.cons r01_Norm.cal (CalsOk.base tabsOk))
theorem cal : CalOk Try.prog tabs 40 sig := calOk_lim' tabOk ck mix Try.func40 (by kernel_rfl) (by kernel_rfl) (by kernel_rfl) (by kernel_rfl)
def e  (a0 : Bool) (a1 : Dt29) : Option (Dt31 × Unit) :=
 (r01_Norm.F (a1, ())).bind fun y1 =>
 bif a0 then (let v2 := (List.length y1.1 : Int)
 let v3 := decide (v2 > (0 : Int))
 some ((v3, y1.1), ()))
 else (some ((false, y1.1), ()))
theorem eval (k : Nat) (a0 : Bool) (a1 : Dt29) : evalF spec cals T Try.f40 k (a0, a1, ()) = e  a0 a1 := by kernel_rfl
theorem of (k : Nat) (a0 : Bool) (a1 : Dt29) {y : Dt31 × Unit} (h : e  a0 a1 = some y) : F (a0, a1, ()) = some y := limF_of k ((eval k a0 a1).trans h)
end r02_made
namespace r02_Norm
def spec : Spec := ⟨[(true, Kt31)], [(true, Kt31)], .own, fun j => match j with  | _ => []⟩
def cals : Cals := (Cals.cons 40 r02_made.sig (Cals.base tabs))
def sig : Sig := spec.sig cals T Try.f36
def F (x : Dt31 × Unit) : Option (Dt31 × Unit) := limF spec cals T Try.f36 x
theorem ck : CalsOk Try.prog cals := (CalsOk.cons r02_made.cal (CalsOk.base tabsOk))
theorem cal : CalOk Try.prog tabs 36 sig := calOk_lim' tabOk ck mix Try.func36 (by kernel_rfl) (by kernel_rfl) (by kernel_rfl) (by kernel_rfl)
def e  (a0 : Dt31) : Option (Dt31 × Unit) :=
 (r02_made.F (a0.1, a0.2, ())).bind fun y1 =>
 some ((y1.1.1, y1.1.2), ())
theorem eval (k : Nat) (a0 : Dt31) : evalF spec cals T Try.f36 k (a0, ()) = e  a0 := by kernel_rfl
theorem of (k : Nat) (a0 : Dt31) {y : Dt31 × Unit} (h : e  a0 = some y) : F (a0, ()) = some y := limF_of k ((eval k a0).trans h)
end r02_Norm
namespace r01_at
def spec : Spec := ⟨[(false, Kt29), (false, (.int .i64))], [(false, (.int .u64))], .own, fun j => match j with  | _ => []⟩
def cals : Cals := (Cals.base tabs)
def sig : Sig := spec.sig cals T Try.f76
def F (x : Dt29 × Int × Unit) : Option (Int × Unit) := limF spec cals T Try.f76 x
theorem ck : CalsOk Try.prog cals := (CalsOk.base tabsOk)
theorem cal : CalOk Try.prog tabs 76 sig := calOk_lim' tabOk ck mix Try.func76 (by kernel_rfl) (by kernel_rfl) (by kernel_rfl) (by kernel_rfl)
def e  (a0 : Dt29) (a1 : Int) : Option (Int × Unit) :=
 let v1 := (List.length a0 : Int)
 let v2 := decide (a1 ≥ v1)
 bif v2 then (some ((0 : Int), ()))
 else (bif decide (0 ≤ a1) && decide (a1 < (List.length a0 : Int)) then (let v3 := List.getD a0 (Int.toNat a1) (0 : Int)
 let v4 := IntKind.u64.wrap v3
 some (v4, ()))
 else none)
theorem eval (k : Nat) (a0 : Dt29) (a1 : Int) : evalF spec cals T Try.f76 k (a0, a1, ()) = e  a0 a1 := by kernel_rfl
theorem of (k : Nat) (a0 : Dt29) (a1 : Int) {y : Int × Unit} (h : e  a0 a1 = some y) : F (a0, a1, ()) = some y := limF_of k ((eval k a0 a1).trans h)
end r01_at
namespace r01_Cmp
def spec : Spec := ⟨[(false, Kt29), (false, Kt29)], [(false, (.int .i64))], .own, fun j => match j with | 5 => [(0, .lf (.z 55 (.int .u32) false)), (1, .lf (.z 55 (.int .u32) false)), (6, .lf (.v true))] | _ => []⟩
def cals : Cals := (Cals.cons 76 r01_at.sig (Cals.base tabs))
def sig : Sig := spec.sig cals T Try.f57
def F (x : Dt29 × Dt29 × Unit) : Option (Int × Unit) := limF spec cals T Try.f57 x
theorem ck : CalsOk Try.prog cals := (CalsOk.cons r01_at.cal (CalsOk.base tabsOk))
theorem cal : CalOk Try.prog tabs 57 sig := calOk_lim' tabOk ck mix Try.func57 (by kernel_rfl) (by kernel_rfl) (by kernel_rfl) (by kernel_rfl)
def m5 (x0 : Dt29) (x1 : Dt29) (x6 : Int) : S := ⟨[(0, .one (.lf (.val false Kt29 x0))), (1, .one (.lf (.val false Kt29 x1))), (6, .one (.lf (.val true (.int .i64) x6)))], ⟨[], []⟩⟩
def b5 (f5 : Dt29 → Dt29 → Int → Option (Int × Unit)) (x0 : Dt29) (x1 : Dt29) (x6 : Int) : Option (Int × Unit) :=
 let v1 := decide (x6 ≥ (0 : Int))
 bif v1 then ((r01_at.F (x0, x6, ())).bind fun y2 =>
 (r01_at.F (x1, x6, ())).bind fun y3 =>
 let v4 := decide (y2.1 < y3.1)
 bif v4 then (some ((-1 : Int), ()))
 else ((r01_at.F (x0, x6, ())).bind fun y5 =>
 (r01_at.F (x1, x6, ())).bind fun y6 =>
 let v7 := decide (y5.1 > y6.1)
 bif v7 then (some ((1 : Int), ()))
 else (let v8 := IntKind.i64.wrap (x6 - (1 : Int))
 f5 x0 x1 v8)))
 else (some ((0 : Int), ()))
def e (f5 : Dt29 → Dt29 → Int → Option (Int × Unit)) (a0 : Dt29) (a1 : Dt29) : Option (Int × Unit) :=
 let v1 := (List.length a0 : Int)
 let v2 := (List.length a1 : Int)
 let v3 := decide (v2 > v1)
 bif v3 then (let v4 := (List.length a1 : Int)
 let v5 := IntKind.i64.wrap (v4 - (1 : Int))
 f5 a0 a1 v5)
 else (let v6 := IntKind.i64.wrap (v1 - (1 : Int))
 f5 a0 a1 v6)
def L5 (k : Nat) (x0 : Dt29) (x1 : Dt29) (x6 : Int) : Option (Int × Unit) := heads (spec.env cals T Try.f57) (Func.pts Try.f57) k 5 (m5 x0 x1 x6)
theorem L5_succ (k : Nat) (x0 : Dt29) (x1 : Dt29) (x6 : Int) : L5 (k + 1) x0 x1 x6 = b5 (L5 k) x0 x1 x6 := by kernel_rfl
theorem eval (k : Nat) (a0 : Dt29) (a1 : Dt29) : evalF spec cals T Try.f57 k (a0, a1, ()) = e (L5 k) a0 a1 := by kernel_rfl
theorem of (k : Nat) (a0 : Dt29) (a1 : Dt29) {y : Int × Unit} (h : e (L5 k) a0 a1 = some y) : F (a0, a1, ()) = some y := limF_of k ((eval k a0 a1).trans h)
end r01_Cmp
namespace r01_Bit
def spec : Spec := ⟨[(false, Kt29), (false, (.int .i64))], [(false, .bool)], .own, fun j => match j with  | _ => []⟩
def cals : Cals := (Cals.base tabs)
def sig : Sig := spec.sig cals T Try.f58
def F (x : Dt29 × Int × Unit) : Option (Bool × Unit) := limF spec cals T Try.f58 x
theorem ck : CalsOk Try.prog cals := (CalsOk.base tabsOk)
theorem cal : CalOk Try.prog tabs 58 sig := calOk_lim' tabOk ck mix Try.func58 (by kernel_rfl) (by kernel_rfl) (by kernel_rfl) (by kernel_rfl)
def e  (a0 : Dt29) (a1 : Int) : Option (Bool × Unit) :=
 let v1 := decide (a1 ≥ (0 : Int))
 bif v1 then (bif decide ((32 : Int) = 0) then none
 else (let v2 := IntKind.i64.wrap (Int.tdiv a1 (32 : Int))
 let v3 := (List.length a0 : Int)
 let v4 := decide (v2 < v3)
 bif v4 then (bif decide ((32 : Int) = 0) then none
 else (let v5 := IntKind.i64.wrap (Int.tdiv a1 (32 : Int))
 bif decide (0 ≤ v5) && decide (v5 < (List.length a0 : Int)) then (let v6 := List.getD a0 (Int.toNat v5) (0 : Int)
 bif decide ((32 : Int) = 0) then none
 else (let v7 := Int.tmod a1 (32 : Int)
 let v8 := IntKind.u64.wrap v7
 bif decide (v8 < 0) then none
 else (let v9 := shrI .u32 v6 v8
 let v10 := bitsOp .and .u32 v9 (1 : Int)
 let v11 := (v10 == (1 : Int))
 some (v11, ()))))
 else none))
 else (some (false, ()))))
 else (some (false, ()))
theorem eval (k : Nat) (a0 : Dt29) (a1 : Int) : evalF spec cals T Try.f58 k (a0, a1, ()) = e  a0 a1 := by kernel_rfl
theorem of (k : Nat) (a0 : Dt29) (a1 : Int) {y : Bool × Unit} (h : e  a0 a1 = some y) : F (a0, a1, ()) = some y := limF_of k ((eval k a0 a1).trans h)
end r01_Bit
namespace r01_Shift
def spec : Spec := ⟨[(false, Kt29), (false, (.int .i64))], [(false, Kt29), (false, (.int .i64))], .own, fun j => match j with | 15 => [(0, .lf (.z 55 (.int .u32) false)), (6, .lf (.v true)), (7, .lf (.o 55 (.int .u32) true)), (8, .lf (.v true)), (9, .lf (.v true)), (10, .lf (.v true))] | _ => []⟩
def cals : Cals := (Cals.cons 37 r01_Norm.sig (Cals.base tabs))
def sig : Sig := spec.sig cals T Try.f59
def F (x : Dt29 × Int × Unit) : Option (Dt29 × Int × Unit) := limF spec cals T Try.f59 x
theorem ck : CalsOk Try.prog cals := (CalsOk.cons r01_Norm.cal (CalsOk.base tabsOk))
theorem cal : CalOk Try.prog tabs 59 sig := calOk_lim' tabOk ck mix Try.func59 (by kernel_rfl) (by kernel_rfl) (by kernel_rfl) (by kernel_rfl)
def m15 (x0 : Dt29) (x6 : Int) (x7 : Dt29) (x8 : Int) (x9 : Int) (x10 : Int) : S := ⟨[(0, .one (.lf (.val false Kt29 x0))), (6, .one (.lf (.val true (.int .i64) x6))), (7, .one (.lf (.own 0))), (8, .one (.lf (.val true (.int .i64) x8))), (9, .one (.lf (.val true (.int .i64) x9))), (10, .one (.lf (.val true (.int .i64) x10)))], ⟨[some ⟨55, (.int .u32), true, true, x7⟩], []⟩⟩
def b15 (f15 : Dt29 → Int → Dt29 → Int → Int → Int → Option (Dt29 × Int × Unit)) (x0 : Dt29) (x6 : Int) (x7 : Dt29) (x8 : Int) (x9 : Int) (x10 : Int) : Option (Dt29 × Int × Unit) :=
 let v1 := (List.length x0 : Int)
 let v2 := decide (x10 < v1)
 bif v2 then (bif decide (0 ≤ x10) && decide (x10 < (List.length x0 : Int)) then (let v3 := List.getD x0 (Int.toNat x10) (0 : Int)
 let v4 := IntKind.u64.wrap v3
 let v5 := IntKind.u64.wrap x9
 bif decide (v5 < 0) then none
 else (let v6 := shlI .u64 v4 v5
 let v7 := IntKind.i64.wrap (x10 + x8)
 let v8 := decide (v7 ≥ (0 : Int))
 bif v8 then (let v9 := IntKind.i64.wrap (x10 + x8)
 let v10 := decide (v9 < x6)
 bif v10 then (let v11 := IntKind.i64.wrap (x10 + x8)
 bif decide (0 ≤ v11) && decide (v11 < (List.length x7 : Int)) then (let v12 := List.getD x7 (Int.toNat v11) (0 : Int)
 let v13 := IntKind.u32.wrap v6
 let v14 := bitsOp .or .u32 v12 v13
 bif decide (0 ≤ v11) && decide (v11 < (List.length x7 : Int)) then (let v15 := List.set x7 (Int.toNat v11) v14
 let v16 := IntKind.i64.wrap (x10 + x8)
 let v17 := IntKind.i64.wrap (v16 + (1 : Int))
 let v18 := decide (v17 ≥ (0 : Int))
 bif v18 then (let v19 := IntKind.i64.wrap (x10 + x8)
 let v20 := IntKind.i64.wrap (v19 + (1 : Int))
 let v21 := decide (v20 < x6)
 bif v21 then (let v22 := IntKind.i64.wrap (x10 + x8)
 let v23 := IntKind.i64.wrap (v22 + (1 : Int))
 bif decide (0 ≤ v23) && decide (v23 < (List.length v15 : Int)) then (let v24 := List.getD v15 (Int.toNat v23) (0 : Int)
 bif decide ((32 : Int) < 0) then none
 else (let v25 := shrI .u64 v6 (32 : Int)
 let v26 := IntKind.u32.wrap v25
 let v27 := bitsOp .or .u32 v24 v26
 bif decide (0 ≤ v23) && decide (v23 < (List.length v15 : Int)) then (let v28 := List.set v15 (Int.toNat v23) v27
 let v29 := IntKind.i64.wrap (x10 + (1 : Int))
 f15 x0 x6 v28 x8 x9 v29)
 else none))
 else none)
 else (let v30 := IntKind.i64.wrap (x10 + (1 : Int))
 f15 x0 x6 v15 x8 x9 v30))
 else (let v31 := IntKind.i64.wrap (x10 + (1 : Int))
 f15 x0 x6 v15 x8 x9 v31))
 else none)
 else none)
 else (let v32 := IntKind.i64.wrap (x10 + x8)
 let v33 := IntKind.i64.wrap (v32 + (1 : Int))
 let v34 := decide (v33 ≥ (0 : Int))
 bif v34 then (let v35 := IntKind.i64.wrap (x10 + x8)
 let v36 := IntKind.i64.wrap (v35 + (1 : Int))
 let v37 := decide (v36 < x6)
 bif v37 then (let v38 := IntKind.i64.wrap (x10 + x8)
 let v39 := IntKind.i64.wrap (v38 + (1 : Int))
 bif decide (0 ≤ v39) && decide (v39 < (List.length x7 : Int)) then (let v40 := List.getD x7 (Int.toNat v39) (0 : Int)
 bif decide ((32 : Int) < 0) then none
 else (let v41 := shrI .u64 v6 (32 : Int)
 let v42 := IntKind.u32.wrap v41
 let v43 := bitsOp .or .u32 v40 v42
 bif decide (0 ≤ v39) && decide (v39 < (List.length x7 : Int)) then (let v44 := List.set x7 (Int.toNat v39) v43
 let v45 := IntKind.i64.wrap (x10 + (1 : Int))
 f15 x0 x6 v44 x8 x9 v45)
 else none))
 else none)
 else (let v46 := IntKind.i64.wrap (x10 + (1 : Int))
 f15 x0 x6 x7 x8 x9 v46))
 else (let v47 := IntKind.i64.wrap (x10 + (1 : Int))
 f15 x0 x6 x7 x8 x9 v47)))
 else (let v48 := IntKind.i64.wrap (x10 + x8)
 let v49 := IntKind.i64.wrap (v48 + (1 : Int))
 let v50 := decide (v49 ≥ (0 : Int))
 bif v50 then (let v51 := IntKind.i64.wrap (x10 + x8)
 let v52 := IntKind.i64.wrap (v51 + (1 : Int))
 let v53 := decide (v52 < x6)
 bif v53 then (let v54 := IntKind.i64.wrap (x10 + x8)
 let v55 := IntKind.i64.wrap (v54 + (1 : Int))
 bif decide (0 ≤ v55) && decide (v55 < (List.length x7 : Int)) then (let v56 := List.getD x7 (Int.toNat v55) (0 : Int)
 bif decide ((32 : Int) < 0) then none
 else (let v57 := shrI .u64 v6 (32 : Int)
 let v58 := IntKind.u32.wrap v57
 let v59 := bitsOp .or .u32 v56 v58
 bif decide (0 ≤ v55) && decide (v55 < (List.length x7 : Int)) then (let v60 := List.set x7 (Int.toNat v55) v59
 let v61 := IntKind.i64.wrap (x10 + (1 : Int))
 f15 x0 x6 v60 x8 x9 v61)
 else none))
 else none)
 else (let v62 := IntKind.i64.wrap (x10 + (1 : Int))
 f15 x0 x6 x7 x8 x9 v62))
 else (let v63 := IntKind.i64.wrap (x10 + (1 : Int))
 f15 x0 x6 x7 x8 x9 v63))))
 else none)
 else ((r01_Norm.F (x7, ())).bind fun y64 =>
 some (y64.1, (0 : Int), ()))
def e (f15 : Dt29 → Int → Dt29 → Int → Int → Int → Option (Dt29 × Int × Unit)) (a0 : Dt29) (a1 : Int) : Option (Dt29 × Int × Unit) :=
 let v1 := decide (a1 < (-1048576 : Int))
 bif v1 then (some (zt29, (12 : Int), ()))
 else (let v2 := decide (a1 > (1048576 : Int))
 bif v2 then (some (zt29, (12 : Int), ()))
 else ((r01_Norm.F (a0, ())).bind fun y3 =>
 let v4 := (List.length y3.1 : Int)
 let v5 := (v4 == (0 : Int))
 bif v5 then (let v6 := zt29
 some (v6, (0 : Int), ()))
 else (let v7 := (List.length a0 : Int)
 let v8 := decide (a1 > (0 : Int))
 bif v8 then (bif decide ((32 : Int) = 0) then none
 else (let v9 := IntKind.i64.wrap (Int.tdiv a1 (32 : Int))
 let v10 := IntKind.i64.wrap (v9 + (1 : Int))
 let v11 := IntKind.i64.wrap (v7 + v10)
 bif decide (0 ≤ v11) && (decide (v11 ≤ v11) && (decide (Int.toNat v11 * 4 ≤ 281474976710656) && Nat.blt 0 4)) then (let v12 := List.replicate (Int.toNat v11) (0 : Int)
 bif decide ((32 : Int) = 0) then none
 else (let v13 := IntKind.i64.wrap (Int.tdiv a1 (32 : Int))
 bif decide ((32 : Int) = 0) then none
 else (let v14 := Int.tmod a1 (32 : Int)
 let v15 := decide (v14 < (0 : Int))
 bif v15 then (let v16 := IntKind.i64.wrap (v13 - (1 : Int))
 let v17 := IntKind.i64.wrap (v14 + (32 : Int))
 f15 a0 v11 v12 v16 v17 (0 : Int))
 else (f15 a0 v11 v12 v13 v14 (0 : Int)))))
 else none))
 else (bif decide (0 ≤ v7) && (decide (v7 ≤ v7) && (decide (Int.toNat v7 * 4 ≤ 281474976710656) && Nat.blt 0 4)) then (let v18 := List.replicate (Int.toNat v7) (0 : Int)
 bif decide ((32 : Int) = 0) then none
 else (let v19 := IntKind.i64.wrap (Int.tdiv a1 (32 : Int))
 bif decide ((32 : Int) = 0) then none
 else (let v20 := Int.tmod a1 (32 : Int)
 let v21 := decide (v20 < (0 : Int))
 bif v21 then (let v22 := IntKind.i64.wrap (v19 - (1 : Int))
 let v23 := IntKind.i64.wrap (v20 + (32 : Int))
 f15 a0 v7 v18 v22 v23 (0 : Int))
 else (f15 a0 v7 v18 v19 v20 (0 : Int)))))
 else none))))
def L15 (k : Nat) (x0 : Dt29) (x6 : Int) (x7 : Dt29) (x8 : Int) (x9 : Int) (x10 : Int) : Option (Dt29 × Int × Unit) := heads (spec.env cals T Try.f59) (Func.pts Try.f59) k 15 (m15 x0 x6 x7 x8 x9 x10)
theorem L15_succ (k : Nat) (x0 : Dt29) (x6 : Int) (x7 : Dt29) (x8 : Int) (x9 : Int) (x10 : Int) : L15 (k + 1) x0 x6 x7 x8 x9 x10 = b15 (L15 k) x0 x6 x7 x8 x9 x10 := by kernel_rfl
theorem eval (k : Nat) (a0 : Dt29) (a1 : Int) : evalF spec cals T Try.f59 k (a0, a1, ()) = e (L15 k) a0 a1 := by kernel_rfl
theorem of (k : Nat) (a0 : Dt29) (a1 : Int) {y : Dt29 × Int × Unit} (h : e (L15 k) a0 a1 = some y) : F (a0, a1, ()) = some y := limF_of k ((eval k a0 a1).trans h)
end r01_Shift
namespace r01_Sub
def spec : Spec := ⟨[(false, Kt29), (false, Kt29)], [(false, Kt29), (false, (.int .i64))], .own, fun j => match j with | 6 => [(0, .lf (.z 55 (.int .u32) false)), (1, .lf (.z 55 (.int .u32) false)), (6, .lf (.o 55 (.int .u32) true)), (7, .lf (.v true)), (8, .lf (.v true))] | _ => []⟩
def cals : Cals := (Cals.cons 57 r01_Cmp.sig (Cals.cons 76 r01_at.sig (Cals.cons 37 r01_Norm.sig (Cals.base tabs))))
def sig : Sig := spec.sig cals T Try.f60
def F (x : Dt29 × Dt29 × Unit) : Option (Dt29 × Int × Unit) := limF spec cals T Try.f60 x
theorem ck : CalsOk Try.prog cals := (CalsOk.cons r01_Cmp.cal (CalsOk.cons r01_at.cal (CalsOk.cons r01_Norm.cal (CalsOk.base tabsOk))))
theorem cal : CalOk Try.prog tabs 60 sig := calOk_lim' tabOk ck mix Try.func60 (by kernel_rfl) (by kernel_rfl) (by kernel_rfl) (by kernel_rfl)
def m6 (x0 : Dt29) (x1 : Dt29) (x6 : Dt29) (x7 : Int) (x8 : Int) : S := ⟨[(0, .one (.lf (.val false Kt29 x0))), (1, .one (.lf (.val false Kt29 x1))), (6, .one (.lf (.own 0))), (7, .one (.lf (.val true (.int .u64) x7))), (8, .one (.lf (.val true (.int .i64) x8)))], ⟨[some ⟨55, (.int .u32), true, true, x6⟩], []⟩⟩
def b6 (f6 : Dt29 → Dt29 → Dt29 → Int → Int → Option (Dt29 × Int × Unit)) (x0 : Dt29) (x1 : Dt29) (x6 : Dt29) (x7 : Int) (x8 : Int) : Option (Dt29 × Int × Unit) :=
 let v1 := (List.length x0 : Int)
 let v2 := decide (x8 < v1)
 bif v2 then ((r01_at.F (x0, x8, ())).bind fun y3 =>
 (r01_at.F (x1, x8, ())).bind fun y4 =>
 let v5 := IntKind.u64.wrap (y3.1 - y4.1)
 let v6 := IntKind.u64.wrap (v5 - x7)
 let v7 := IntKind.u32.wrap v6
 bif decide (0 ≤ x8) && decide (x8 < (List.length x6 : Int)) then (let v8 := List.set x6 (Int.toNat x8) v7
 bif decide ((63 : Int) < 0) then none
 else (let v9 := shrI .u64 v6 (63 : Int)
 let v10 := IntKind.i64.wrap (x8 + (1 : Int))
 f6 x0 x1 v8 v9 v10))
 else none)
 else ((r01_Norm.F (x6, ())).bind fun y11 =>
 some (y11.1, (0 : Int), ()))
def e (f6 : Dt29 → Dt29 → Dt29 → Int → Int → Option (Dt29 × Int × Unit)) (a0 : Dt29) (a1 : Dt29) : Option (Dt29 × Int × Unit) :=
 (r01_Cmp.F (a0, a1, ())).bind fun y1 =>
 let v2 := decide (y1.1 < (0 : Int))
 bif v2 then (some (zt29, (10 : Int), ()))
 else (let v3 := (List.length a0 : Int)
 bif decide (0 ≤ v3) && (decide (v3 ≤ v3) && (decide (Int.toNat v3 * 4 ≤ 281474976710656) && Nat.blt 0 4)) then (let v4 := List.replicate (Int.toNat v3) (0 : Int)
 f6 a0 a1 v4 (0 : Int) (0 : Int))
 else none)
def L6 (k : Nat) (x0 : Dt29) (x1 : Dt29) (x6 : Dt29) (x7 : Int) (x8 : Int) : Option (Dt29 × Int × Unit) := heads (spec.env cals T Try.f60) (Func.pts Try.f60) k 6 (m6 x0 x1 x6 x7 x8)
theorem L6_succ (k : Nat) (x0 : Dt29) (x1 : Dt29) (x6 : Dt29) (x7 : Int) (x8 : Int) : L6 (k + 1) x0 x1 x6 x7 x8 = b6 (L6 k) x0 x1 x6 x7 x8 := by kernel_rfl
theorem eval (k : Nat) (a0 : Dt29) (a1 : Dt29) : evalF spec cals T Try.f60 k (a0, a1, ()) = e (L6 k) a0 a1 := by kernel_rfl
theorem of (k : Nat) (a0 : Dt29) (a1 : Dt29) {y : Dt29 × Int × Unit} (h : e (L6 k) a0 a1 = some y) : F (a0, a1, ()) = some y := limF_of k ((eval k a0 a1).trans h)
end r01_Sub
namespace r01_twice
def spec : Spec := ⟨[(false, Kt29), (false, .bool)], [(false, Kt29)], .own, fun j => match j with | 6 => [(0, .lf (.z 55 (.int .u32) false)), (5, .lf (.o 55 (.int .u32) true)), (6, .lf (.v true)), (7, .lf (.v true))] | _ => []⟩
def cals : Cals := (Cals.cons 37 r01_Norm.sig (Cals.base tabs))
def sig : Sig := spec.sig cals T Try.f61
def F (x : Dt29 × Bool × Unit) : Option (Dt29 × Unit) := limF spec cals T Try.f61 x
theorem ck : CalsOk Try.prog cals := (CalsOk.cons r01_Norm.cal (CalsOk.base tabsOk))
theorem cal : CalOk Try.prog tabs 61 sig := calOk_lim' tabOk ck mix Try.func61 (by kernel_rfl) (by kernel_rfl) (by kernel_rfl) (by kernel_rfl)
def m6 (x0 : Dt29) (x5 : Dt29) (x6 : Int) (x7 : Int) : S := ⟨[(0, .one (.lf (.val false Kt29 x0))), (5, .one (.lf (.own 0))), (6, .one (.lf (.val true (.int .u32) x6))), (7, .one (.lf (.val true (.int .i64) x7)))], ⟨[some ⟨55, (.int .u32), true, true, x5⟩], []⟩⟩
def b6 (f6 : Dt29 → Dt29 → Int → Int → Option (Dt29 × Unit)) (x0 : Dt29) (x5 : Dt29) (x6 : Int) (x7 : Int) : Option (Dt29 × Unit) :=
 let v1 := (List.length x0 : Int)
 let v2 := decide (x7 < v1)
 bif v2 then (bif decide (0 ≤ x7) && decide (x7 < (List.length x0 : Int)) then (let v3 := List.getD x0 (Int.toNat x7) (0 : Int)
 bif decide ((1 : Int) < 0) then none
 else (let v4 := shlI .u32 v3 (1 : Int)
 let v5 := bitsOp .or .u32 v4 x6
 bif decide (0 ≤ x7) && decide (x7 < (List.length x5 : Int)) then (let v6 := List.set x5 (Int.toNat x7) v5
 bif decide (0 ≤ x7) && decide (x7 < (List.length x0 : Int)) then (let v7 := List.getD x0 (Int.toNat x7) (0 : Int)
 bif decide ((31 : Int) < 0) then none
 else (let v8 := shrI .u32 v7 (31 : Int)
 let v9 := IntKind.i64.wrap (x7 + (1 : Int))
 f6 x0 v6 v8 v9))
 else none)
 else none))
 else none)
 else (let v10 := (List.length x0 : Int)
 bif decide (0 ≤ v10) && decide (v10 < (List.length x5 : Int)) then (let v11 := List.set x5 (Int.toNat v10) x6
 (r01_Norm.F (v11, ())).bind fun y12 =>
 some (y12.1, ()))
 else none)
def e (f6 : Dt29 → Dt29 → Int → Int → Option (Dt29 × Unit)) (a0 : Dt29) (a1 : Bool) : Option (Dt29 × Unit) :=
 let v1 := (List.length a0 : Int)
 let v2 := IntKind.i64.wrap (v1 + (1 : Int))
 bif decide (0 ≤ v2) && (decide (v2 ≤ v2) && (decide (Int.toNat v2 * 4 ≤ 281474976710656) && Nat.blt 0 4)) then (let v3 := List.replicate (Int.toNat v2) (0 : Int)
 bif a1 then (f6 a0 v3 (1 : Int) (0 : Int))
 else (f6 a0 v3 (0 : Int) (0 : Int)))
 else none
def L6 (k : Nat) (x0 : Dt29) (x5 : Dt29) (x6 : Int) (x7 : Int) : Option (Dt29 × Unit) := heads (spec.env cals T Try.f61) (Func.pts Try.f61) k 6 (m6 x0 x5 x6 x7)
theorem L6_succ (k : Nat) (x0 : Dt29) (x5 : Dt29) (x6 : Int) (x7 : Int) : L6 (k + 1) x0 x5 x6 x7 = b6 (L6 k) x0 x5 x6 x7 := by kernel_rfl
theorem eval (k : Nat) (a0 : Dt29) (a1 : Bool) : evalF spec cals T Try.f61 k (a0, a1, ()) = e (L6 k) a0 a1 := by kernel_rfl
theorem of (k : Nat) (a0 : Dt29) (a1 : Bool) {y : Dt29 × Unit} (h : e (L6 k) a0 a1 = some y) : F (a0, a1, ()) = some y := limF_of k ((eval k a0 a1).trans h)
end r01_twice
namespace r01_Gcd
def spec : Spec := ⟨[(false, Kt29), (false, Kt29)], [(false, Kt29)], .own, fun j => match j with | 11 => [(0, .lf (.o 55 (.int .u32) true)), (1, .lf (.o 55 (.int .u32) true)), (6, .lf (.v true))] | 15 => [(0, .lf (.o 55 (.int .u32) true)), (1, .lf (.o 55 (.int .u32) true)), (6, .lf (.v true))] | 16 => [(0, .lf (.o 55 (.int .u32) true)), (1, .lf (.o 55 (.int .u32) true)), (6, .lf (.v true))] | 18 => [(0, .lf (.o 55 (.int .u32) true)), (1, .lf (.o 55 (.int .u32) true)), (6, .lf (.v true))] | 24 => [(0, .lf (.o 55 (.int .u32) true)), (6, .lf (.v true)), (7, .lf (.v true))] | _ => []⟩
def cals : Cals := (Cals.cons 37 r01_Norm.sig (Cals.cons 57 r01_Cmp.sig (Cals.cons 58 r01_Bit.sig (Cals.cons 59 r01_Shift.sig (Cals.cons 60 r01_Sub.sig (Cals.cons 61 r01_twice.sig (Cals.base tabs)))))))
def sig : Sig := spec.sig cals T Try.f38
def F (x : Dt29 × Dt29 × Unit) : Option (Dt29 × Unit) := limF spec cals T Try.f38 x
theorem ck : CalsOk Try.prog cals := (CalsOk.cons r01_Norm.cal (CalsOk.cons r01_Cmp.cal (CalsOk.cons r01_Bit.cal (CalsOk.cons r01_Shift.cal (CalsOk.cons r01_Sub.cal (CalsOk.cons r01_twice.cal (CalsOk.base tabsOk)))))))
theorem cal : CalOk Try.prog tabs 38 sig := calOk_lim' tabOk ck mix Try.func38 (by kernel_rfl) (by kernel_rfl) (by kernel_rfl) (by kernel_rfl)
def m11 (x0 : Dt29) (x1 : Dt29) (x6 : Int) : S := ⟨[(0, .one (.lf (.own 0))), (1, .one (.lf (.own 1))), (6, .one (.lf (.val true (.int .i64) x6)))], ⟨[some ⟨55, (.int .u32), true, true, x0⟩, some ⟨55, (.int .u32), true, true, x1⟩], []⟩⟩
def m15 (x0 : Dt29) (x1 : Dt29) (x6 : Int) : S := ⟨[(0, .one (.lf (.own 0))), (1, .one (.lf (.own 1))), (6, .one (.lf (.val true (.int .i64) x6)))], ⟨[some ⟨55, (.int .u32), true, true, x0⟩, some ⟨55, (.int .u32), true, true, x1⟩], []⟩⟩
def m16 (x0 : Dt29) (x1 : Dt29) (x6 : Int) : S := ⟨[(0, .one (.lf (.own 0))), (1, .one (.lf (.own 1))), (6, .one (.lf (.val true (.int .i64) x6)))], ⟨[some ⟨55, (.int .u32), true, true, x0⟩, some ⟨55, (.int .u32), true, true, x1⟩], []⟩⟩
def m18 (x0 : Dt29) (x1 : Dt29) (x6 : Int) : S := ⟨[(0, .one (.lf (.own 0))), (1, .one (.lf (.own 1))), (6, .one (.lf (.val true (.int .i64) x6)))], ⟨[some ⟨55, (.int .u32), true, true, x0⟩, some ⟨55, (.int .u32), true, true, x1⟩], []⟩⟩
def m24 (x0 : Dt29) (x6 : Int) (x7 : Int) : S := ⟨[(0, .one (.lf (.own 0))), (6, .one (.lf (.val true (.int .i64) x6))), (7, .one (.lf (.val true (.int .i64) x7)))], ⟨[some ⟨55, (.int .u32), true, true, x0⟩], []⟩⟩
def b11 (f11 : Dt29 → Dt29 → Int → Option (Dt29 × Unit)) (f15 : Dt29 → Dt29 → Int → Option (Dt29 × Unit)) (f16 : Dt29 → Dt29 → Int → Option (Dt29 × Unit)) (f18 : Dt29 → Dt29 → Int → Option (Dt29 × Unit)) (f24 : Dt29 → Int → Int → Option (Dt29 × Unit)) (x0 : Dt29) (x1 : Dt29) (x6 : Int) : Option (Dt29 × Unit) :=
 (r01_Bit.F (x0, (0 : Int), ())).bind fun y1 =>
 let v2 := not y1.1
 bif v2 then ((r01_Bit.F (x1, (0 : Int), ())).bind fun y3 =>
 let v4 := not y3.1
 bif v4 then ((r01_Shift.F (x0, (-1 : Int), ())).bind fun y5 =>
 (r01_Shift.F (x1, (-1 : Int), ())).bind fun y6 =>
 let v7 := IntKind.i64.wrap (x6 + (1 : Int))
 f11 y5.1 y6.1 v7)
 else (f15 x0 x1 x6))
 else (f15 x0 x1 x6)
def b15 (f11 : Dt29 → Dt29 → Int → Option (Dt29 × Unit)) (f15 : Dt29 → Dt29 → Int → Option (Dt29 × Unit)) (f16 : Dt29 → Dt29 → Int → Option (Dt29 × Unit)) (f18 : Dt29 → Dt29 → Int → Option (Dt29 × Unit)) (f24 : Dt29 → Int → Int → Option (Dt29 × Unit)) (x0 : Dt29) (x1 : Dt29) (x6 : Int) : Option (Dt29 × Unit) :=
 let v1 := (List.length x1 : Int)
 let v2 := decide (v1 > (0 : Int))
 bif v2 then (f16 x0 x1 x6)
 else (f24 x0 x6 (0 : Int))
def b16 (f11 : Dt29 → Dt29 → Int → Option (Dt29 × Unit)) (f15 : Dt29 → Dt29 → Int → Option (Dt29 × Unit)) (f16 : Dt29 → Dt29 → Int → Option (Dt29 × Unit)) (f18 : Dt29 → Dt29 → Int → Option (Dt29 × Unit)) (f24 : Dt29 → Int → Int → Option (Dt29 × Unit)) (x0 : Dt29) (x1 : Dt29) (x6 : Int) : Option (Dt29 × Unit) :=
 (r01_Bit.F (x0, (0 : Int), ())).bind fun y1 =>
 let v2 := not y1.1
 bif v2 then ((r01_Shift.F (x0, (-1 : Int), ())).bind fun y3 =>
 f16 y3.1 x1 x6)
 else (f18 x0 x1 x6)
def b18 (f11 : Dt29 → Dt29 → Int → Option (Dt29 × Unit)) (f15 : Dt29 → Dt29 → Int → Option (Dt29 × Unit)) (f16 : Dt29 → Dt29 → Int → Option (Dt29 × Unit)) (f18 : Dt29 → Dt29 → Int → Option (Dt29 × Unit)) (f24 : Dt29 → Int → Int → Option (Dt29 × Unit)) (x0 : Dt29) (x1 : Dt29) (x6 : Int) : Option (Dt29 × Unit) :=
 (r01_Bit.F (x1, (0 : Int), ())).bind fun y1 =>
 let v2 := not y1.1
 bif v2 then ((r01_Shift.F (x1, (-1 : Int), ())).bind fun y3 =>
 f18 x0 y3.1 x6)
 else ((r01_Cmp.F (x0, x1, ())).bind fun y4 =>
 let v5 := decide (y4.1 > (0 : Int))
 bif v5 then ((r01_Sub.F (x0, x1, ())).bind fun y6 =>
 f15 x1 y6.1 x6)
 else ((r01_Sub.F (x1, x0, ())).bind fun y7 =>
 f15 x0 y7.1 x6))
def b24 (f11 : Dt29 → Dt29 → Int → Option (Dt29 × Unit)) (f15 : Dt29 → Dt29 → Int → Option (Dt29 × Unit)) (f16 : Dt29 → Dt29 → Int → Option (Dt29 × Unit)) (f18 : Dt29 → Dt29 → Int → Option (Dt29 × Unit)) (f24 : Dt29 → Int → Int → Option (Dt29 × Unit)) (x0 : Dt29) (x6 : Int) (x7 : Int) : Option (Dt29 × Unit) :=
 let v1 := decide (x7 < x6)
 bif v1 then ((r01_twice.F (x0, false, ())).bind fun y2 =>
 let v3 := IntKind.i64.wrap (x7 + (1 : Int))
 f24 y2.1 x6 v3)
 else (some (x0, ()))
def e (f11 : Dt29 → Dt29 → Int → Option (Dt29 × Unit)) (f15 : Dt29 → Dt29 → Int → Option (Dt29 × Unit)) (f16 : Dt29 → Dt29 → Int → Option (Dt29 × Unit)) (f18 : Dt29 → Dt29 → Int → Option (Dt29 × Unit)) (f24 : Dt29 → Int → Int → Option (Dt29 × Unit)) (a0 : Dt29) (a1 : Dt29) : Option (Dt29 × Unit) :=
 (r01_Norm.F (a0, ())).bind fun y1 =>
 (r01_Norm.F (a1, ())).bind fun y2 =>
 let v3 := (List.length y1.1 : Int)
 let v4 := (v3 == (0 : Int))
 bif v4 then (some (y2.1, ()))
 else (let v5 := (List.length y2.1 : Int)
 let v6 := (v5 == (0 : Int))
 bif v6 then (some (y1.1, ()))
 else (let v7 := ([(1 : Int)] : List Int)
 (r01_Cmp.F (y1.1, v7, ())).bind fun y8 =>
 let v9 := (y8.1 == (0 : Int))
 bif v9 then (some (v7, ()))
 else ((r01_Cmp.F (y2.1, v7, ())).bind fun y10 =>
 let v11 := (y10.1 == (0 : Int))
 bif v11 then (some (v7, ()))
 else (f11 y1.1 y2.1 (0 : Int)))))
def L11 (k : Nat) (x0 : Dt29) (x1 : Dt29) (x6 : Int) : Option (Dt29 × Unit) := heads (spec.env cals T Try.f38) (Func.pts Try.f38) k 11 (m11 x0 x1 x6)
def L15 (k : Nat) (x0 : Dt29) (x1 : Dt29) (x6 : Int) : Option (Dt29 × Unit) := heads (spec.env cals T Try.f38) (Func.pts Try.f38) k 15 (m15 x0 x1 x6)
def L16 (k : Nat) (x0 : Dt29) (x1 : Dt29) (x6 : Int) : Option (Dt29 × Unit) := heads (spec.env cals T Try.f38) (Func.pts Try.f38) k 16 (m16 x0 x1 x6)
def L18 (k : Nat) (x0 : Dt29) (x1 : Dt29) (x6 : Int) : Option (Dt29 × Unit) := heads (spec.env cals T Try.f38) (Func.pts Try.f38) k 18 (m18 x0 x1 x6)
def L24 (k : Nat) (x0 : Dt29) (x6 : Int) (x7 : Int) : Option (Dt29 × Unit) := heads (spec.env cals T Try.f38) (Func.pts Try.f38) k 24 (m24 x0 x6 x7)
theorem L11_succ (k : Nat) (x0 : Dt29) (x1 : Dt29) (x6 : Int) : L11 (k + 1) x0 x1 x6 = b11 (L11 k) (L15 k) (L16 k) (L18 k) (L24 k) x0 x1 x6 := by kernel_rfl
theorem L15_succ (k : Nat) (x0 : Dt29) (x1 : Dt29) (x6 : Int) : L15 (k + 1) x0 x1 x6 = b15 (L11 k) (L15 k) (L16 k) (L18 k) (L24 k) x0 x1 x6 := by kernel_rfl
theorem L16_succ (k : Nat) (x0 : Dt29) (x1 : Dt29) (x6 : Int) : L16 (k + 1) x0 x1 x6 = b16 (L11 k) (L15 k) (L16 k) (L18 k) (L24 k) x0 x1 x6 := by kernel_rfl
theorem L18_succ (k : Nat) (x0 : Dt29) (x1 : Dt29) (x6 : Int) : L18 (k + 1) x0 x1 x6 = b18 (L11 k) (L15 k) (L16 k) (L18 k) (L24 k) x0 x1 x6 := by kernel_rfl
theorem L24_succ (k : Nat) (x0 : Dt29) (x6 : Int) (x7 : Int) : L24 (k + 1) x0 x6 x7 = b24 (L11 k) (L15 k) (L16 k) (L18 k) (L24 k) x0 x6 x7 := by kernel_rfl
theorem eval (k : Nat) (a0 : Dt29) (a1 : Dt29) : evalF spec cals T Try.f38 k (a0, a1, ()) = e (L11 k) (L15 k) (L16 k) (L18 k) (L24 k) a0 a1 := by kernel_rfl
theorem of (k : Nat) (a0 : Dt29) (a1 : Dt29) {y : Dt29 × Unit} (h : e (L11 k) (L15 k) (L16 k) (L18 k) (L24 k) a0 a1 = some y) : F (a0, a1, ()) = some y := limF_of k ((eval k a0 a1).trans h)
end r01_Gcd
namespace r01_Div
def spec : Spec := ⟨[(false, Kt29), (false, Kt29)], [(false, Kt29), (false, Kt29), (false, (.int .i64))], .own, fun j => match j with | 11 => [(0, .lf (.z 55 (.int .u32) true)), (1, .lf (.o 55 (.int .u32) true)), (7, .lf (.o 55 (.int .u32) true)), (9, .lf (.o 55 (.int .u32) true)), (10, .lf (.v true))] | _ => []⟩
def cals : Cals := (Cals.cons 37 r01_Norm.sig (Cals.cons 58 r01_Bit.sig (Cals.cons 61 r01_twice.sig (Cals.cons 57 r01_Cmp.sig (Cals.cons 60 r01_Sub.sig (Cals.base tabs))))))
def sig : Sig := spec.sig cals T Try.f39
def F (x : Dt29 × Dt29 × Unit) : Option (Dt29 × Dt29 × Int × Unit) := limF spec cals T Try.f39 x
theorem ck : CalsOk Try.prog cals := (CalsOk.cons r01_Norm.cal (CalsOk.cons r01_Bit.cal (CalsOk.cons r01_twice.cal (CalsOk.cons r01_Cmp.cal (CalsOk.cons r01_Sub.cal (CalsOk.base tabsOk))))))
theorem cal : CalOk Try.prog tabs 39 sig := calOk_lim' tabOk ck mix Try.func39 (by kernel_rfl) (by kernel_rfl) (by kernel_rfl) (by kernel_rfl)
def m11 (x0 : Dt29) (x1 : Dt29) (x7 : Dt29) (x9 : Dt29) (x10 : Int) : S := ⟨[(0, .one (.lf (.val true Kt29 x0))), (1, .one (.lf (.own 0))), (7, .one (.lf (.own 1))), (9, .one (.lf (.own 2))), (10, .one (.lf (.val true (.int .i64) x10)))], ⟨[some ⟨55, (.int .u32), true, true, x1⟩, some ⟨55, (.int .u32), true, true, x7⟩, some ⟨55, (.int .u32), true, true, x9⟩], []⟩⟩
def b11 (f11 : Dt29 → Dt29 → Dt29 → Dt29 → Int → Option (Dt29 × Dt29 × Int × Unit)) (x0 : Dt29) (x1 : Dt29) (x7 : Dt29) (x9 : Dt29) (x10 : Int) : Option (Dt29 × Dt29 × Int × Unit) :=
 let v1 := decide (x10 ≥ (0 : Int))
 bif v1 then ((r01_Bit.F (x0, x10, ())).bind fun y2 =>
 (r01_twice.F (x9, y2.1, ())).bind fun y3 =>
 (r01_Cmp.F (y3.1, x1, ())).bind fun y4 =>
 let v5 := decide (y4.1 ≥ (0 : Int))
 bif v5 then ((r01_Sub.F (y3.1, x1, ())).bind fun y6 =>
 bif decide ((32 : Int) = 0) then none
 else (let v7 := IntKind.i64.wrap (Int.tdiv x10 (32 : Int))
 bif decide (0 ≤ v7) && decide (v7 < (List.length x7 : Int)) then (let v8 := List.getD x7 (Int.toNat v7) (0 : Int)
 bif decide ((32 : Int) = 0) then none
 else (let v9 := Int.tmod x10 (32 : Int)
 let v10 := IntKind.u64.wrap v9
 bif decide (v10 < 0) then none
 else (let v11 := shlI .u32 (1 : Int) v10
 let v12 := bitsOp .or .u32 v8 v11
 bif decide (0 ≤ v7) && decide (v7 < (List.length x7 : Int)) then (let v13 := List.set x7 (Int.toNat v7) v12
 let v14 := IntKind.i64.wrap (x10 - (1 : Int))
 f11 x0 x1 v13 y6.1 v14)
 else none)))
 else none))
 else (let v15 := IntKind.i64.wrap (x10 - (1 : Int))
 f11 x0 x1 x7 y3.1 v15))
 else ((r01_Norm.F (x7, ())).bind fun y16 =>
 some (y16.1, x9, (0 : Int), ()))
def e (f11 : Dt29 → Dt29 → Dt29 → Dt29 → Int → Option (Dt29 × Dt29 × Int × Unit)) (a0 : Dt29) (a1 : Dt29) : Option (Dt29 × Dt29 × Int × Unit) :=
 (r01_Norm.F (a1, ())).bind fun y1 =>
 let v2 := (List.length y1.1 : Int)
 let v3 := (v2 == (0 : Int))
 bif v3 then (some (zt29, zt29, (11 : Int), ()))
 else ((r01_Norm.F (a0, ())).bind fun y4 =>
 let v5 := (List.length y4.1 : Int)
 bif decide (0 ≤ v5) && (decide (v5 ≤ v5) && (decide (Int.toNat v5 * 4 ≤ 281474976710656) && Nat.blt 0 4)) then (let v6 := List.replicate (Int.toNat v5) (0 : Int)
 let v7 := (List.length y1.1 : Int)
 let v8 := IntKind.i64.wrap (v7 - (1 : Int))
 let v9 := (List.length y4.1 : Int)
 let v10 := decide (v8 > v9)
 bif v10 then (let v11 := (List.length y4.1 : Int)
 let v12 := (List.length y4.1 : Int)
 let v13 := IntKind.i64.wrap (v12 - v11)
 bif decide (0 ≤ v13) && decide (v13 ≤ (List.length y4.1 : Int)) then (let v14 := List.drop (Int.toNat v13) y4.1
 (r01_Norm.F (v14, ())).bind fun y15 =>
 let v16 := (List.length y4.1 : Int)
 let v17 := IntKind.i64.wrap (v16 - v11)
 let v18 := IntKind.i64.wrap ((32 : Int) * v17)
 let v19 := IntKind.i64.wrap (v18 - (1 : Int))
 f11 y4.1 y1.1 v6 y15.1 v19)
 else none)
 else (let v20 := (List.length y4.1 : Int)
 let v21 := IntKind.i64.wrap (v20 - v8)
 bif decide (0 ≤ v21) && decide (v21 ≤ (List.length y4.1 : Int)) then (let v22 := List.drop (Int.toNat v21) y4.1
 (r01_Norm.F (v22, ())).bind fun y23 =>
 let v24 := (List.length y4.1 : Int)
 let v25 := IntKind.i64.wrap (v24 - v8)
 let v26 := IntKind.i64.wrap ((32 : Int) * v25)
 let v27 := IntKind.i64.wrap (v26 - (1 : Int))
 f11 y4.1 y1.1 v6 y23.1 v27)
 else none))
 else none)
def L11 (k : Nat) (x0 : Dt29) (x1 : Dt29) (x7 : Dt29) (x9 : Dt29) (x10 : Int) : Option (Dt29 × Dt29 × Int × Unit) := heads (spec.env cals T Try.f39) (Func.pts Try.f39) k 11 (m11 x0 x1 x7 x9 x10)
theorem L11_succ (k : Nat) (x0 : Dt29) (x1 : Dt29) (x7 : Dt29) (x9 : Dt29) (x10 : Int) : L11 (k + 1) x0 x1 x7 x9 x10 = b11 (L11 k) x0 x1 x7 x9 x10 := by kernel_rfl
theorem eval (k : Nat) (a0 : Dt29) (a1 : Dt29) : evalF spec cals T Try.f39 k (a0, a1, ()) = e (L11 k) a0 a1 := by kernel_rfl
theorem of (k : Nat) (a0 : Dt29) (a1 : Dt29) {y : Dt29 × Dt29 × Int × Unit} (h : e (L11 k) a0 a1 = some y) : F (a0, a1, ()) = some y := limF_of k ((eval k a0 a1).trans h)
end r01_Div
namespace r03_Norm
def spec : Spec := ⟨[(true, Kt33)], [(true, Kt33)], .own, fun j => match j with  | _ => []⟩
def cals : Cals := (Cals.cons 36 r02_Norm.sig (Cals.cons 37 r01_Norm.sig (Cals.cons 38 r01_Gcd.sig (Cals.cons 39 r01_Div.sig (Cals.base tabs)))))
def sig : Sig := spec.sig cals T Try.f16
def F (x : Dt33 × Unit) : Option (Dt33 × Unit) := limF spec cals T Try.f16 x
theorem ck : CalsOk Try.prog cals := (CalsOk.cons r02_Norm.cal (CalsOk.cons r01_Norm.cal (CalsOk.cons r01_Gcd.cal (CalsOk.cons r01_Div.cal (CalsOk.base tabsOk)))))
theorem cal : CalOk Try.prog tabs 16 sig := calOk_lim' tabOk ck mix Try.func16 (by kernel_rfl) (by kernel_rfl) (by kernel_rfl) (by kernel_rfl)
def e  (a0 : Dt33) : Option (Dt33 × Unit) :=
 (r02_Norm.F ((a0.1.1, a0.1.2), ())).bind fun y1 =>
 (r01_Norm.F (a0.2, ())).bind fun y2 =>
 let v3 := (List.length y2.1 : Int)
 let v4 := (v3 == (0 : Int))
 bif v4 then (let v5 := ([(1 : Int)] : List Int)
 some ((zt31, v5), ()))
 else (let v6 := (List.length y1.1.2 : Int)
 let v7 := (v6 == (0 : Int))
 bif v7 then (let v8 := ([(1 : Int)] : List Int)
 some ((zt31, v8), ()))
 else ((r01_Gcd.F (y1.1.2, y2.1, ())).bind fun y9 =>
 (r01_Div.F (y1.1.2, y9.1, ())).bind fun y10 =>
 (r01_Div.F (y2.1, y9.1, ())).bind fun y11 =>
 some (((y1.1.1, y10.1), y11.1), ())))
theorem eval (k : Nat) (a0 : Dt33) : evalF spec cals T Try.f16 k (a0, ()) = e  a0 := by kernel_rfl
theorem of (k : Nat) (a0 : Dt33) {y : Dt33 × Unit} (h : e  a0 = some y) : F (a0, ()) = some y := limF_of k ((eval k a0).trans h)
end r03_Norm
namespace r01_Of
def spec : Spec := ⟨[(false, (.int .u64))], [(false, Kt29)], .own, fun j => match j with  | _ => []⟩
def cals : Cals := (Cals.cons 37 r01_Norm.sig (Cals.base tabs))
def sig : Sig := spec.sig cals T Try.f41
def F (x : Int × Unit) : Option (Dt29 × Unit) := limF spec cals T Try.f41 x
theorem ck : CalsOk Try.prog cals := (CalsOk.cons r01_Norm.cal (CalsOk.base tabsOk))
theorem cal : CalOk Try.prog tabs 41 sig := calOk_lim' tabOk ck mix Try.func41 (by kernel_rfl) (by kernel_rfl) (by kernel_rfl) (by kernel_rfl)
def e  (a0 : Int) : Option (Dt29 × Unit) :=
 let v1 := IntKind.u32.wrap a0
 bif decide ((32 : Int) < 0) then none
 else (let v2 := shrI .u64 a0 (32 : Int)
 let v3 := IntKind.u32.wrap v2
 let v4 := ([v1, v3] : List Int)
 (r01_Norm.F (v4, ())).bind fun y5 =>
 some (y5.1, ()))
theorem eval (k : Nat) (a0 : Int) : evalF spec cals T Try.f41 k (a0, ()) = e  a0 := by kernel_rfl
theorem of (k : Nat) (a0 : Int) {y : Dt29 × Unit} (h : e  a0 = some y) : F (a0, ()) = some y := limF_of k ((eval k a0).trans h)
end r01_Of
namespace r02_Of
def spec : Spec := ⟨[(false, (.int .i64))], [(true, Kt31)], .own, fun j => match j with  | _ => []⟩
def cals : Cals := (Cals.cons 41 r01_Of.sig (Cals.cons 40 r02_made.sig (Cals.base tabs)))
def sig : Sig := spec.sig cals T Try.f17
def F (x : Int × Unit) : Option (Dt31 × Unit) := limF spec cals T Try.f17 x
theorem ck : CalsOk Try.prog cals := (CalsOk.cons r01_Of.cal (CalsOk.cons r02_made.cal (CalsOk.base tabsOk)))
theorem cal : CalOk Try.prog tabs 17 sig := calOk_lim' tabOk ck mix Try.func17 (by kernel_rfl) (by kernel_rfl) (by kernel_rfl) (by kernel_rfl)
def e  (a0 : Int) : Option (Dt31 × Unit) :=
 let v1 := decide (a0 < (0 : Int))
 bif v1 then (let v2 := IntKind.u64.wrap a0
 let v3 := IntKind.u64.wrap ((0 : Int) - v2)
 (r01_Of.F (v3, ())).bind fun y4 =>
 (r02_made.F (true, y4.1, ())).bind fun y5 =>
 some ((y5.1.1, y5.1.2), ()))
 else (let v6 := IntKind.u64.wrap a0
 (r01_Of.F (v6, ())).bind fun y7 =>
 (r02_made.F (false, y7.1, ())).bind fun y8 =>
 some ((y8.1.1, y8.1.2), ()))
theorem eval (k : Nat) (a0 : Int) : evalF spec cals T Try.f17 k (a0, ()) = e  a0 := by kernel_rfl
theorem of (k : Nat) (a0 : Int) {y : Dt31 × Unit} (h : e  a0 = some y) : F (a0, ()) = some y := limF_of k ((eval k a0).trans h)
end r02_Of
namespace r03_Whole
def spec : Spec := ⟨[(false, (.int .i64))], [(true, Kt33)], .own, fun j => match j with  | _ => []⟩
def cals : Cals := (Cals.cons 17 r02_Of.sig (Cals.cons 16 r03_Norm.sig (Cals.base tabs)))
def sig : Sig := spec.sig cals T Try.f7
def F (x : Int × Unit) : Option (Dt33 × Unit) := limF spec cals T Try.f7 x
theorem ck : CalsOk Try.prog cals := (CalsOk.cons r02_Of.cal (CalsOk.cons r03_Norm.cal (CalsOk.base tabsOk)))
theorem cal : CalOk Try.prog tabs 7 sig := calOk_lim' tabOk ck mix Try.func7 (by kernel_rfl) (by kernel_rfl) (by kernel_rfl) (by kernel_rfl)
def e  (a0 : Int) : Option (Dt33 × Unit) :=
 (r02_Of.F (a0, ())).bind fun y1 =>
 let v2 := ([(1 : Int)] : List Int)
 (r03_Norm.F (((y1.1.1, y1.1.2), v2), ())).bind fun y3 =>
 some (((y3.1.1.1, y3.1.1.2), y3.1.2), ())
theorem eval (k : Nat) (a0 : Int) : evalF spec cals T Try.f7 k (a0, ()) = e  a0 := by kernel_rfl
theorem of (k : Nat) (a0 : Int) {y : Dt33 × Unit} (h : e  a0 = some y) : F (a0, ()) = some y := limF_of k ((eval k a0).trans h)
end r03_Whole
namespace w_lives
def spec : Spec := ⟨[], [(false, .bool)], .own, fun j => match j with  | _ => []⟩
def cals : Cals := (Cals.cons 6 atoms_New.sig (Cals.cons 7 r03_Whole.sig (Cals.cons 5 atoms_Below.sig (Cals.base tabs))))
def sig : Sig := spec.sig cals T Try.f4
def F (x : Unit) : Option (Bool × Unit) := limF spec cals T Try.f4 x
theorem ck : CalsOk Try.prog cals := (CalsOk.cons atoms_New.cal (CalsOk.cons r03_Whole.cal (CalsOk.cons atoms_Below.cal (CalsOk.base tabsOk))))
theorem cal : CalOk Try.prog tabs 4 sig := calOk_lim' tabOk ck mix Try.func4 (by kernel_rfl) (by kernel_rfl) (by kernel_rfl) (by kernel_rfl)
def e   : Option (Bool × Unit) :=
 (atoms_New.F ()).bind fun y1 =>
 (r03_Whole.F ((-2 : Int), ())).bind fun y2 =>
 let v3 := ([((0 : Int), ((y2.1.1.1, y2.1.1.2), y2.1.2))] : List Dt36)
 (r03_Whole.F ((3 : Int), ())).bind fun y4 =>
 (atoms_Below.F (y1.1, (v3, ((y4.1.1.1, y4.1.1.2), y4.1.2)), true, ())).bind fun y5 =>
 let v6 := (y5.2.2.1 == (0 : Int))
 bif v6 then (let v7 := (y5.2.1 == (-2 : Int))
 bif v7 then (let v8 := (List.length y5.1 : Int)
 let v9 := (v8 == (2 : Int))
 some (v9, ()))
 else (some (false, ())))
 else (some (false, ()))
theorem eval (k : Nat)  : evalF spec cals T Try.f4 k () = e   := by kernel_rfl
theorem of (k : Nat)  {y : Bool × Unit} (h : e   = some y) : F () = some y := limF_of k ((eval k ).trans h)
end w_lives
namespace w_AtomsConsts
def spec : Spec := ⟨[], [(false, .bool)], .own, fun j => match j with  | _ => []⟩
def cals : Cals := (Cals.cons 4 w_lives.sig (Cals.base tabs))
def sig : Sig := spec.sig cals T Try.f3
def F (x : Unit) : Option (Bool × Unit) := limF spec cals T Try.f3 x
theorem ck : CalsOk Try.prog cals := (CalsOk.cons w_lives.cal (CalsOk.base tabsOk))
theorem cal : CalOk Try.prog tabs 3 sig := calOk_lim' tabOk ck mix Try.func3 (by kernel_rfl) (by kernel_rfl) (by kernel_rfl) (by kernel_rfl)
def e   : Option (Bool × Unit) :=
 (w_lives.F ()).bind fun y1 =>
 bif y1.1 then (some (true, ()))
 else (some (false, ()))
theorem eval (k : Nat)  : evalF spec cals T Try.f3 k () = e   := by kernel_rfl
theorem of (k : Nat)  {y : Bool × Unit} (h : e   = some y) : F () = some y := limF_of k ((eval k ).trans h)
end w_AtomsConsts
end
end Go.Fx.Try
