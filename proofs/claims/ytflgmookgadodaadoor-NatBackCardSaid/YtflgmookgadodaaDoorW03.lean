import Derived.Test.YtflgmookgadodaaDoorEv27
import Derived.Test.YtflgmookgadodaaDoorProg
namespace Go.Fx.Tryd
open Go Go.Proofs Go.Fx
set_option linter.unusedVariables false
set_option maxRecDepth 100000

def ti28 : TI := ⟨.int .u32, (.int .u32), false, 4⟩
def T28 : Tab := Tab.cons 28 ti28 Tab.nil
theorem tab28 : TabOk Tryd.prog T28 := TabOk.cons (by kernel_rfl) { info := ⟨Tryd.t28, by kernel_rfl, by kernel_rfl, by kernel_rfl, (.int .u32 0), by kernel_rfl, by kernel_rfl⟩, agg := ⟨_, Tryd.underlying28, rfl⟩, desc := ⟨Tryd.underlying28, rfl⟩ } TabOk.nil
def ti23 : TI := ⟨.sl 28, (.sl 28 (.int .u32)), false, 24⟩
def T23 : Tab := Tab.cons 23 ti23 T28
theorem tab23 : TabOk Tryd.prog T23 := TabOk.cons (by kernel_rfl) { info := ⟨Tryd.t23, by kernel_rfl, by kernel_rfl, by kernel_rfl, (.slice none 0 0), by kernel_rfl, by kernel_rfl⟩, agg := ⟨_, Tryd.underlying23, rfl⟩, desc := ⟨Tryd.underlying23, ti28, by kernel_rfl, rfl, by decide⟩ } tab28
def ti9 : TI := ⟨.str, .str, false, 16⟩
def T9 : Tab := Tab.cons 9 ti9 T23
theorem tab9 : TabOk Tryd.prog T9 := TabOk.cons (by kernel_rfl) { info := ⟨Tryd.t9, by kernel_rfl, by kernel_rfl, by kernel_rfl, (.string ByteArray.empty), by kernel_rfl, by kernel_rfl⟩, agg := ⟨_, Tryd.underlying9, rfl⟩, desc := ⟨Tryd.underlying9, rfl⟩ } tab23
def ti3 : TI := ⟨.int .i64, (.int .i64), false, 8⟩
def T3 : Tab := Tab.cons 3 ti3 T9
theorem tab3 : TabOk Tryd.prog T3 := TabOk.cons (by kernel_rfl) { info := ⟨Tryd.t3, by kernel_rfl, by kernel_rfl, by kernel_rfl, (.int .i64 0), by kernel_rfl, by kernel_rfl⟩, agg := ⟨_, Tryd.underlying3, rfl⟩, desc := ⟨Tryd.underlying3, rfl⟩ } tab9
def ti24 : TI := ⟨.int .i64, (.int .i64), false, 8⟩
def T24 : Tab := Tab.cons 24 ti24 T3
theorem tab24 : TabOk Tryd.prog T24 := TabOk.cons (by kernel_rfl) { info := ⟨Tryd.t24, by kernel_rfl, by kernel_rfl, by kernel_rfl, (.int .i64 0), by kernel_rfl, by kernel_rfl⟩, agg := ⟨_, Tryd.underlying24, rfl⟩, desc := ⟨Tryd.underlying24, rfl⟩ } tab3
def ti5 : TI := ⟨.int .u8, (.int .u8), false, 1⟩
def T5 : Tab := Tab.cons 5 ti5 T24
theorem tab5 : TabOk Tryd.prog T5 := TabOk.cons (by kernel_rfl) { info := ⟨Tryd.t5, by kernel_rfl, by kernel_rfl, by kernel_rfl, (.int .u8 0), by kernel_rfl, by kernel_rfl⟩, agg := ⟨_, Tryd.underlying5, rfl⟩, desc := ⟨Tryd.underlying5, rfl⟩ } tab24
def ti36 : TI := ⟨.int .u64, (.int .u64), false, 8⟩
def T36 : Tab := Tab.cons 36 ti36 T5
theorem tab36 : TabOk Tryd.prog T36 := TabOk.cons (by kernel_rfl) { info := ⟨Tryd.t36, by kernel_rfl, by kernel_rfl, by kernel_rfl, (.int .u64 0), by kernel_rfl, by kernel_rfl⟩, agg := ⟨_, Tryd.underlying36, rfl⟩, desc := ⟨Tryd.underlying36, rfl⟩ } tab5
def ti4 : TI := ⟨.bool, .bool, false, 1⟩
def T4 : Tab := Tab.cons 4 ti4 T36
theorem tab4 : TabOk Tryd.prog T4 := TabOk.cons (by kernel_rfl) { info := ⟨Tryd.t4, by kernel_rfl, by kernel_rfl, by kernel_rfl, (.bool false), by kernel_rfl, by kernel_rfl⟩, agg := ⟨_, Tryd.underlying4, rfl⟩, desc := ⟨Tryd.underlying4, rfl⟩ } tab36
def ti40 : TI := ⟨.sl 5, (.sl 5 (.int .u8)), false, 24⟩
def T40 : Tab := Tab.cons 40 ti40 T4
theorem tab40 : TabOk Tryd.prog T40 := TabOk.cons (by kernel_rfl) { info := ⟨Tryd.t40, by kernel_rfl, by kernel_rfl, by kernel_rfl, (.slice none 0 0), by kernel_rfl, by kernel_rfl⟩, agg := ⟨_, Tryd.underlying40, rfl⟩, desc := ⟨Tryd.underlying40, ti5, by kernel_rfl, rfl, by decide⟩ } tab4
def ti22 : TI := ⟨.sl 28, (.sl 28 (.int .u32)), false, 24⟩
def T22 : Tab := Tab.cons 22 ti22 T40
theorem tab22 : TabOk Tryd.prog T22 := TabOk.cons (by kernel_rfl) { info := ⟨Tryd.t22, by kernel_rfl, by kernel_rfl, by kernel_rfl, (.slice none 0 0), by kernel_rfl, by kernel_rfl⟩, agg := ⟨_, Tryd.underlying22, rfl⟩, desc := ⟨Tryd.underlying22, ti28, by kernel_rfl, rfl, by decide⟩ } tab40
def T : Tab := T22
theorem tabOk : TabOk Tryd.prog T := tab22
theorem mix : Tryd.prog.follows .mixedOrders = true := by kernel_rfl
def tabXs : List Int := [0, 1, 2, 3, 4, 5, 6, 7, 8, 9, 99, 99, 99, 99, 99, 99, 99, 99, 99, 99, 99, 99, 99, 99, 99, 99, 99, 99, 99, 99, 99, 99, 99, 99, 99, 99, 99, 99, 99, 99, 99, 99, 99, 99, 99, 99, 99, 99, 99, 10, 11, 12, 13, 14, 15]
def tabs : Nat → Option Tbl := oneTab 0 ⟨35, .u32, tabXs⟩
theorem tabsOk : ∀ g tb, tabs g = some tb → TblOk Tryd.prog tb := oneTab_ok ⟨28, Tryd.underlying35, fun w => (tabOk 28 ti28 (by kernel_rfl)).size⟩

/-! ### fulcrum/nat.trim -/
def nat_trim.spec : Spec := ⟨[(false, (.sl 28 (.int .u32)))], [(false, (.sl 28 (.int .u32)))], .shared, fun j => match j with | 2 => [(0, .lf (.z 28 (.int .u32) true)), (3, .lf (.v true))] | _ => []⟩
noncomputable def nat_trim.cals : Cals := (Cals.base tabs)
noncomputable def nat_trim.sig : Sig := nat_trim.spec.sig nat_trim.cals T Tryd.f17
noncomputable def nat_trim.F (x : (List Int) × Unit) : Option ((List Int) × Unit) := limF nat_trim.spec nat_trim.cals T Tryd.f17 x
theorem nat_trim.ck : CalsOk Tryd.prog nat_trim.cals := (CalsOk.base tabsOk)
theorem nat_trim.cal : CalOk Tryd.prog tabs 17 nat_trim.sig := calOk_lim' tabOk nat_trim.ck mix Tryd.func17 (by kernel_rfl) (by kernel_rfl) (by kernel_rfl) (by kernel_rfl)
def nat_trim.m2 (x0 : (List Int)) (x3 : Int) : S := ⟨[(0, .one (.lf (.val true (.sl 28 (.int .u32)) x0))), (3, .one (.lf (.val true (.int .i64) x3)))], ⟨[], []⟩⟩
noncomputable def nat_trim.b2 (f2 : (List Int) → Int → Option ((List Int) × Unit)) (x0 : (List Int)) (x3 : Int) : Option ((List Int) × Unit) :=
  let v1 := decide (x3 > (0 : Int))
  bif v1 then (let v2 := IntKind.i64.wrap (x3 - (1 : Int))
  bif decide (0 ≤ v2) && decide (v2 < (List.length x0 : Int)) then (let v3 := List.getD x0 (Int.toNat v2) (0 : Int)
  let v4 := (v3 == (0 : Int))
  bif v4 then (let v5 := IntKind.i64.wrap (x3 - (1 : Int))
  f2 x0 v5)
  else (bif decide (0 ≤ x3) && decide (x3 ≤ (List.length x0 : Int)) then (let v6 := List.take (Int.toNat x3) x0
  some (v6, ()))
  else none))
  else none)
  else (bif decide (0 ≤ x3) && decide (x3 ≤ (List.length x0 : Int)) then (let v7 := List.take (Int.toNat x3) x0
  some (v7, ()))
  else none)
noncomputable def nat_trim.e (f2 : (List Int) → Int → Option ((List Int) × Unit)) (a0 : (List Int)) : Option ((List Int) × Unit) :=
  let v1 := (List.length a0 : Int)
  f2 a0 v1
noncomputable def nat_trim.L2 (k : Nat) (x0 : (List Int)) (x3 : Int) : Option ((List Int) × Unit) := heads (nat_trim.spec.env nat_trim.cals T Tryd.f17) (Func.pts Tryd.f17) k 2 (nat_trim.m2 x0 x3)
theorem nat_trim.L2_succ (k : Nat) (x0 : (List Int)) (x3 : Int) : nat_trim.L2 (k + 1) x0 x3 = nat_trim.b2 (nat_trim.L2 k) x0 x3 := by kernel_rfl
theorem nat_trim.L2_zero (x0 : (List Int)) (x3 : Int) : nat_trim.L2 0 x0 x3 = none := by kernel_rfl
theorem nat_trim.eval (k : Nat) (a0 : (List Int)) : evalF nat_trim.spec nat_trim.cals T Tryd.f17 k (a0, ()) = nat_trim.e (nat_trim.L2 k) a0 := by kernel_rfl
theorem nat_trim.F_eq (a0 : (List Int)) : nat_trim.F (a0, ()) = limF nat_trim.spec nat_trim.cals T Tryd.f17 (a0, ()) := by kernel_rfl
theorem nat_trim.of (k : Nat) (a0 : (List Int)) {y : (List Int) × Unit} (h : nat_trim.e (nat_trim.L2 k) a0 = some y) : nat_trim.F (a0, ()) = some y := (nat_trim.F_eq a0).trans (limF_of (q := nat_trim.spec) (C := nat_trim.cals) (T := T) (f := Tryd.f17) (x := (a0, ())) (y := y) k ((nat_trim.eval k a0).trans h))

/-! ### fulcrum/nat.own -/
def nat_own.spec : Spec := ⟨[(false, (.sl 28 (.int .u32)))], [(false, (.sl 28 (.int .u32)))], .own, fun j => match j with  | _ => []⟩
noncomputable def nat_own.cals : Cals := (Cals.cons 17 nat_trim.sig (Cals.base tabs))
noncomputable def nat_own.sig : Sig := nat_own.spec.sig nat_own.cals T Tryd.f11
noncomputable def nat_own.F (x : (List Int) × Unit) : Option ((List Int) × Unit) := limF nat_own.spec nat_own.cals T Tryd.f11 x
theorem nat_own.ck : CalsOk Tryd.prog nat_own.cals := (CalsOk.cons nat_trim.cal (CalsOk.base tabsOk))
theorem nat_own.cal : CalOk Tryd.prog tabs 11 nat_own.sig := calOk_lim' tabOk nat_own.ck mix Tryd.func11 (by kernel_rfl) (by kernel_rfl) (by kernel_rfl) (by kernel_rfl)
noncomputable def nat_own.e  (a0 : (List Int)) : Option ((List Int) × Unit) :=
  (nat_trim.F (a0, ())).bind fun y1 =>
  let v2 := (List.length y1.1 : Int)
  let v3 := (v2 == (0 : Int))
  bif v3 then (some (([] : List Int), ()))
  else (let v4 := (List.length y1.1 : Int)
  bif decide (0 ≤ v4) && (decide (v4 ≤ v4) && (decide (Int.toNat v4 * 4 ≤ 281474976710656) && Nat.blt 0 4)) then (let v5 := List.replicate (Int.toNat v4) (0 : Int)
  let v6 := List.take (List.length v5) y1.1 ++ List.drop (List.length y1.1) v5
  let v7 := ((Nat.min (List.length y1.1) (List.length v5) : Nat) : Int)
  some (v6, ()))
  else none)
theorem nat_own.eval (k : Nat) (a0 : (List Int)) : evalF nat_own.spec nat_own.cals T Tryd.f11 k (a0, ()) = nat_own.e  a0 := by kernel_rfl
theorem nat_own.F_eq (a0 : (List Int)) : nat_own.F (a0, ()) = limF nat_own.spec nat_own.cals T Tryd.f11 (a0, ()) := by kernel_rfl
theorem nat_own.of (k : Nat) (a0 : (List Int)) {y : (List Int) × Unit} (h : nat_own.e  a0 = some y) : nat_own.F (a0, ()) = some y := (nat_own.F_eq a0).trans (limF_of (q := nat_own.spec) (C := nat_own.cals) (T := T) (f := Tryd.f11) (x := (a0, ())) (y := y) k ((nat_own.eval k a0).trans h))

/-! ### fulcrum/nat.Parse -/
def nat_Parse.spec : Spec := ⟨[(false, .str), (false, (.int .i64))], [(false, (.sl 28 (.int .u32))), (false, (.int .i64))], .own, fun j => match j with | 7 => [(0, .lf (.v false)), (1, .lf (.v false)), (6, .lf (.o 28 (.int .u32) true)), (31, .lf (.v true)), (32, .lf (.v true))] | 14 => [(0, .lf (.v false)), (1, .lf (.v false)), (6, .lf (.o 28 (.int .u32) true)), (9, .lf (.v true)), (31, .lf (.v true)), (32, .lf (.v true)), (43, .lf (.v true)), (44, .lf (.v true)), (47, .lf (.v true)), (49, .lf (.v true)), (50, .lf (.v false)), (51, .lf (.v true)), (52, .lf (.v true)), (59, .lf (.v true)), (60, .lf (.v true))] | _ => []⟩
noncomputable def nat_Parse.cals : Cals := (Cals.cons 11 nat_own.sig (Cals.base tabs))
noncomputable def nat_Parse.sig : Sig := nat_Parse.spec.sig nat_Parse.cals T Tryd.f5
noncomputable def nat_Parse.F (x : ByteArray × Int × Unit) : Option ((List Int) × Int × Unit) := limF nat_Parse.spec nat_Parse.cals T Tryd.f5 x
theorem nat_Parse.ck : CalsOk Tryd.prog nat_Parse.cals := (CalsOk.cons nat_own.cal (CalsOk.base tabsOk))
theorem nat_Parse.cal : CalOk Tryd.prog tabs 5 nat_Parse.sig := calOk_lim' tabOk nat_Parse.ck mix Tryd.func5 (by kernel_rfl) (by kernel_rfl) (by kernel_rfl) (by kernel_rfl)
def nat_Parse.m7 (x0 : ByteArray) (x1 : Int) (x6 : (List Int)) (x31 : Int) (x32 : Int) : S := ⟨[(0, .one (.lf (.val false .str x0))), (1, .one (.lf (.val false (.int .i64) x1))), (6, .one (.lf (.own 0))), (31, .one (.lf (.val true (.int .i64) x31))), (32, .one (.lf (.val true (.int .i64) x32)))], ⟨[some ⟨28, (.int .u32), true, true, x6⟩], []⟩⟩
def nat_Parse.m14 (x0 : ByteArray) (x1 : Int) (x6 : (List Int)) (x9 : Int) (x31 : Int) (x32 : Int) (x43 : Int) (x44 : Bool) (x47 : Int) (x49 : Int) (x50 : Int) (x51 : Int) (x52 : Bool) (x59 : Int) (x60 : Int) : S := ⟨[(0, .one (.lf (.val false .str x0))), (1, .one (.lf (.val false (.int .i64) x1))), (6, .one (.lf (.own 0))), (9, .one (.lf (.val true (.int .u64) x9))), (31, .one (.lf (.val true (.int .i64) x31))), (32, .one (.lf (.val true (.int .i64) x32))), (43, .one (.lf (.val true (.int .i64) x43))), (44, .one (.lf (.val true .bool x44))), (47, .one (.lf (.val true (.int .i64) x47))), (49, .one (.lf (.val true (.int .u32) x49))), (50, .one (.lf (.val false (.int .i64) x50))), (51, .one (.lf (.val true (.int .u32) x51))), (52, .one (.lf (.val true .bool x52))), (59, .one (.lf (.val true (.int .i64) x59))), (60, .one (.lf (.val true (.int .i64) x60)))], ⟨[some ⟨28, (.int .u32), true, true, x6⟩], []⟩⟩
noncomputable def nat_Parse.b7 (f7 : ByteArray → Int → (List Int) → Int → Int → Option ((List Int) × Int × Unit)) (f14 : ByteArray → Int → (List Int) → Int → Int → Int → Int → Bool → Int → Int → Int → Int → Bool → Int → Int → Option ((List Int) × Int × Unit)) (x0 : ByteArray) (x1 : Int) (x6 : (List Int)) (x31 : Int) (x32 : Int) : Option ((List Int) × Int × Unit) :=
  let v1 := decide (x32 < x31)
  bif v1 then (bif decide (0 ≤ x32) && decide (x32 < (ByteArray.size x0 : Int)) then (let v2 := btI x0 x32
  let v3 := IntKind.i64.wrap v2
  let v4 := IntKind.i64.wrap (v3 - (48 : Int))
  let v5 := decide (v4 < (0 : Int))
  bif v5 then (some (([] : List Int), (15 : Int), ()))
  else (let v6 := decide (v4 ≥ (55 : Int))
  bif v6 then (some (([] : List Int), (15 : Int), ()))
  else (bif decide (0 ≤ v4) && decide (v4 < (List.length tabXs : Int)) then (let v7 := List.getD tabXs (Int.toNat v4) (0 : Int)
  let v8 := IntKind.u32.wrap x1
  let v9 := decide (v7 ≥ v8)
  bif v9 then (some (([] : List Int), (15 : Int), ()))
  else (bif decide (0 ≤ v4) && decide (v4 < (List.length tabXs : Int)) then (let v10 := List.getD tabXs (Int.toNat v4) (0 : Int)
  let v11 := IntKind.u64.wrap v10
  let v12 := (List.length x6 : Int)
  f14 x0 x1 x6 v11 x31 x32 v4 v6 v4 v7 x1 v8 v9 v12 (0 : Int))
  else none))
  else none)))
  else none)
  else ((nat_own.F (x6, ())).bind fun y13 =>
  some (y13.1, (0 : Int), ()))
noncomputable def nat_Parse.b14 (f7 : ByteArray → Int → (List Int) → Int → Int → Option ((List Int) × Int × Unit)) (f14 : ByteArray → Int → (List Int) → Int → Int → Int → Int → Bool → Int → Int → Int → Int → Bool → Int → Int → Option ((List Int) × Int × Unit)) (x0 : ByteArray) (x1 : Int) (x6 : (List Int)) (x9 : Int) (x31 : Int) (x32 : Int) (x43 : Int) (x44 : Bool) (x47 : Int) (x49 : Int) (x50 : Int) (x51 : Int) (x52 : Bool) (x59 : Int) (x60 : Int) : Option ((List Int) × Int × Unit) :=
  let v1 := decide (x60 < x59)
  bif v1 then (bif decide (0 ≤ x60) && decide (x60 < (List.length x6 : Int)) then (let v2 := List.getD x6 (Int.toNat x60) (0 : Int)
  let v3 := IntKind.u64.wrap v2
  let v4 := IntKind.u64.wrap x1
  let v5 := IntKind.u64.wrap (v3 * v4)
  let v6 := IntKind.u64.wrap (v5 + x9)
  let v7 := IntKind.u32.wrap v6
  bif decide (0 ≤ x60) && decide (x60 < (List.length x6 : Int)) then (let v8 := List.set x6 (Int.toNat x60) v7
  bif decide ((32 : Int) < 0) then none
  else (let v9 := shrI .u64 v6 (32 : Int)
  let v10 := IntKind.i64.wrap (x60 + (1 : Int))
  f14 x0 x1 v8 v9 x31 x32 x43 x44 x47 x49 x50 x51 x52 x59 v10))
  else none)
  else none)
  else (let v11 := decide (x9 > (0 : Int))
  bif v11 then (let v12 := IntKind.u32.wrap x9
  let v13 := ([v12] : List Int)
  bif decide (List.length x6 + List.length v13 < 35184372088832) then (let v14 := List.append x6 v13
  let v15 := IntKind.i64.wrap (x32 + (1 : Int))
  f7 x0 x1 v14 x31 v15)
  else none)
  else (let v16 := IntKind.i64.wrap (x32 + (1 : Int))
  f7 x0 x1 x6 x31 v16))
noncomputable def nat_Parse.e (f7 : ByteArray → Int → (List Int) → Int → Int → Option ((List Int) × Int × Unit)) (f14 : ByteArray → Int → (List Int) → Int → Int → Int → Int → Bool → Int → Int → Int → Int → Bool → Int → Int → Option ((List Int) × Int × Unit)) (a0 : ByteArray) (a1 : Int) : Option ((List Int) × Int × Unit) :=
  let v1 := decide (a1 < (2 : Int))
  bif v1 then (some (([] : List Int), (14 : Int), ()))
  else (let v2 := decide (a1 > (16 : Int))
  bif v2 then (some (([] : List Int), (14 : Int), ()))
  else (let v3 := (a0.toList == (⟨#[]⟩ : ByteArray).toList)
  bif v3 then (some (([] : List Int), (15 : Int), ()))
  else (let v4 := (ByteArray.size a0 : Int)
  let v5 := decide (v4 > (1 : Int))
  bif v5 then (bif decide (0 ≤ (0 : Int)) && decide ((0 : Int) < (ByteArray.size a0 : Int)) then (let v6 := btI a0 (0 : Int)
  let v7 := (v6 == (48 : Int))
  bif v7 then (some (([] : List Int), (15 : Int), ()))
  else (let v8 := (ByteArray.size a0 : Int)
  f7 a0 a1 ([] : List Int) v8 (0 : Int)))
  else none)
  else (let v9 := (ByteArray.size a0 : Int)
  f7 a0 a1 ([] : List Int) v9 (0 : Int)))))
noncomputable def nat_Parse.L7 (k : Nat) (x0 : ByteArray) (x1 : Int) (x6 : (List Int)) (x31 : Int) (x32 : Int) : Option ((List Int) × Int × Unit) := heads (nat_Parse.spec.env nat_Parse.cals T Tryd.f5) (Func.pts Tryd.f5) k 7 (nat_Parse.m7 x0 x1 x6 x31 x32)
noncomputable def nat_Parse.L14 (k : Nat) (x0 : ByteArray) (x1 : Int) (x6 : (List Int)) (x9 : Int) (x31 : Int) (x32 : Int) (x43 : Int) (x44 : Bool) (x47 : Int) (x49 : Int) (x50 : Int) (x51 : Int) (x52 : Bool) (x59 : Int) (x60 : Int) : Option ((List Int) × Int × Unit) := heads (nat_Parse.spec.env nat_Parse.cals T Tryd.f5) (Func.pts Tryd.f5) k 14 (nat_Parse.m14 x0 x1 x6 x9 x31 x32 x43 x44 x47 x49 x50 x51 x52 x59 x60)
theorem nat_Parse.L7_succ (k : Nat) (x0 : ByteArray) (x1 : Int) (x6 : (List Int)) (x31 : Int) (x32 : Int) : nat_Parse.L7 (k + 1) x0 x1 x6 x31 x32 = nat_Parse.b7 (nat_Parse.L7 k) (nat_Parse.L14 k) x0 x1 x6 x31 x32 := by kernel_rfl
theorem nat_Parse.L7_zero (x0 : ByteArray) (x1 : Int) (x6 : (List Int)) (x31 : Int) (x32 : Int) : nat_Parse.L7 0 x0 x1 x6 x31 x32 = none := by kernel_rfl
theorem nat_Parse.L14_succ (k : Nat) (x0 : ByteArray) (x1 : Int) (x6 : (List Int)) (x9 : Int) (x31 : Int) (x32 : Int) (x43 : Int) (x44 : Bool) (x47 : Int) (x49 : Int) (x50 : Int) (x51 : Int) (x52 : Bool) (x59 : Int) (x60 : Int) : nat_Parse.L14 (k + 1) x0 x1 x6 x9 x31 x32 x43 x44 x47 x49 x50 x51 x52 x59 x60 = nat_Parse.b14 (nat_Parse.L7 k) (nat_Parse.L14 k) x0 x1 x6 x9 x31 x32 x43 x44 x47 x49 x50 x51 x52 x59 x60 := by kernel_rfl
theorem nat_Parse.L14_zero (x0 : ByteArray) (x1 : Int) (x6 : (List Int)) (x9 : Int) (x31 : Int) (x32 : Int) (x43 : Int) (x44 : Bool) (x47 : Int) (x49 : Int) (x50 : Int) (x51 : Int) (x52 : Bool) (x59 : Int) (x60 : Int) : nat_Parse.L14 0 x0 x1 x6 x9 x31 x32 x43 x44 x47 x49 x50 x51 x52 x59 x60 = none := by kernel_rfl
theorem nat_Parse.eval (k : Nat) (a0 : ByteArray) (a1 : Int) : evalF nat_Parse.spec nat_Parse.cals T Tryd.f5 k (a0, a1, ()) = nat_Parse.e (nat_Parse.L7 k) (nat_Parse.L14 k) a0 a1 := by kernel_rfl
theorem nat_Parse.F_eq (a0 : ByteArray) (a1 : Int) : nat_Parse.F (a0, a1, ()) = limF nat_Parse.spec nat_Parse.cals T Tryd.f5 (a0, a1, ()) := by kernel_rfl
theorem nat_Parse.of (k : Nat) (a0 : ByteArray) (a1 : Int) {y : (List Int) × Int × Unit} (h : nat_Parse.e (nat_Parse.L7 k) (nat_Parse.L14 k) a0 a1 = some y) : nat_Parse.F (a0, a1, ()) = some y := (nat_Parse.F_eq a0 a1).trans (limF_of (q := nat_Parse.spec) (C := nat_Parse.cals) (T := T) (f := Tryd.f5) (x := (a0, a1, ())) (y := y) k ((nat_Parse.eval k a0 a1).trans h))

/-! ### fulcrum/fulcrumref01.digit -/
def fulcrumref01_digit.spec : Spec := ⟨[(false, (.int .u8)), (false, (.int .i64))], [(false, (.int .i64))], .own, fun j => match j with | 2 => [(0, .lf (.v false)), (1, .lf (.v false)), (5, .lf (.v true))] | _ => []⟩
noncomputable def fulcrumref01_digit.cals : Cals := (Cals.base tabs)
noncomputable def fulcrumref01_digit.sig : Sig := fulcrumref01_digit.spec.sig fulcrumref01_digit.cals T Tryd.f12
noncomputable def fulcrumref01_digit.F (x : Int × Int × Unit) : Option (Int × Unit) := limF fulcrumref01_digit.spec fulcrumref01_digit.cals T Tryd.f12 x
theorem fulcrumref01_digit.ck : CalsOk Tryd.prog fulcrumref01_digit.cals := (CalsOk.base tabsOk)
theorem fulcrumref01_digit.cal : CalOk Tryd.prog tabs 12 fulcrumref01_digit.sig := calOk_lim' tabOk fulcrumref01_digit.ck mix Tryd.func12 (by kernel_rfl) (by kernel_rfl) (by kernel_rfl) (by kernel_rfl)
def fulcrumref01_digit.m2 (x0 : Int) (x1 : Int) (x5 : Int) : S := ⟨[(0, .one (.lf (.val false (.int .u8) x0))), (1, .one (.lf (.val false (.int .i64) x1))), (5, .one (.lf (.val true (.int .i64) x5)))], ⟨[], []⟩⟩
noncomputable def fulcrumref01_digit.b2 (f2 : Int → Int → Int → Option (Int × Unit)) (x0 : Int) (x1 : Int) (x5 : Int) : Option (Int × Unit) :=
  let v1 := decide (x5 < x1)
  bif v1 then (bif decide (0 ≤ x5) && decide (x5 < (ByteArray.size (⟨#[48, 49, 50, 51, 52, 53, 54, 55, 56, 57, 97, 98, 99, 100, 101, 102]⟩ : ByteArray) : Int)) then (let v2 := btI (⟨#[48, 49, 50, 51, 52, 53, 54, 55, 56, 57, 97, 98, 99, 100, 101, 102]⟩ : ByteArray) x5
  let v3 := (v2 == x0)
  bif v3 then (some (x5, ()))
  else (let v4 := IntKind.i64.wrap (x5 + (1 : Int))
  f2 x0 x1 v4))
  else none)
  else (some ((-1 : Int), ()))
noncomputable def fulcrumref01_digit.e (f2 : Int → Int → Int → Option (Int × Unit)) (a0 : Int) (a1 : Int) : Option (Int × Unit) :=
  f2 a0 a1 (0 : Int)
noncomputable def fulcrumref01_digit.L2 (k : Nat) (x0 : Int) (x1 : Int) (x5 : Int) : Option (Int × Unit) := heads (fulcrumref01_digit.spec.env fulcrumref01_digit.cals T Tryd.f12) (Func.pts Tryd.f12) k 2 (fulcrumref01_digit.m2 x0 x1 x5)
theorem fulcrumref01_digit.L2_succ (k : Nat) (x0 : Int) (x1 : Int) (x5 : Int) : fulcrumref01_digit.L2 (k + 1) x0 x1 x5 = fulcrumref01_digit.b2 (fulcrumref01_digit.L2 k) x0 x1 x5 := by kernel_rfl
theorem fulcrumref01_digit.L2_zero (x0 : Int) (x1 : Int) (x5 : Int) : fulcrumref01_digit.L2 0 x0 x1 x5 = none := by kernel_rfl
theorem fulcrumref01_digit.eval (k : Nat) (a0 : Int) (a1 : Int) : evalF fulcrumref01_digit.spec fulcrumref01_digit.cals T Tryd.f12 k (a0, a1, ()) = fulcrumref01_digit.e (fulcrumref01_digit.L2 k) a0 a1 := by kernel_rfl
theorem fulcrumref01_digit.F_eq (a0 : Int) (a1 : Int) : fulcrumref01_digit.F (a0, a1, ()) = limF fulcrumref01_digit.spec fulcrumref01_digit.cals T Tryd.f12 (a0, a1, ()) := by kernel_rfl
theorem fulcrumref01_digit.of (k : Nat) (a0 : Int) (a1 : Int) {y : Int × Unit} (h : fulcrumref01_digit.e (fulcrumref01_digit.L2 k) a0 a1 = some y) : fulcrumref01_digit.F (a0, a1, ()) = some y := (fulcrumref01_digit.F_eq a0 a1).trans (limF_of (q := fulcrumref01_digit.spec) (C := fulcrumref01_digit.cals) (T := T) (f := Tryd.f12) (x := (a0, a1, ())) (y := y) k ((fulcrumref01_digit.eval k a0 a1).trans h))

/-! ### fulcrum/fulcrumref01.Norm -/
def fulcrumref01_Norm.spec : Spec := ⟨[(false, (.sl 28 (.int .u32)))], [(false, (.sl 28 (.int .u32)))], .own, fun j => match j with | 2 => [(0, .lf (.z 28 (.int .u32) false)), (3, .lf (.v true))] | 6 => [(0, .lf (.z 28 (.int .u32) false)), (3, .lf (.v true)), (4, .lf (.o 28 (.int .u32) true)), (5, .lf (.v true))] | _ => []⟩
noncomputable def fulcrumref01_Norm.cals : Cals := (Cals.base tabs)
noncomputable def fulcrumref01_Norm.sig : Sig := fulcrumref01_Norm.spec.sig fulcrumref01_Norm.cals T Tryd.f10
noncomputable def fulcrumref01_Norm.F (x : (List Int) × Unit) : Option ((List Int) × Unit) := limF fulcrumref01_Norm.spec fulcrumref01_Norm.cals T Tryd.f10 x
theorem fulcrumref01_Norm.ck : CalsOk Tryd.prog fulcrumref01_Norm.cals := (CalsOk.base tabsOk)
theorem fulcrumref01_Norm.cal : CalOk Tryd.prog tabs 10 fulcrumref01_Norm.sig := calOk_lim' tabOk fulcrumref01_Norm.ck mix Tryd.func10 (by kernel_rfl) (by kernel_rfl) (by kernel_rfl) (by kernel_rfl)
def fulcrumref01_Norm.m2 (x0 : (List Int)) (x3 : Int) : S := ⟨[(0, .one (.lf (.val false (.sl 28 (.int .u32)) x0))), (3, .one (.lf (.val true (.int .i64) x3)))], ⟨[], []⟩⟩
def fulcrumref01_Norm.m6 (x0 : (List Int)) (x3 : Int) (x4 : (List Int)) (x5 : Int) : S := ⟨[(0, .one (.lf (.val false (.sl 28 (.int .u32)) x0))), (3, .one (.lf (.val true (.int .i64) x3))), (4, .one (.lf (.own 0))), (5, .one (.lf (.val true (.int .i64) x5)))], ⟨[some ⟨28, (.int .u32), true, true, x4⟩], []⟩⟩
noncomputable def fulcrumref01_Norm.b2 (f2 : (List Int) → Int → Option ((List Int) × Unit)) (f6 : (List Int) → Int → (List Int) → Int → Option ((List Int) × Unit)) (x0 : (List Int)) (x3 : Int) : Option ((List Int) × Unit) :=
  let v1 := decide (x3 > (0 : Int))
  bif v1 then (let v2 := IntKind.i64.wrap (x3 - (1 : Int))
  bif decide (0 ≤ v2) && decide (v2 < (List.length x0 : Int)) then (let v3 := List.getD x0 (Int.toNat v2) (0 : Int)
  let v4 := (v3 == (0 : Int))
  bif v4 then (let v5 := IntKind.i64.wrap (x3 - (1 : Int))
  f2 x0 v5)
  else (bif decide (0 ≤ x3) && (decide (x3 ≤ x3) && (decide (Int.toNat x3 * 4 ≤ 281474976710656) && Nat.blt 0 4)) then (let v6 := List.replicate (Int.toNat x3) (0 : Int)
  f6 x0 x3 v6 (0 : Int))
  else none))
  else none)
  else (bif decide (0 ≤ x3) && (decide (x3 ≤ x3) && (decide (Int.toNat x3 * 4 ≤ 281474976710656) && Nat.blt 0 4)) then (let v7 := List.replicate (Int.toNat x3) (0 : Int)
  f6 x0 x3 v7 (0 : Int))
  else none)
noncomputable def fulcrumref01_Norm.b6 (f2 : (List Int) → Int → Option ((List Int) × Unit)) (f6 : (List Int) → Int → (List Int) → Int → Option ((List Int) × Unit)) (x0 : (List Int)) (x3 : Int) (x4 : (List Int)) (x5 : Int) : Option ((List Int) × Unit) :=
  let v1 := decide (x5 < x3)
  bif v1 then (bif decide (0 ≤ x5) && decide (x5 < (List.length x0 : Int)) then (let v2 := List.getD x0 (Int.toNat x5) (0 : Int)
  bif decide (0 ≤ x5) && decide (x5 < (List.length x4 : Int)) then (let v3 := List.set x4 (Int.toNat x5) v2
  let v4 := IntKind.i64.wrap (x5 + (1 : Int))
  f6 x0 x3 v3 v4)
  else none)
  else none)
  else (some (x4, ()))
noncomputable def fulcrumref01_Norm.e (f2 : (List Int) → Int → Option ((List Int) × Unit)) (f6 : (List Int) → Int → (List Int) → Int → Option ((List Int) × Unit)) (a0 : (List Int)) : Option ((List Int) × Unit) :=
  let v1 := (List.length a0 : Int)
  f2 a0 v1
noncomputable def fulcrumref01_Norm.L2 (k : Nat) (x0 : (List Int)) (x3 : Int) : Option ((List Int) × Unit) := heads (fulcrumref01_Norm.spec.env fulcrumref01_Norm.cals T Tryd.f10) (Func.pts Tryd.f10) k 2 (fulcrumref01_Norm.m2 x0 x3)
noncomputable def fulcrumref01_Norm.L6 (k : Nat) (x0 : (List Int)) (x3 : Int) (x4 : (List Int)) (x5 : Int) : Option ((List Int) × Unit) := heads (fulcrumref01_Norm.spec.env fulcrumref01_Norm.cals T Tryd.f10) (Func.pts Tryd.f10) k 6 (fulcrumref01_Norm.m6 x0 x3 x4 x5)
theorem fulcrumref01_Norm.L2_succ (k : Nat) (x0 : (List Int)) (x3 : Int) : fulcrumref01_Norm.L2 (k + 1) x0 x3 = fulcrumref01_Norm.b2 (fulcrumref01_Norm.L2 k) (fulcrumref01_Norm.L6 k) x0 x3 := by kernel_rfl
theorem fulcrumref01_Norm.L2_zero (x0 : (List Int)) (x3 : Int) : fulcrumref01_Norm.L2 0 x0 x3 = none := by kernel_rfl
theorem fulcrumref01_Norm.L6_succ (k : Nat) (x0 : (List Int)) (x3 : Int) (x4 : (List Int)) (x5 : Int) : fulcrumref01_Norm.L6 (k + 1) x0 x3 x4 x5 = fulcrumref01_Norm.b6 (fulcrumref01_Norm.L2 k) (fulcrumref01_Norm.L6 k) x0 x3 x4 x5 := by kernel_rfl
theorem fulcrumref01_Norm.L6_zero (x0 : (List Int)) (x3 : Int) (x4 : (List Int)) (x5 : Int) : fulcrumref01_Norm.L6 0 x0 x3 x4 x5 = none := by kernel_rfl
theorem fulcrumref01_Norm.eval (k : Nat) (a0 : (List Int)) : evalF fulcrumref01_Norm.spec fulcrumref01_Norm.cals T Tryd.f10 k (a0, ()) = fulcrumref01_Norm.e (fulcrumref01_Norm.L2 k) (fulcrumref01_Norm.L6 k) a0 := by kernel_rfl
theorem fulcrumref01_Norm.F_eq (a0 : (List Int)) : fulcrumref01_Norm.F (a0, ()) = limF fulcrumref01_Norm.spec fulcrumref01_Norm.cals T Tryd.f10 (a0, ()) := by kernel_rfl
theorem fulcrumref01_Norm.of (k : Nat) (a0 : (List Int)) {y : (List Int) × Unit} (h : fulcrumref01_Norm.e (fulcrumref01_Norm.L2 k) (fulcrumref01_Norm.L6 k) a0 = some y) : fulcrumref01_Norm.F (a0, ()) = some y := (fulcrumref01_Norm.F_eq a0).trans (limF_of (q := fulcrumref01_Norm.spec) (C := fulcrumref01_Norm.cals) (T := T) (f := Tryd.f10) (x := (a0, ())) (y := y) k ((fulcrumref01_Norm.eval k a0).trans h))

/-! ### fulcrum/fulcrumref01.at -/
def fulcrumref01_at.spec : Spec := ⟨[(false, (.sl 28 (.int .u32))), (false, (.int .i64))], [(false, (.int .u64))], .own, fun j => match j with  | _ => []⟩
noncomputable def fulcrumref01_at.cals : Cals := (Cals.base tabs)
noncomputable def fulcrumref01_at.sig : Sig := fulcrumref01_at.spec.sig fulcrumref01_at.cals T Tryd.f18
noncomputable def fulcrumref01_at.F (x : (List Int) × Int × Unit) : Option (Int × Unit) := limF fulcrumref01_at.spec fulcrumref01_at.cals T Tryd.f18 x
theorem fulcrumref01_at.ck : CalsOk Tryd.prog fulcrumref01_at.cals := (CalsOk.base tabsOk)
theorem fulcrumref01_at.cal : CalOk Tryd.prog tabs 18 fulcrumref01_at.sig := calOk_lim' tabOk fulcrumref01_at.ck mix Tryd.func18 (by kernel_rfl) (by kernel_rfl) (by kernel_rfl) (by kernel_rfl)
noncomputable def fulcrumref01_at.e  (a0 : (List Int)) (a1 : Int) : Option (Int × Unit) :=
  let v1 := (List.length a0 : Int)
  let v2 := decide (a1 ≥ v1)
  bif v2 then (some ((0 : Int), ()))
  else (bif decide (0 ≤ a1) && decide (a1 < (List.length a0 : Int)) then (let v3 := List.getD a0 (Int.toNat a1) (0 : Int)
  let v4 := IntKind.u64.wrap v3
  some (v4, ()))
  else none)
theorem fulcrumref01_at.eval (k : Nat) (a0 : (List Int)) (a1 : Int) : evalF fulcrumref01_at.spec fulcrumref01_at.cals T Tryd.f18 k (a0, a1, ()) = fulcrumref01_at.e  a0 a1 := by kernel_rfl
theorem fulcrumref01_at.F_eq (a0 : (List Int)) (a1 : Int) : fulcrumref01_at.F (a0, a1, ()) = limF fulcrumref01_at.spec fulcrumref01_at.cals T Tryd.f18 (a0, a1, ()) := by kernel_rfl
theorem fulcrumref01_at.of (k : Nat) (a0 : (List Int)) (a1 : Int) {y : Int × Unit} (h : fulcrumref01_at.e  a0 a1 = some y) : fulcrumref01_at.F (a0, a1, ()) = some y := (fulcrumref01_at.F_eq a0 a1).trans (limF_of (q := fulcrumref01_at.spec) (C := fulcrumref01_at.cals) (T := T) (f := Tryd.f18) (x := (a0, a1, ())) (y := y) k ((fulcrumref01_at.eval k a0 a1).trans h))

/-! ### fulcrum/fulcrumref01.Add -/
def fulcrumref01_Add.spec : Spec := ⟨[(false, (.sl 28 (.int .u32))), (false, (.sl 28 (.int .u32)))], [(false, (.sl 28 (.int .u32)))], .own, fun j => match j with | 7 => [(0, .lf (.z 28 (.int .u32) false)), (1, .lf (.z 28 (.int .u32) false)), (5, .lf (.v true)), (6, .lf (.o 28 (.int .u32) true)), (7, .lf (.v true)), (8, .lf (.v true))] | _ => []⟩
noncomputable def fulcrumref01_Add.cals : Cals := (Cals.cons 18 fulcrumref01_at.sig (Cals.cons 10 fulcrumref01_Norm.sig (Cals.base tabs)))
noncomputable def fulcrumref01_Add.sig : Sig := fulcrumref01_Add.spec.sig fulcrumref01_Add.cals T Tryd.f13
noncomputable def fulcrumref01_Add.F (x : (List Int) × (List Int) × Unit) : Option ((List Int) × Unit) := limF fulcrumref01_Add.spec fulcrumref01_Add.cals T Tryd.f13 x
theorem fulcrumref01_Add.ck : CalsOk Tryd.prog fulcrumref01_Add.cals := (CalsOk.cons fulcrumref01_at.cal (CalsOk.cons fulcrumref01_Norm.cal (CalsOk.base tabsOk)))
theorem fulcrumref01_Add.cal : CalOk Tryd.prog tabs 13 fulcrumref01_Add.sig := calOk_lim' tabOk fulcrumref01_Add.ck mix Tryd.func13 (by kernel_rfl) (by kernel_rfl) (by kernel_rfl) (by kernel_rfl)
def fulcrumref01_Add.m7 (x0 : (List Int)) (x1 : (List Int)) (x5 : Int) (x6 : (List Int)) (x7 : Int) (x8 : Int) : S := ⟨[(0, .one (.lf (.val false (.sl 28 (.int .u32)) x0))), (1, .one (.lf (.val false (.sl 28 (.int .u32)) x1))), (5, .one (.lf (.val true (.int .i64) x5))), (6, .one (.lf (.own 0))), (7, .one (.lf (.val true (.int .u64) x7))), (8, .one (.lf (.val true (.int .i64) x8)))], ⟨[some ⟨28, (.int .u32), true, true, x6⟩], []⟩⟩
noncomputable def fulcrumref01_Add.b7 (f7 : (List Int) → (List Int) → Int → (List Int) → Int → Int → Option ((List Int) × Unit)) (x0 : (List Int)) (x1 : (List Int)) (x5 : Int) (x6 : (List Int)) (x7 : Int) (x8 : Int) : Option ((List Int) × Unit) :=
  let v1 := decide (x8 ≤ x5)
  bif v1 then ((fulcrumref01_at.F (x0, x8, ())).bind fun y2 =>
  (fulcrumref01_at.F (x1, x8, ())).bind fun y3 =>
  let v4 := IntKind.u64.wrap (y2.1 + y3.1)
  let v5 := IntKind.u64.wrap (v4 + x7)
  let v6 := IntKind.u32.wrap v5
  bif decide (0 ≤ x8) && decide (x8 < (List.length x6 : Int)) then (let v7 := List.set x6 (Int.toNat x8) v6
  bif decide ((32 : Int) < 0) then none
  else (let v8 := shrI .u64 v5 (32 : Int)
  let v9 := IntKind.i64.wrap (x8 + (1 : Int))
  f7 x0 x1 x5 v7 v8 v9))
  else none)
  else ((fulcrumref01_Norm.F (x6, ())).bind fun y10 =>
  some (y10.1, ()))
noncomputable def fulcrumref01_Add.e (f7 : (List Int) → (List Int) → Int → (List Int) → Int → Int → Option ((List Int) × Unit)) (a0 : (List Int)) (a1 : (List Int)) : Option ((List Int) × Unit) :=
  let v1 := (List.length a0 : Int)
  let v2 := (List.length a1 : Int)
  let v3 := decide (v2 > v1)
  bif v3 then (let v4 := (List.length a1 : Int)
  let v5 := IntKind.i64.wrap (v4 + (1 : Int))
  bif decide (0 ≤ v5) && (decide (v5 ≤ v5) && (decide (Int.toNat v5 * 4 ≤ 281474976710656) && Nat.blt 0 4)) then (let v6 := List.replicate (Int.toNat v5) (0 : Int)
  f7 a0 a1 v4 v6 (0 : Int) (0 : Int))
  else none)
  else (let v7 := IntKind.i64.wrap (v1 + (1 : Int))
  bif decide (0 ≤ v7) && (decide (v7 ≤ v7) && (decide (Int.toNat v7 * 4 ≤ 281474976710656) && Nat.blt 0 4)) then (let v8 := List.replicate (Int.toNat v7) (0 : Int)
  f7 a0 a1 v1 v8 (0 : Int) (0 : Int))
  else none)
noncomputable def fulcrumref01_Add.L7 (k : Nat) (x0 : (List Int)) (x1 : (List Int)) (x5 : Int) (x6 : (List Int)) (x7 : Int) (x8 : Int) : Option ((List Int) × Unit) := heads (fulcrumref01_Add.spec.env fulcrumref01_Add.cals T Tryd.f13) (Func.pts Tryd.f13) k 7 (fulcrumref01_Add.m7 x0 x1 x5 x6 x7 x8)
theorem fulcrumref01_Add.L7_succ (k : Nat) (x0 : (List Int)) (x1 : (List Int)) (x5 : Int) (x6 : (List Int)) (x7 : Int) (x8 : Int) : fulcrumref01_Add.L7 (k + 1) x0 x1 x5 x6 x7 x8 = fulcrumref01_Add.b7 (fulcrumref01_Add.L7 k) x0 x1 x5 x6 x7 x8 := by kernel_rfl
theorem fulcrumref01_Add.L7_zero (x0 : (List Int)) (x1 : (List Int)) (x5 : Int) (x6 : (List Int)) (x7 : Int) (x8 : Int) : fulcrumref01_Add.L7 0 x0 x1 x5 x6 x7 x8 = none := by kernel_rfl
theorem fulcrumref01_Add.eval (k : Nat) (a0 : (List Int)) (a1 : (List Int)) : evalF fulcrumref01_Add.spec fulcrumref01_Add.cals T Tryd.f13 k (a0, a1, ()) = fulcrumref01_Add.e (fulcrumref01_Add.L7 k) a0 a1 := by kernel_rfl
theorem fulcrumref01_Add.F_eq (a0 : (List Int)) (a1 : (List Int)) : fulcrumref01_Add.F (a0, a1, ()) = limF fulcrumref01_Add.spec fulcrumref01_Add.cals T Tryd.f13 (a0, a1, ()) := by kernel_rfl
theorem fulcrumref01_Add.of (k : Nat) (a0 : (List Int)) (a1 : (List Int)) {y : (List Int) × Unit} (h : fulcrumref01_Add.e (fulcrumref01_Add.L7 k) a0 a1 = some y) : fulcrumref01_Add.F (a0, a1, ()) = some y := (fulcrumref01_Add.F_eq a0 a1).trans (limF_of (q := fulcrumref01_Add.spec) (C := fulcrumref01_Add.cals) (T := T) (f := Tryd.f13) (x := (a0, a1, ())) (y := y) k ((fulcrumref01_Add.eval k a0 a1).trans h))

/-! ### fulcrum/fulcrumref01.Mul -/
def fulcrumref01_Mul.spec : Spec := ⟨[(false, (.sl 28 (.int .u32))), (false, (.sl 28 (.int .u32)))], [(false, (.sl 28 (.int .u32)))], .own, fun j => match j with | 3 => [(0, .lf (.z 28 (.int .u32) false)), (1, .lf (.z 28 (.int .u32) false)), (5, .lf (.o 28 (.int .u32) true)), (6, .lf (.v true))] | 7 => [(0, .lf (.z 28 (.int .u32) false)), (1, .lf (.z 28 (.int .u32) false)), (5, .lf (.o 28 (.int .u32) true)), (6, .lf (.v true)), (7, .lf (.v true)), (8, .lf (.v true))] | _ => []⟩
noncomputable def fulcrumref01_Mul.cals : Cals := (Cals.cons 10 fulcrumref01_Norm.sig (Cals.base tabs))
noncomputable def fulcrumref01_Mul.sig : Sig := fulcrumref01_Mul.spec.sig fulcrumref01_Mul.cals T Tryd.f14
noncomputable def fulcrumref01_Mul.F (x : (List Int) × (List Int) × Unit) : Option ((List Int) × Unit) := limF fulcrumref01_Mul.spec fulcrumref01_Mul.cals T Tryd.f14 x
theorem fulcrumref01_Mul.ck : CalsOk Tryd.prog fulcrumref01_Mul.cals := (CalsOk.cons fulcrumref01_Norm.cal (CalsOk.base tabsOk))
theorem fulcrumref01_Mul.cal : CalOk Tryd.prog tabs 14 fulcrumref01_Mul.sig := calOk_lim' tabOk fulcrumref01_Mul.ck mix Tryd.func14 (by kernel_rfl) (by kernel_rfl) (by kernel_rfl) (by kernel_rfl)
def fulcrumref01_Mul.m3 (x0 : (List Int)) (x1 : (List Int)) (x5 : (List Int)) (x6 : Int) : S := ⟨[(0, .one (.lf (.val false (.sl 28 (.int .u32)) x0))), (1, .one (.lf (.val false (.sl 28 (.int .u32)) x1))), (5, .one (.lf (.own 0))), (6, .one (.lf (.val true (.int .i64) x6)))], ⟨[some ⟨28, (.int .u32), true, true, x5⟩], []⟩⟩
def fulcrumref01_Mul.m7 (x0 : (List Int)) (x1 : (List Int)) (x5 : (List Int)) (x6 : Int) (x7 : Int) (x8 : Int) : S := ⟨[(0, .one (.lf (.val false (.sl 28 (.int .u32)) x0))), (1, .one (.lf (.val false (.sl 28 (.int .u32)) x1))), (5, .one (.lf (.own 0))), (6, .one (.lf (.val true (.int .i64) x6))), (7, .one (.lf (.val true (.int .u64) x7))), (8, .one (.lf (.val true (.int .i64) x8)))], ⟨[some ⟨28, (.int .u32), true, true, x5⟩], []⟩⟩
noncomputable def fulcrumref01_Mul.b3 (f3 : (List Int) → (List Int) → (List Int) → Int → Option ((List Int) × Unit)) (f7 : (List Int) → (List Int) → (List Int) → Int → Int → Int → Option ((List Int) × Unit)) (x0 : (List Int)) (x1 : (List Int)) (x5 : (List Int)) (x6 : Int) : Option ((List Int) × Unit) :=
  let v1 := (List.length x0 : Int)
  let v2 := decide (x6 < v1)
  bif v2 then (f7 x0 x1 x5 x6 (0 : Int) (0 : Int))
  else ((fulcrumref01_Norm.F (x5, ())).bind fun y3 =>
  some (y3.1, ()))
noncomputable def fulcrumref01_Mul.b7 (f3 : (List Int) → (List Int) → (List Int) → Int → Option ((List Int) × Unit)) (f7 : (List Int) → (List Int) → (List Int) → Int → Int → Int → Option ((List Int) × Unit)) (x0 : (List Int)) (x1 : (List Int)) (x5 : (List Int)) (x6 : Int) (x7 : Int) (x8 : Int) : Option ((List Int) × Unit) :=
  let v1 := (List.length x1 : Int)
  let v2 := decide (x8 < v1)
  bif v2 then (bif decide (0 ≤ x6) && decide (x6 < (List.length x0 : Int)) then (let v3 := List.getD x0 (Int.toNat x6) (0 : Int)
  let v4 := IntKind.u64.wrap v3
  bif decide (0 ≤ x8) && decide (x8 < (List.length x1 : Int)) then (let v5 := List.getD x1 (Int.toNat x8) (0 : Int)
  let v6 := IntKind.u64.wrap v5
  let v7 := IntKind.u64.wrap (v4 * v6)
  let v8 := IntKind.i64.wrap (x6 + x8)
  bif decide (0 ≤ v8) && decide (v8 < (List.length x5 : Int)) then (let v9 := List.getD x5 (Int.toNat v8) (0 : Int)
  let v10 := IntKind.u64.wrap v9
  let v11 := IntKind.u64.wrap (v7 + v10)
  let v12 := IntKind.u64.wrap (v11 + x7)
  let v13 := IntKind.i64.wrap (x6 + x8)
  let v14 := IntKind.u32.wrap v12
  bif decide (0 ≤ v13) && decide (v13 < (List.length x5 : Int)) then (let v15 := List.set x5 (Int.toNat v13) v14
  bif decide ((32 : Int) < 0) then none
  else (let v16 := shrI .u64 v12 (32 : Int)
  let v17 := IntKind.i64.wrap (x8 + (1 : Int))
  f7 x0 x1 v15 x6 v16 v17))
  else none)
  else none)
  else none)
  else none)
  else (let v18 := (List.length x1 : Int)
  let v19 := IntKind.i64.wrap (x6 + v18)
  let v20 := IntKind.u32.wrap x7
  bif decide (0 ≤ v19) && decide (v19 < (List.length x5 : Int)) then (let v21 := List.set x5 (Int.toNat v19) v20
  let v22 := IntKind.i64.wrap (x6 + (1 : Int))
  f3 x0 x1 v21 v22)
  else none)
noncomputable def fulcrumref01_Mul.e (f3 : (List Int) → (List Int) → (List Int) → Int → Option ((List Int) × Unit)) (f7 : (List Int) → (List Int) → (List Int) → Int → Int → Int → Option ((List Int) × Unit)) (a0 : (List Int)) (a1 : (List Int)) : Option ((List Int) × Unit) :=
  let v1 := (List.length a0 : Int)
  let v2 := (List.length a1 : Int)
  let v3 := IntKind.i64.wrap (v1 + v2)
  bif decide (0 ≤ v3) && (decide (v3 ≤ v3) && (decide (Int.toNat v3 * 4 ≤ 281474976710656) && Nat.blt 0 4)) then (let v4 := List.replicate (Int.toNat v3) (0 : Int)
  f3 a0 a1 v4 (0 : Int))
  else none
noncomputable def fulcrumref01_Mul.L3 (k : Nat) (x0 : (List Int)) (x1 : (List Int)) (x5 : (List Int)) (x6 : Int) : Option ((List Int) × Unit) := heads (fulcrumref01_Mul.spec.env fulcrumref01_Mul.cals T Tryd.f14) (Func.pts Tryd.f14) k 3 (fulcrumref01_Mul.m3 x0 x1 x5 x6)
noncomputable def fulcrumref01_Mul.L7 (k : Nat) (x0 : (List Int)) (x1 : (List Int)) (x5 : (List Int)) (x6 : Int) (x7 : Int) (x8 : Int) : Option ((List Int) × Unit) := heads (fulcrumref01_Mul.spec.env fulcrumref01_Mul.cals T Tryd.f14) (Func.pts Tryd.f14) k 7 (fulcrumref01_Mul.m7 x0 x1 x5 x6 x7 x8)
theorem fulcrumref01_Mul.L3_succ (k : Nat) (x0 : (List Int)) (x1 : (List Int)) (x5 : (List Int)) (x6 : Int) : fulcrumref01_Mul.L3 (k + 1) x0 x1 x5 x6 = fulcrumref01_Mul.b3 (fulcrumref01_Mul.L3 k) (fulcrumref01_Mul.L7 k) x0 x1 x5 x6 := by kernel_rfl
theorem fulcrumref01_Mul.L3_zero (x0 : (List Int)) (x1 : (List Int)) (x5 : (List Int)) (x6 : Int) : fulcrumref01_Mul.L3 0 x0 x1 x5 x6 = none := by kernel_rfl
theorem fulcrumref01_Mul.L7_succ (k : Nat) (x0 : (List Int)) (x1 : (List Int)) (x5 : (List Int)) (x6 : Int) (x7 : Int) (x8 : Int) : fulcrumref01_Mul.L7 (k + 1) x0 x1 x5 x6 x7 x8 = fulcrumref01_Mul.b7 (fulcrumref01_Mul.L3 k) (fulcrumref01_Mul.L7 k) x0 x1 x5 x6 x7 x8 := by kernel_rfl
theorem fulcrumref01_Mul.L7_zero (x0 : (List Int)) (x1 : (List Int)) (x5 : (List Int)) (x6 : Int) (x7 : Int) (x8 : Int) : fulcrumref01_Mul.L7 0 x0 x1 x5 x6 x7 x8 = none := by kernel_rfl
theorem fulcrumref01_Mul.eval (k : Nat) (a0 : (List Int)) (a1 : (List Int)) : evalF fulcrumref01_Mul.spec fulcrumref01_Mul.cals T Tryd.f14 k (a0, a1, ()) = fulcrumref01_Mul.e (fulcrumref01_Mul.L3 k) (fulcrumref01_Mul.L7 k) a0 a1 := by kernel_rfl
theorem fulcrumref01_Mul.F_eq (a0 : (List Int)) (a1 : (List Int)) : fulcrumref01_Mul.F (a0, a1, ()) = limF fulcrumref01_Mul.spec fulcrumref01_Mul.cals T Tryd.f14 (a0, a1, ()) := by kernel_rfl
theorem fulcrumref01_Mul.of (k : Nat) (a0 : (List Int)) (a1 : (List Int)) {y : (List Int) × Unit} (h : fulcrumref01_Mul.e (fulcrumref01_Mul.L3 k) (fulcrumref01_Mul.L7 k) a0 a1 = some y) : fulcrumref01_Mul.F (a0, a1, ()) = some y := (fulcrumref01_Mul.F_eq a0 a1).trans (limF_of (q := fulcrumref01_Mul.spec) (C := fulcrumref01_Mul.cals) (T := T) (f := Tryd.f14) (x := (a0, a1, ())) (y := y) k ((fulcrumref01_Mul.eval k a0 a1).trans h))

/-! ### fulcrum/fulcrumref01.Parse -/
def fulcrumref01_Parse.spec : Spec := ⟨[(false, .str), (false, (.int .i64))], [(false, (.sl 28 (.int .u32))), (false, (.int .i64))], .own, fun j => match j with | 7 => [(0, .lf (.v false)), (1, .lf (.v false)), (6, .lf (.o 28 (.int .u32) true)), (7, .lf (.v true))] | _ => []⟩
noncomputable def fulcrumref01_Parse.cals : Cals := (Cals.cons 12 fulcrumref01_digit.sig (Cals.cons 14 fulcrumref01_Mul.sig (Cals.cons 13 fulcrumref01_Add.sig (Cals.base tabs))))
noncomputable def fulcrumref01_Parse.sig : Sig := fulcrumref01_Parse.spec.sig fulcrumref01_Parse.cals T Tryd.f6
noncomputable def fulcrumref01_Parse.F (x : ByteArray × Int × Unit) : Option ((List Int) × Int × Unit) := limF fulcrumref01_Parse.spec fulcrumref01_Parse.cals T Tryd.f6 x
theorem fulcrumref01_Parse.ck : CalsOk Tryd.prog fulcrumref01_Parse.cals := (CalsOk.cons fulcrumref01_digit.cal (CalsOk.cons fulcrumref01_Mul.cal (CalsOk.cons fulcrumref01_Add.cal (CalsOk.base tabsOk))))
theorem fulcrumref01_Parse.cal : CalOk Tryd.prog tabs 6 fulcrumref01_Parse.sig := calOk_lim' tabOk fulcrumref01_Parse.ck mix Tryd.func6 (by kernel_rfl) (by kernel_rfl) (by kernel_rfl) (by kernel_rfl)
def fulcrumref01_Parse.m7 (x0 : ByteArray) (x1 : Int) (x6 : (List Int)) (x7 : Int) : S := ⟨[(0, .one (.lf (.val false .str x0))), (1, .one (.lf (.val false (.int .i64) x1))), (6, .one (.lf (.own 0))), (7, .one (.lf (.val true (.int .i64) x7)))], ⟨[some ⟨28, (.int .u32), true, true, x6⟩], []⟩⟩
noncomputable def fulcrumref01_Parse.b7 (f7 : ByteArray → Int → (List Int) → Int → Option ((List Int) × Int × Unit)) (x0 : ByteArray) (x1 : Int) (x6 : (List Int)) (x7 : Int) : Option ((List Int) × Int × Unit) :=
  let v1 := (ByteArray.size x0 : Int)
  let v2 := decide (x7 < v1)
  bif v2 then (bif decide (0 ≤ x7) && decide (x7 < (ByteArray.size x0 : Int)) then (let v3 := btI x0 x7
  (fulcrumref01_digit.F (v3, x1, ())).bind fun y4 =>
  let v5 := decide (y4.1 < (0 : Int))
  bif v5 then (some (([] : List Int), (15 : Int), ()))
  else (let v6 := IntKind.u32.wrap x1
  let v7 := ([v6] : List Int)
  (fulcrumref01_Mul.F (x6, v7, ())).bind fun y8 =>
  let v9 := IntKind.u32.wrap y4.1
  let v10 := ([v9] : List Int)
  (fulcrumref01_Add.F (y8.1, v10, ())).bind fun y11 =>
  let v12 := IntKind.i64.wrap (x7 + (1 : Int))
  f7 x0 x1 y11.1 v12))
  else none)
  else (some (x6, (0 : Int), ()))
noncomputable def fulcrumref01_Parse.e (f7 : ByteArray → Int → (List Int) → Int → Option ((List Int) × Int × Unit)) (a0 : ByteArray) (a1 : Int) : Option ((List Int) × Int × Unit) :=
  let v1 := decide (a1 < (2 : Int))
  bif v1 then (some (([] : List Int), (14 : Int), ()))
  else (let v2 := decide (a1 > (16 : Int))
  bif v2 then (some (([] : List Int), (14 : Int), ()))
  else (let v3 := (ByteArray.size a0 : Int)
  let v4 := (v3 == (0 : Int))
  bif v4 then (some (([] : List Int), (15 : Int), ()))
  else (let v5 := (ByteArray.size a0 : Int)
  let v6 := decide (v5 > (1 : Int))
  bif v6 then (bif decide (0 ≤ (0 : Int)) && decide ((0 : Int) < (ByteArray.size a0 : Int)) then (let v7 := btI a0 (0 : Int)
  let v8 := (v7 == (48 : Int))
  bif v8 then (some (([] : List Int), (15 : Int), ()))
  else (let v9 := ([] : List Int)
  f7 a0 a1 v9 (0 : Int)))
  else none)
  else (let v10 := ([] : List Int)
  f7 a0 a1 v10 (0 : Int)))))
noncomputable def fulcrumref01_Parse.L7 (k : Nat) (x0 : ByteArray) (x1 : Int) (x6 : (List Int)) (x7 : Int) : Option ((List Int) × Int × Unit) := heads (fulcrumref01_Parse.spec.env fulcrumref01_Parse.cals T Tryd.f6) (Func.pts Tryd.f6) k 7 (fulcrumref01_Parse.m7 x0 x1 x6 x7)
theorem fulcrumref01_Parse.L7_succ (k : Nat) (x0 : ByteArray) (x1 : Int) (x6 : (List Int)) (x7 : Int) : fulcrumref01_Parse.L7 (k + 1) x0 x1 x6 x7 = fulcrumref01_Parse.b7 (fulcrumref01_Parse.L7 k) x0 x1 x6 x7 := by kernel_rfl
theorem fulcrumref01_Parse.L7_zero (x0 : ByteArray) (x1 : Int) (x6 : (List Int)) (x7 : Int) : fulcrumref01_Parse.L7 0 x0 x1 x6 x7 = none := by kernel_rfl
theorem fulcrumref01_Parse.eval (k : Nat) (a0 : ByteArray) (a1 : Int) : evalF fulcrumref01_Parse.spec fulcrumref01_Parse.cals T Tryd.f6 k (a0, a1, ()) = fulcrumref01_Parse.e (fulcrumref01_Parse.L7 k) a0 a1 := by kernel_rfl
theorem fulcrumref01_Parse.F_eq (a0 : ByteArray) (a1 : Int) : fulcrumref01_Parse.F (a0, a1, ()) = limF fulcrumref01_Parse.spec fulcrumref01_Parse.cals T Tryd.f6 (a0, a1, ()) := by kernel_rfl
theorem fulcrumref01_Parse.of (k : Nat) (a0 : ByteArray) (a1 : Int) {y : (List Int) × Int × Unit} (h : fulcrumref01_Parse.e (fulcrumref01_Parse.L7 k) a0 a1 = some y) : fulcrumref01_Parse.F (a0, a1, ()) = some y := (fulcrumref01_Parse.F_eq a0 a1).trans (limF_of (q := fulcrumref01_Parse.spec) (C := fulcrumref01_Parse.cals) (T := T) (f := Tryd.f6) (x := (a0, a1, ())) (y := y) k ((fulcrumref01_Parse.eval k a0 a1).trans h))

/-! ### fulcrum/fulcrumref01.Same -/
def fulcrumref01_Same.spec : Spec := ⟨[(false, (.sl 28 (.int .u32))), (false, (.sl 28 (.int .u32)))], [(false, .bool)], .own, fun j => match j with | 4 => [(0, .lf (.z 28 (.int .u32) false)), (1, .lf (.z 28 (.int .u32) false)), (5, .lf (.v true))] | _ => []⟩
noncomputable def fulcrumref01_Same.cals : Cals := (Cals.base tabs)
noncomputable def fulcrumref01_Same.sig : Sig := fulcrumref01_Same.spec.sig fulcrumref01_Same.cals T Tryd.f15
noncomputable def fulcrumref01_Same.F (x : (List Int) × (List Int) × Unit) : Option (Bool × Unit) := limF fulcrumref01_Same.spec fulcrumref01_Same.cals T Tryd.f15 x
theorem fulcrumref01_Same.ck : CalsOk Tryd.prog fulcrumref01_Same.cals := (CalsOk.base tabsOk)
theorem fulcrumref01_Same.cal : CalOk Tryd.prog tabs 15 fulcrumref01_Same.sig := calOk_lim' tabOk fulcrumref01_Same.ck mix Tryd.func15 (by kernel_rfl) (by kernel_rfl) (by kernel_rfl) (by kernel_rfl)
def fulcrumref01_Same.m4 (x0 : (List Int)) (x1 : (List Int)) (x5 : Int) : S := ⟨[(0, .one (.lf (.val false (.sl 28 (.int .u32)) x0))), (1, .one (.lf (.val false (.sl 28 (.int .u32)) x1))), (5, .one (.lf (.val true (.int .i64) x5)))], ⟨[], []⟩⟩
noncomputable def fulcrumref01_Same.b4 (f4 : (List Int) → (List Int) → Int → Option (Bool × Unit)) (x0 : (List Int)) (x1 : (List Int)) (x5 : Int) : Option (Bool × Unit) :=
  let v1 := (List.length x0 : Int)
  let v2 := decide (x5 < v1)
  bif v2 then (bif decide (0 ≤ x5) && decide (x5 < (List.length x0 : Int)) then (let v3 := List.getD x0 (Int.toNat x5) (0 : Int)
  bif decide (0 ≤ x5) && decide (x5 < (List.length x1 : Int)) then (let v4 := List.getD x1 (Int.toNat x5) (0 : Int)
  let v5 := (v3 != v4)
  bif v5 then (some (false, ()))
  else (let v6 := IntKind.i64.wrap (x5 + (1 : Int))
  f4 x0 x1 v6))
  else none)
  else none)
  else (some (true, ()))
noncomputable def fulcrumref01_Same.e (f4 : (List Int) → (List Int) → Int → Option (Bool × Unit)) (a0 : (List Int)) (a1 : (List Int)) : Option (Bool × Unit) :=
  let v1 := (List.length a0 : Int)
  let v2 := (List.length a1 : Int)
  let v3 := (v1 != v2)
  bif v3 then (some (false, ()))
  else (f4 a0 a1 (0 : Int))
noncomputable def fulcrumref01_Same.L4 (k : Nat) (x0 : (List Int)) (x1 : (List Int)) (x5 : Int) : Option (Bool × Unit) := heads (fulcrumref01_Same.spec.env fulcrumref01_Same.cals T Tryd.f15) (Func.pts Tryd.f15) k 4 (fulcrumref01_Same.m4 x0 x1 x5)
theorem fulcrumref01_Same.L4_succ (k : Nat) (x0 : (List Int)) (x1 : (List Int)) (x5 : Int) : fulcrumref01_Same.L4 (k + 1) x0 x1 x5 = fulcrumref01_Same.b4 (fulcrumref01_Same.L4 k) x0 x1 x5 := by kernel_rfl
theorem fulcrumref01_Same.L4_zero (x0 : (List Int)) (x1 : (List Int)) (x5 : Int) : fulcrumref01_Same.L4 0 x0 x1 x5 = none := by kernel_rfl
theorem fulcrumref01_Same.eval (k : Nat) (a0 : (List Int)) (a1 : (List Int)) : evalF fulcrumref01_Same.spec fulcrumref01_Same.cals T Tryd.f15 k (a0, a1, ()) = fulcrumref01_Same.e (fulcrumref01_Same.L4 k) a0 a1 := by kernel_rfl
theorem fulcrumref01_Same.F_eq (a0 : (List Int)) (a1 : (List Int)) : fulcrumref01_Same.F (a0, a1, ()) = limF fulcrumref01_Same.spec fulcrumref01_Same.cals T Tryd.f15 (a0, a1, ()) := by kernel_rfl
theorem fulcrumref01_Same.of (k : Nat) (a0 : (List Int)) (a1 : (List Int)) {y : Bool × Unit} (h : fulcrumref01_Same.e (fulcrumref01_Same.L4 k) a0 a1 = some y) : fulcrumref01_Same.F (a0, a1, ()) = some y := (fulcrumref01_Same.F_eq a0 a1).trans (limF_of (q := fulcrumref01_Same.spec) (C := fulcrumref01_Same.cals) (T := T) (f := Tryd.f15) (x := (a0, a1, ())) (y := y) k ((fulcrumref01_Same.eval k a0 a1).trans h))

/-! ### fulcrum/fulcrumlaw01.same -/
def fulcrumlaw01_same.spec : Spec := ⟨[(false, (.sl 28 (.int .u32))), (false, (.sl 28 (.int .u32)))], [(false, .bool)], .own, fun j => match j with  | _ => []⟩
noncomputable def fulcrumlaw01_same.cals : Cals := (Cals.cons 15 fulcrumref01_Same.sig (Cals.base tabs))
noncomputable def fulcrumlaw01_same.sig : Sig := fulcrumlaw01_same.spec.sig fulcrumlaw01_same.cals T Tryd.f7
noncomputable def fulcrumlaw01_same.F (x : (List Int) × (List Int) × Unit) : Option (Bool × Unit) := limF fulcrumlaw01_same.spec fulcrumlaw01_same.cals T Tryd.f7 x
theorem fulcrumlaw01_same.ck : CalsOk Tryd.prog fulcrumlaw01_same.cals := (CalsOk.cons fulcrumref01_Same.cal (CalsOk.base tabsOk))
theorem fulcrumlaw01_same.cal : CalOk Tryd.prog tabs 7 fulcrumlaw01_same.sig := calOk_lim' tabOk fulcrumlaw01_same.ck mix Tryd.func7 (by kernel_rfl) (by kernel_rfl) (by kernel_rfl) (by kernel_rfl)
noncomputable def fulcrumlaw01_same.e  (a0 : (List Int)) (a1 : (List Int)) : Option (Bool × Unit) :=
  (fulcrumref01_Same.F (a0, a1, ())).bind fun y1 =>
  some (y1.1, ())
theorem fulcrumlaw01_same.eval (k : Nat) (a0 : (List Int)) (a1 : (List Int)) : evalF fulcrumlaw01_same.spec fulcrumlaw01_same.cals T Tryd.f7 k (a0, a1, ()) = fulcrumlaw01_same.e  a0 a1 := by kernel_rfl
theorem fulcrumlaw01_same.F_eq (a0 : (List Int)) (a1 : (List Int)) : fulcrumlaw01_same.F (a0, a1, ()) = limF fulcrumlaw01_same.spec fulcrumlaw01_same.cals T Tryd.f7 (a0, a1, ()) := by kernel_rfl
theorem fulcrumlaw01_same.of (k : Nat) (a0 : (List Int)) (a1 : (List Int)) {y : Bool × Unit} (h : fulcrumlaw01_same.e  a0 a1 = some y) : fulcrumlaw01_same.F (a0, a1, ()) = some y := (fulcrumlaw01_same.F_eq a0 a1).trans (limF_of (q := fulcrumlaw01_same.spec) (C := fulcrumlaw01_same.cals) (T := T) (f := Tryd.f7) (x := (a0, a1, ())) (y := y) k ((fulcrumlaw01_same.eval k a0 a1).trans h))

/-! ### fulcrum/fulcrumlaw01.NatReads -/
def fulcrumlaw01_NatReads.spec : Spec := ⟨[(false, .str), (false, (.int .i64))], [(false, .bool)], .own, fun j => match j with  | _ => []⟩
noncomputable def fulcrumlaw01_NatReads.cals : Cals := (Cals.cons 5 nat_Parse.sig (Cals.cons 6 fulcrumref01_Parse.sig (Cals.cons 7 fulcrumlaw01_same.sig (Cals.base tabs))))
noncomputable def fulcrumlaw01_NatReads.sig : Sig := fulcrumlaw01_NatReads.spec.sig fulcrumlaw01_NatReads.cals T Tryd.f3
noncomputable def fulcrumlaw01_NatReads.F (x : ByteArray × Int × Unit) : Option (Bool × Unit) := limF fulcrumlaw01_NatReads.spec fulcrumlaw01_NatReads.cals T Tryd.f3 x
theorem fulcrumlaw01_NatReads.ck : CalsOk Tryd.prog fulcrumlaw01_NatReads.cals := (CalsOk.cons nat_Parse.cal (CalsOk.cons fulcrumref01_Parse.cal (CalsOk.cons fulcrumlaw01_same.cal (CalsOk.base tabsOk))))
theorem fulcrumlaw01_NatReads.cal : CalOk Tryd.prog tabs 3 fulcrumlaw01_NatReads.sig := calOk_lim' tabOk fulcrumlaw01_NatReads.ck mix Tryd.func3 (by kernel_rfl) (by kernel_rfl) (by kernel_rfl) (by kernel_rfl)
noncomputable def fulcrumlaw01_NatReads.e  (a0 : ByteArray) (a1 : Int) : Option (Bool × Unit) :=
  (nat_Parse.F (a0, a1, ())).bind fun y1 =>
  (fulcrumref01_Parse.F (a0, a1, ())).bind fun y2 =>
  let v3 := (y1.2.1 != y2.2.1)
  bif v3 then (some (false, ()))
  else ((fulcrumlaw01_same.F (y1.1, y2.1, ())).bind fun y4 =>
  let v5 := not y4.1
  bif v5 then (some (false, ()))
  else ((nat_Parse.F ((⟨#[102, 102]⟩ : ByteArray), (16 : Int), ())).bind fun y6 =>
  let v7 := (y6.2.1 == (0 : Int))
  bif v7 then (let v8 := ([(255 : Int)] : List Int)
  (fulcrumlaw01_same.F (y6.1, v8, ())).bind fun y9 =>
  some (y9.1, ()))
  else (some (false, ()))))
theorem fulcrumlaw01_NatReads.eval (k : Nat) (a0 : ByteArray) (a1 : Int) : evalF fulcrumlaw01_NatReads.spec fulcrumlaw01_NatReads.cals T Tryd.f3 k (a0, a1, ()) = fulcrumlaw01_NatReads.e  a0 a1 := by kernel_rfl
theorem fulcrumlaw01_NatReads.F_eq (a0 : ByteArray) (a1 : Int) : fulcrumlaw01_NatReads.F (a0, a1, ()) = limF fulcrumlaw01_NatReads.spec fulcrumlaw01_NatReads.cals T Tryd.f3 (a0, a1, ()) := by kernel_rfl
theorem fulcrumlaw01_NatReads.of (k : Nat) (a0 : ByteArray) (a1 : Int) {y : Bool × Unit} (h : fulcrumlaw01_NatReads.e  a0 a1 = some y) : fulcrumlaw01_NatReads.F (a0, a1, ()) = some y := (fulcrumlaw01_NatReads.F_eq a0 a1).trans (limF_of (q := fulcrumlaw01_NatReads.spec) (C := fulcrumlaw01_NatReads.cals) (T := T) (f := Tryd.f3) (x := (a0, a1, ())) (y := y) k ((fulcrumlaw01_NatReads.eval k a0 a1).trans h))

/-! ### math/bits.Div32 -/
def bits_Div32.spec : Spec := ⟨[(false, (.int .u32)), (false, (.int .u32)), (false, (.int .u32))], [(false, (.int .u32)), (false, (.int .u32))], .own, fun j => match j with  | _ => []⟩
noncomputable def bits_Div32.cals : Cals := (Cals.base tabs)
noncomputable def bits_Div32.sig : Sig := bits_Div32.spec.sig bits_Div32.cals T Tryd.f19
noncomputable def bits_Div32.F (x : Int × Int × Int × Unit) : Option (Int × Int × Unit) := limF bits_Div32.spec bits_Div32.cals T Tryd.f19 x
theorem bits_Div32.ck : CalsOk Tryd.prog bits_Div32.cals := (CalsOk.base tabsOk)
theorem bits_Div32.cal : CalOk Tryd.prog tabs 19 bits_Div32.sig := calOk_lim' tabOk bits_Div32.ck mix Tryd.func19 (by kernel_rfl) (by kernel_rfl) (by kernel_rfl) (by kernel_rfl)
noncomputable def bits_Div32.e  (a0 : Int) (a1 : Int) (a2 : Int) : Option (Int × Int × Unit) :=
  let v1 := (a2 != (0 : Int))
  bif v1 then (let v2 := decide (a2 ≤ a0)
  bif v2 then (none)
  else (let v3 := IntKind.u64.wrap a0
  bif decide ((32 : Int) < 0) then none
  else (let v4 := shlI .u64 v3 (32 : Int)
  let v5 := IntKind.u64.wrap a1
  let v6 := bitsOp .or .u64 v4 v5
  let v7 := IntKind.u64.wrap a2
  bif decide (v7 = 0) then none
  else (let v8 := IntKind.u64.wrap (Int.tdiv v6 v7)
  let v9 := IntKind.u32.wrap v8
  let v10 := IntKind.u64.wrap a2
  bif decide (v10 = 0) then none
  else (let v11 := Int.tmod v6 v10
  let v12 := IntKind.u32.wrap v11
  some (v9, v12, ()))))))
  else (let v13 := IntKind.u64.wrap a0
  bif decide ((32 : Int) < 0) then none
  else (let v14 := shlI .u64 v13 (32 : Int)
  let v15 := IntKind.u64.wrap a1
  let v16 := bitsOp .or .u64 v14 v15
  let v17 := IntKind.u64.wrap a2
  bif decide (v17 = 0) then none
  else (let v18 := IntKind.u64.wrap (Int.tdiv v16 v17)
  let v19 := IntKind.u32.wrap v18
  let v20 := IntKind.u64.wrap a2
  bif decide (v20 = 0) then none
  else (let v21 := Int.tmod v16 v20
  let v22 := IntKind.u32.wrap v21
  some (v19, v22, ())))))
theorem bits_Div32.eval (k : Nat) (a0 : Int) (a1 : Int) (a2 : Int) : evalF bits_Div32.spec bits_Div32.cals T Tryd.f19 k (a0, a1, a2, ()) = bits_Div32.e  a0 a1 a2 := by kernel_rfl
theorem bits_Div32.F_eq (a0 : Int) (a1 : Int) (a2 : Int) : bits_Div32.F (a0, a1, a2, ()) = limF bits_Div32.spec bits_Div32.cals T Tryd.f19 (a0, a1, a2, ()) := by kernel_rfl
theorem bits_Div32.of (k : Nat) (a0 : Int) (a1 : Int) (a2 : Int) {y : Int × Int × Unit} (h : bits_Div32.e  a0 a1 a2 = some y) : bits_Div32.F (a0, a1, a2, ()) = some y := (bits_Div32.F_eq a0 a1 a2).trans (limF_of (q := bits_Div32.spec) (C := bits_Div32.cals) (T := T) (f := Tryd.f19) (x := (a0, a1, a2, ())) (y := y) k ((bits_Div32.eval k a0 a1 a2).trans h))

/-! ### fulcrum/nat.short -/
def nat_short.spec : Spec := ⟨[(false, (.sl 28 (.int .u32))), (false, (.int .u32))], [(false, (.sl 28 (.int .u32))), (false, (.int .u32))], .own, fun j => match j with | 4 => [(0, .lf (.z 28 (.int .u32) false)), (1, .lf (.v false)), (6, .lf (.o 28 (.int .u32) true)), (7, .lf (.v true)), (8, .lf (.v true))] | _ => []⟩
noncomputable def nat_short.cals : Cals := (Cals.cons 19 bits_Div32.sig (Cals.base tabs))
noncomputable def nat_short.sig : Sig := nat_short.spec.sig nat_short.cals T Tryd.f16
noncomputable def nat_short.F (x : (List Int) × Int × Unit) : Option ((List Int) × Int × Unit) := limF nat_short.spec nat_short.cals T Tryd.f16 x
theorem nat_short.ck : CalsOk Tryd.prog nat_short.cals := (CalsOk.cons bits_Div32.cal (CalsOk.base tabsOk))
theorem nat_short.cal : CalOk Tryd.prog tabs 16 nat_short.sig := calOk_lim' tabOk nat_short.ck mix Tryd.func16 (by kernel_rfl) (by kernel_rfl) (by kernel_rfl) (by kernel_rfl)
def nat_short.m4 (x0 : (List Int)) (x1 : Int) (x6 : (List Int)) (x7 : Int) (x8 : Int) : S := ⟨[(0, .one (.lf (.val false (.sl 28 (.int .u32)) x0))), (1, .one (.lf (.val false (.int .u32) x1))), (6, .one (.lf (.own 0))), (7, .one (.lf (.val true (.int .u32) x7))), (8, .one (.lf (.val true (.int .i64) x8)))], ⟨[some ⟨28, (.int .u32), true, true, x6⟩], []⟩⟩
noncomputable def nat_short.b4 (f4 : (List Int) → Int → (List Int) → Int → Int → Option ((List Int) × Int × Unit)) (x0 : (List Int)) (x1 : Int) (x6 : (List Int)) (x7 : Int) (x8 : Int) : Option ((List Int) × Int × Unit) :=
  let v1 := decide (x8 ≥ (0 : Int))
  bif v1 then (bif decide (0 ≤ x8) && decide (x8 < (List.length x0 : Int)) then (let v2 := List.getD x0 (Int.toNat x8) (0 : Int)
  (bits_Div32.F (x7, v2, x1, ())).bind fun y3 =>
  bif decide (0 ≤ x8) && decide (x8 < (List.length x6 : Int)) then (let v4 := List.set x6 (Int.toNat x8) y3.1
  let v5 := IntKind.i64.wrap (x8 - (1 : Int))
  f4 x0 x1 v4 y3.2.1 v5)
  else none)
  else none)
  else (some (x6, x7, ()))
noncomputable def nat_short.e (f4 : (List Int) → Int → (List Int) → Int → Int → Option ((List Int) × Int × Unit)) (a0 : (List Int)) (a1 : Int) : Option ((List Int) × Int × Unit) :=
  let v1 := (List.length a0 : Int)
  bif decide (0 ≤ v1) && (decide (v1 ≤ v1) && (decide (Int.toNat v1 * 4 ≤ 281474976710656) && Nat.blt 0 4)) then (let v2 := List.replicate (Int.toNat v1) (0 : Int)
  let v3 := (List.length a0 : Int)
  let v4 := IntKind.i64.wrap (v3 - (1 : Int))
  f4 a0 a1 v2 (0 : Int) v4)
  else none
noncomputable def nat_short.L4 (k : Nat) (x0 : (List Int)) (x1 : Int) (x6 : (List Int)) (x7 : Int) (x8 : Int) : Option ((List Int) × Int × Unit) := heads (nat_short.spec.env nat_short.cals T Tryd.f16) (Func.pts Tryd.f16) k 4 (nat_short.m4 x0 x1 x6 x7 x8)
theorem nat_short.L4_succ (k : Nat) (x0 : (List Int)) (x1 : Int) (x6 : (List Int)) (x7 : Int) (x8 : Int) : nat_short.L4 (k + 1) x0 x1 x6 x7 x8 = nat_short.b4 (nat_short.L4 k) x0 x1 x6 x7 x8 := by kernel_rfl
theorem nat_short.L4_zero (x0 : (List Int)) (x1 : Int) (x6 : (List Int)) (x7 : Int) (x8 : Int) : nat_short.L4 0 x0 x1 x6 x7 x8 = none := by kernel_rfl
theorem nat_short.eval (k : Nat) (a0 : (List Int)) (a1 : Int) : evalF nat_short.spec nat_short.cals T Tryd.f16 k (a0, a1, ()) = nat_short.e (nat_short.L4 k) a0 a1 := by kernel_rfl
theorem nat_short.F_eq (a0 : (List Int)) (a1 : Int) : nat_short.F (a0, a1, ()) = limF nat_short.spec nat_short.cals T Tryd.f16 (a0, a1, ()) := by kernel_rfl
theorem nat_short.of (k : Nat) (a0 : (List Int)) (a1 : Int) {y : (List Int) × Int × Unit} (h : nat_short.e (nat_short.L4 k) a0 a1 = some y) : nat_short.F (a0, a1, ()) = some y := (nat_short.F_eq a0 a1).trans (limF_of (q := nat_short.spec) (C := nat_short.cals) (T := T) (f := Tryd.f16) (x := (a0, a1, ())) (y := y) k ((nat_short.eval k a0 a1).trans h))

/-! ### fulcrum/nat.Text -/
def nat_Text.spec : Spec := ⟨[(false, (.sl 28 (.int .u32))), (false, (.int .i64))], [(false, .str), (false, (.int .i64))], .own, fun j => match j with | 5 => [(1, .lf (.v false)), (6, .lf (.o 5 (.int .u8) true)), (7, .lf (.z 28 (.int .u32) true))] | 14 => [(6, .lf (.o 5 (.int .u8) true)), (9, .lf (.o 5 (.int .u8) true)), (43, .lf (.v true)), (44, .lf (.v true))] | _ => []⟩
noncomputable def nat_Text.cals : Cals := (Cals.cons 11 nat_own.sig (Cals.cons 16 nat_short.sig (Cals.cons 17 nat_trim.sig (Cals.base tabs))))
noncomputable def nat_Text.sig : Sig := nat_Text.spec.sig nat_Text.cals T Tryd.f8
noncomputable def nat_Text.F (x : (List Int) × Int × Unit) : Option (ByteArray × Int × Unit) := limF nat_Text.spec nat_Text.cals T Tryd.f8 x
theorem nat_Text.ck : CalsOk Tryd.prog nat_Text.cals := (CalsOk.cons nat_own.cal (CalsOk.cons nat_short.cal (CalsOk.cons nat_trim.cal (CalsOk.base tabsOk))))
theorem nat_Text.cal : CalOk Tryd.prog tabs 8 nat_Text.sig := calOk_lim' tabOk nat_Text.ck mix Tryd.func8 (by kernel_rfl) (by kernel_rfl) (by kernel_rfl) (by kernel_rfl)
def nat_Text.m5 (x1 : Int) (x6 : (List Int)) (x7 : (List Int)) : S := ⟨[(1, .one (.lf (.val false (.int .i64) x1))), (6, .one (.lf (.own 0))), (7, .one (.lf (.val true (.sl 28 (.int .u32)) x7)))], ⟨[some ⟨5, (.int .u8), true, true, x6⟩], []⟩⟩
def nat_Text.m14 (x6 : (List Int)) (x9 : (List Int)) (x43 : Int) (x44 : Int) : S := ⟨[(6, .one (.lf (.own 0))), (9, .one (.lf (.own 1))), (43, .one (.lf (.val true (.int .i64) x43))), (44, .one (.lf (.val true (.int .i64) x44)))], ⟨[some ⟨5, (.int .u8), true, true, x6⟩, some ⟨5, (.int .u8), true, true, x9⟩], []⟩⟩
noncomputable def nat_Text.b5 (f5 : Int → (List Int) → (List Int) → Option (ByteArray × Int × Unit)) (f14 : (List Int) → (List Int) → Int → Int → Option (ByteArray × Int × Unit)) (x1 : Int) (x6 : (List Int)) (x7 : (List Int)) : Option (ByteArray × Int × Unit) :=
  let v1 := (List.length x7 : Int)
  let v2 := decide (v1 > (0 : Int))
  bif v2 then (let v3 := IntKind.u32.wrap x1
  (nat_short.F (x7, v3, ())).bind fun y4 =>
  (nat_trim.F (y4.1, ())).bind fun y5 =>
  bif decide (0 ≤ y4.2.1) && decide (y4.2.1 < (ByteArray.size (⟨#[48, 49, 50, 51, 52, 53, 54, 55, 56, 57, 97, 98, 99, 100, 101, 102]⟩ : ByteArray) : Int)) then (let v6 := btI (⟨#[48, 49, 50, 51, 52, 53, 54, 55, 56, 57, 97, 98, 99, 100, 101, 102]⟩ : ByteArray) y4.2.1
  let v7 := ([v6] : List Int)
  bif decide (List.length x6 + List.length v7 < 140737488355328) then (let v8 := List.append x6 v7
  f5 x1 v8 y5.1)
  else none)
  else none)
  else (let v9 := (List.length x6 : Int)
  let v10 := (v9 == (0 : Int))
  bif v10 then (some ((⟨#[48]⟩ : ByteArray), (0 : Int), ()))
  else (let v11 := (List.length x6 : Int)
  bif decide (0 ≤ v11) && (decide (v11 ≤ v11) && (decide (Int.toNat v11 * 1 ≤ 281474976710656) && Nat.blt 0 1)) then (let v12 := List.replicate (Int.toNat v11) (0 : Int)
  let v13 := (List.length x6 : Int)
  f14 x6 v12 v13 (0 : Int))
  else none))
noncomputable def nat_Text.b14 (f5 : Int → (List Int) → (List Int) → Option (ByteArray × Int × Unit)) (f14 : (List Int) → (List Int) → Int → Int → Option (ByteArray × Int × Unit)) (x6 : (List Int)) (x9 : (List Int)) (x43 : Int) (x44 : Int) : Option (ByteArray × Int × Unit) :=
  let v1 := decide (x44 < x43)
  bif v1 then (let v2 := (List.length x6 : Int)
  let v3 := IntKind.i64.wrap (v2 - (1 : Int))
  let v4 := IntKind.i64.wrap (v3 - x44)
  bif decide (0 ≤ x44) && decide (x44 < (List.length x6 : Int)) then (let v5 := List.getD x6 (Int.toNat x44) (0 : Int)
  bif decide (0 ≤ v4) && decide (v4 < (List.length x9 : Int)) then (let v6 := List.set x9 (Int.toNat v4) v5
  let v7 := IntKind.i64.wrap (x44 + (1 : Int))
  f14 x6 v6 x43 v7)
  else none)
  else none)
  else (let v8 := strOfNums x9
  some (v8, (0 : Int), ()))
noncomputable def nat_Text.e (f5 : Int → (List Int) → (List Int) → Option (ByteArray × Int × Unit)) (f14 : (List Int) → (List Int) → Int → Int → Option (ByteArray × Int × Unit)) (a0 : (List Int)) (a1 : Int) : Option (ByteArray × Int × Unit) :=
  let v1 := decide (a1 < (2 : Int))
  bif v1 then (some ((⟨#[]⟩ : ByteArray), (14 : Int), ()))
  else (let v2 := decide (a1 > (16 : Int))
  bif v2 then (some ((⟨#[]⟩ : ByteArray), (14 : Int), ()))
  else ((nat_own.F (a0, ())).bind fun y3 =>
  f5 a1 ([] : List Int) y3.1))
noncomputable def nat_Text.L5 (k : Nat) (x1 : Int) (x6 : (List Int)) (x7 : (List Int)) : Option (ByteArray × Int × Unit) := heads (nat_Text.spec.env nat_Text.cals T Tryd.f8) (Func.pts Tryd.f8) k 5 (nat_Text.m5 x1 x6 x7)
noncomputable def nat_Text.L14 (k : Nat) (x6 : (List Int)) (x9 : (List Int)) (x43 : Int) (x44 : Int) : Option (ByteArray × Int × Unit) := heads (nat_Text.spec.env nat_Text.cals T Tryd.f8) (Func.pts Tryd.f8) k 14 (nat_Text.m14 x6 x9 x43 x44)
theorem nat_Text.L5_succ (k : Nat) (x1 : Int) (x6 : (List Int)) (x7 : (List Int)) : nat_Text.L5 (k + 1) x1 x6 x7 = nat_Text.b5 (nat_Text.L5 k) (nat_Text.L14 k) x1 x6 x7 := by kernel_rfl
theorem nat_Text.L5_zero (x1 : Int) (x6 : (List Int)) (x7 : (List Int)) : nat_Text.L5 0 x1 x6 x7 = none := by kernel_rfl
theorem nat_Text.L14_succ (k : Nat) (x6 : (List Int)) (x9 : (List Int)) (x43 : Int) (x44 : Int) : nat_Text.L14 (k + 1) x6 x9 x43 x44 = nat_Text.b14 (nat_Text.L5 k) (nat_Text.L14 k) x6 x9 x43 x44 := by kernel_rfl
theorem nat_Text.L14_zero (x6 : (List Int)) (x9 : (List Int)) (x43 : Int) (x44 : Int) : nat_Text.L14 0 x6 x9 x43 x44 = none := by kernel_rfl
theorem nat_Text.eval (k : Nat) (a0 : (List Int)) (a1 : Int) : evalF nat_Text.spec nat_Text.cals T Tryd.f8 k (a0, a1, ()) = nat_Text.e (nat_Text.L5 k) (nat_Text.L14 k) a0 a1 := by kernel_rfl
theorem nat_Text.F_eq (a0 : (List Int)) (a1 : Int) : nat_Text.F (a0, a1, ()) = limF nat_Text.spec nat_Text.cals T Tryd.f8 (a0, a1, ()) := by kernel_rfl
theorem nat_Text.of (k : Nat) (a0 : (List Int)) (a1 : Int) {y : ByteArray × Int × Unit} (h : nat_Text.e (nat_Text.L5 k) (nat_Text.L14 k) a0 a1 = some y) : nat_Text.F (a0, a1, ()) = some y := (nat_Text.F_eq a0 a1).trans (limF_of (q := nat_Text.spec) (C := nat_Text.cals) (T := T) (f := Tryd.f8) (x := (a0, a1, ())) (y := y) k ((nat_Text.eval k a0 a1).trans h))

/-! ### fulcrum/fulcrumlaw01.twin -/
def fulcrumlaw01_twin.spec : Spec := ⟨[(false, (.sl 28 (.int .u32)))], [(false, (.sl 28 (.int .u32)))], .own, fun j => match j with | 3 => [(0, .lf (.z 28 (.int .u32) false)), (3, .lf (.o 28 (.int .u32) true)), (4, .lf (.v true))] | _ => []⟩
noncomputable def fulcrumlaw01_twin.cals : Cals := (Cals.base tabs)
noncomputable def fulcrumlaw01_twin.sig : Sig := fulcrumlaw01_twin.spec.sig fulcrumlaw01_twin.cals T Tryd.f9
noncomputable def fulcrumlaw01_twin.F (x : (List Int) × Unit) : Option ((List Int) × Unit) := limF fulcrumlaw01_twin.spec fulcrumlaw01_twin.cals T Tryd.f9 x
theorem fulcrumlaw01_twin.ck : CalsOk Tryd.prog fulcrumlaw01_twin.cals := (CalsOk.base tabsOk)
theorem fulcrumlaw01_twin.cal : CalOk Tryd.prog tabs 9 fulcrumlaw01_twin.sig := calOk_lim' tabOk fulcrumlaw01_twin.ck mix Tryd.func9 (by kernel_rfl) (by kernel_rfl) (by kernel_rfl) (by kernel_rfl)
def fulcrumlaw01_twin.m3 (x0 : (List Int)) (x3 : (List Int)) (x4 : Int) : S := ⟨[(0, .one (.lf (.val false (.sl 28 (.int .u32)) x0))), (3, .one (.lf (.own 0))), (4, .one (.lf (.val true (.int .i64) x4)))], ⟨[some ⟨28, (.int .u32), true, true, x3⟩], []⟩⟩
noncomputable def fulcrumlaw01_twin.b3 (f3 : (List Int) → (List Int) → Int → Option ((List Int) × Unit)) (x0 : (List Int)) (x3 : (List Int)) (x4 : Int) : Option ((List Int) × Unit) :=
  let v1 := (List.length x0 : Int)
  let v2 := decide (x4 < v1)
  bif v2 then (bif decide (0 ≤ x4) && decide (x4 < (List.length x0 : Int)) then (let v3 := List.getD x0 (Int.toNat x4) (0 : Int)
  bif decide (0 ≤ x4) && decide (x4 < (List.length x3 : Int)) then (let v4 := List.set x3 (Int.toNat x4) v3
  let v5 := IntKind.i64.wrap (x4 + (1 : Int))
  f3 x0 v4 v5)
  else none)
  else none)
  else (some (x3, ()))
noncomputable def fulcrumlaw01_twin.e (f3 : (List Int) → (List Int) → Int → Option ((List Int) × Unit)) (a0 : (List Int)) : Option ((List Int) × Unit) :=
  let v1 := (List.length a0 : Int)
  bif decide (0 ≤ v1) && (decide (v1 ≤ v1) && (decide (Int.toNat v1 * 4 ≤ 281474976710656) && Nat.blt 0 4)) then (let v2 := List.replicate (Int.toNat v1) (0 : Int)
  f3 a0 v2 (0 : Int))
  else none
noncomputable def fulcrumlaw01_twin.L3 (k : Nat) (x0 : (List Int)) (x3 : (List Int)) (x4 : Int) : Option ((List Int) × Unit) := heads (fulcrumlaw01_twin.spec.env fulcrumlaw01_twin.cals T Tryd.f9) (Func.pts Tryd.f9) k 3 (fulcrumlaw01_twin.m3 x0 x3 x4)
theorem fulcrumlaw01_twin.L3_succ (k : Nat) (x0 : (List Int)) (x3 : (List Int)) (x4 : Int) : fulcrumlaw01_twin.L3 (k + 1) x0 x3 x4 = fulcrumlaw01_twin.b3 (fulcrumlaw01_twin.L3 k) x0 x3 x4 := by kernel_rfl
theorem fulcrumlaw01_twin.L3_zero (x0 : (List Int)) (x3 : (List Int)) (x4 : Int) : fulcrumlaw01_twin.L3 0 x0 x3 x4 = none := by kernel_rfl
theorem fulcrumlaw01_twin.eval (k : Nat) (a0 : (List Int)) : evalF fulcrumlaw01_twin.spec fulcrumlaw01_twin.cals T Tryd.f9 k (a0, ()) = fulcrumlaw01_twin.e (fulcrumlaw01_twin.L3 k) a0 := by kernel_rfl
theorem fulcrumlaw01_twin.F_eq (a0 : (List Int)) : fulcrumlaw01_twin.F (a0, ()) = limF fulcrumlaw01_twin.spec fulcrumlaw01_twin.cals T Tryd.f9 (a0, ()) := by kernel_rfl
theorem fulcrumlaw01_twin.of (k : Nat) (a0 : (List Int)) {y : (List Int) × Unit} (h : fulcrumlaw01_twin.e (fulcrumlaw01_twin.L3 k) a0 = some y) : fulcrumlaw01_twin.F (a0, ()) = some y := (fulcrumlaw01_twin.F_eq a0).trans (limF_of (q := fulcrumlaw01_twin.spec) (C := fulcrumlaw01_twin.cals) (T := T) (f := Tryd.f9) (x := (a0, ())) (y := y) k ((fulcrumlaw01_twin.eval k a0).trans h))

/-! ### fulcrum/fulcrumlaw01.NatBack -/
def fulcrumlaw01_NatBack.spec : Spec := ⟨[(false, (.sl 28 (.int .u32))), (false, (.int .i64))], [(false, .bool)], .own, fun j => match j with  | _ => []⟩
noncomputable def fulcrumlaw01_NatBack.cals : Cals := (Cals.cons 5 nat_Parse.sig (Cals.cons 9 fulcrumlaw01_twin.sig (Cals.cons 8 nat_Text.sig (Cals.cons 10 fulcrumref01_Norm.sig (Cals.cons 7 fulcrumlaw01_same.sig (Cals.base tabs))))))
noncomputable def fulcrumlaw01_NatBack.sig : Sig := fulcrumlaw01_NatBack.spec.sig fulcrumlaw01_NatBack.cals T Tryd.f4
noncomputable def fulcrumlaw01_NatBack.F (x : (List Int) × Int × Unit) : Option (Bool × Unit) := limF fulcrumlaw01_NatBack.spec fulcrumlaw01_NatBack.cals T Tryd.f4 x
theorem fulcrumlaw01_NatBack.ck : CalsOk Tryd.prog fulcrumlaw01_NatBack.cals := (CalsOk.cons nat_Parse.cal (CalsOk.cons fulcrumlaw01_twin.cal (CalsOk.cons nat_Text.cal (CalsOk.cons fulcrumref01_Norm.cal (CalsOk.cons fulcrumlaw01_same.cal (CalsOk.base tabsOk))))))
theorem fulcrumlaw01_NatBack.cal : CalOk Tryd.prog tabs 4 fulcrumlaw01_NatBack.sig := calOk_lim' tabOk fulcrumlaw01_NatBack.ck mix Tryd.func4 (by kernel_rfl) (by kernel_rfl) (by kernel_rfl) (by kernel_rfl)
noncomputable def fulcrumlaw01_NatBack.e  (a0 : (List Int)) (a1 : Int) : Option (Bool × Unit) :=
  let v1 := (List.length a0 : Int)
  let v2 := decide (v1 ≥ (67108864 : Int))
  bif v2 then (let v3 := decide (a1 < (2 : Int))
  bif v3 then ((nat_Parse.F ((⟨#[49]⟩ : ByteArray), a1, ())).bind fun y4 =>
  let v5 := (y4.2.1 == (14 : Int))
  some (v5, ()))
  else (let v6 := decide (a1 > (16 : Int))
  bif v6 then ((nat_Parse.F ((⟨#[49]⟩ : ByteArray), a1, ())).bind fun y7 =>
  let v8 := (y7.2.1 == (14 : Int))
  some (v8, ()))
  else ((fulcrumlaw01_twin.F (([] : List Int), ())).bind fun y9 =>
  (nat_Text.F (y9.1, a1, ())).bind fun y10 =>
  (nat_Parse.F (y10.1, a1, ())).bind fun y11 =>
  let v12 := (y10.2.1 == (0 : Int))
  bif v12 then (let v13 := (y11.2.1 == (0 : Int))
  bif v13 then ((fulcrumref01_Norm.F (([] : List Int), ())).bind fun y14 =>
  (fulcrumlaw01_same.F (y11.1, y14.1, ())).bind fun y15 =>
  some (y15.1, ()))
  else (some (false, ())))
  else (some (false, ())))))
  else (let v16 := decide (a1 < (2 : Int))
  bif v16 then ((nat_Parse.F ((⟨#[49]⟩ : ByteArray), a1, ())).bind fun y17 =>
  let v18 := (y17.2.1 == (14 : Int))
  some (v18, ()))
  else (let v19 := decide (a1 > (16 : Int))
  bif v19 then ((nat_Parse.F ((⟨#[49]⟩ : ByteArray), a1, ())).bind fun y20 =>
  let v21 := (y20.2.1 == (14 : Int))
  some (v21, ()))
  else ((fulcrumlaw01_twin.F (a0, ())).bind fun y22 =>
  (nat_Text.F (y22.1, a1, ())).bind fun y23 =>
  (nat_Parse.F (y23.1, a1, ())).bind fun y24 =>
  let v25 := (y23.2.1 == (0 : Int))
  bif v25 then (let v26 := (y24.2.1 == (0 : Int))
  bif v26 then ((fulcrumref01_Norm.F (a0, ())).bind fun y27 =>
  (fulcrumlaw01_same.F (y24.1, y27.1, ())).bind fun y28 =>
  some (y28.1, ()))
  else (some (false, ())))
  else (some (false, ())))))
theorem fulcrumlaw01_NatBack.eval (k : Nat) (a0 : (List Int)) (a1 : Int) : evalF fulcrumlaw01_NatBack.spec fulcrumlaw01_NatBack.cals T Tryd.f4 k (a0, a1, ()) = fulcrumlaw01_NatBack.e  a0 a1 := by kernel_rfl
theorem fulcrumlaw01_NatBack.F_eq (a0 : (List Int)) (a1 : Int) : fulcrumlaw01_NatBack.F (a0, a1, ()) = limF fulcrumlaw01_NatBack.spec fulcrumlaw01_NatBack.cals T Tryd.f4 (a0, a1, ()) := by kernel_rfl
theorem fulcrumlaw01_NatBack.of (k : Nat) (a0 : (List Int)) (a1 : Int) {y : Bool × Unit} (h : fulcrumlaw01_NatBack.e  a0 a1 = some y) : fulcrumlaw01_NatBack.F (a0, a1, ()) = some y := (fulcrumlaw01_NatBack.F_eq a0 a1).trans (limF_of (q := fulcrumlaw01_NatBack.spec) (C := fulcrumlaw01_NatBack.cals) (T := T) (f := Tryd.f4) (x := (a0, a1, ())) (y := y) k ((fulcrumlaw01_NatBack.eval k a0 a1).trans h))

end Go.Fx.Tryd
