import Derived.Test.YtjhbcpnliiegoaaDoorEv27
import Derived.Test.YtjhbcpnliiegoaaDoorProg
namespace Go.Fx.Tryd
open Go Go.Proofs Go.Fx
set_option linter.unusedVariables false
set_option maxRecDepth 100000

def ti4 : TI := ⟨.bool, .bool, false, 1⟩
def T4 : Tab := Tab.cons 4 ti4 Tab.nil
theorem tab4 : TabOk Tryd.prog T4 := TabOk.cons (by kernel_rfl) { info := ⟨Tryd.t4, by kernel_rfl, by kernel_rfl, by kernel_rfl, (.bool false), by kernel_rfl, by kernel_rfl⟩, agg := ⟨_, Tryd.underlying4, rfl⟩, desc := ⟨Tryd.underlying4, rfl⟩ } TabOk.nil
def ti50 : TI := ⟨.int .u32, (.int .u32), false, 4⟩
def T50 : Tab := Tab.cons 50 ti50 T4
theorem tab50 : TabOk Tryd.prog T50 := TabOk.cons (by kernel_rfl) { info := ⟨Tryd.t50, by kernel_rfl, by kernel_rfl, by kernel_rfl, (.int .u32 0), by kernel_rfl, by kernel_rfl⟩, agg := ⟨_, Tryd.underlying50, rfl⟩, desc := ⟨Tryd.underlying50, rfl⟩ } tab4
def ti23 : TI := ⟨.sl 50, (.sl 50 (.int .u32)), false, 24⟩
def T23 : Tab := Tab.cons 23 ti23 T50
theorem tab23 : TabOk Tryd.prog T23 := TabOk.cons (by kernel_rfl) { info := ⟨Tryd.t23, by kernel_rfl, by kernel_rfl, by kernel_rfl, (.slice none 0 0), by kernel_rfl, by kernel_rfl⟩, agg := ⟨_, Tryd.underlying23, rfl⟩, desc := ⟨Tryd.underlying23, ti50, by kernel_rfl, rfl, by decide⟩ } tab50
def ti25 : TI := ⟨.struct [(0, 4), (1, 23)], (.prod .bool (.sl 50 (.int .u32))), true, 32⟩
def T25 : Tab := Tab.cons 25 ti25 T23
theorem tab25 : TabOk Tryd.prog T25 := TabOk.cons (by kernel_rfl) { info := ⟨Tryd.t25, by kernel_rfl, by kernel_rfl, by kernel_rfl, (.agg #[.bool false, .slice none 0 0]), by kernel_rfl, by kernel_rfl⟩, agg := ⟨_, Tryd.underlying25, rfl⟩, desc := ⟨_, Tryd.underlying25, rfl, fun i o ft h => match i, h with | 0, h => by simp at h; obtain ⟨rfl, rfl⟩ := h; exact ⟨_, rfl, rfl, rfl, ti4, by kernel_rfl, by decide⟩ | 1, h => by simp at h; obtain ⟨rfl, rfl⟩ := h; exact ⟨_, rfl, rfl, rfl, ti23, by kernel_rfl, by decide⟩ | n + 2, h => by simp at h⟩ } tab23
def ti9 : TI := ⟨.str, .str, false, 16⟩
def T9 : Tab := Tab.cons 9 ti9 T25
theorem tab9 : TabOk Tryd.prog T9 := TabOk.cons (by kernel_rfl) { info := ⟨Tryd.t9, by kernel_rfl, by kernel_rfl, by kernel_rfl, (.string ByteArray.empty), by kernel_rfl, by kernel_rfl⟩, agg := ⟨_, Tryd.underlying9, rfl⟩, desc := ⟨Tryd.underlying9, rfl⟩ } tab25
def ti3 : TI := ⟨.int .i64, (.int .i64), false, 8⟩
def T3 : Tab := Tab.cons 3 ti3 T9
theorem tab3 : TabOk Tryd.prog T3 := TabOk.cons (by kernel_rfl) { info := ⟨Tryd.t3, by kernel_rfl, by kernel_rfl, by kernel_rfl, (.int .i64 0), by kernel_rfl, by kernel_rfl⟩, agg := ⟨_, Tryd.underlying3, rfl⟩, desc := ⟨Tryd.underlying3, rfl⟩ } tab9
def ti27 : TI := ⟨.int .i64, (.int .i64), false, 8⟩
def T27 : Tab := Tab.cons 27 ti27 T3
theorem tab27 : TabOk Tryd.prog T27 := TabOk.cons (by kernel_rfl) { info := ⟨Tryd.t27, by kernel_rfl, by kernel_rfl, by kernel_rfl, (.int .i64 0), by kernel_rfl, by kernel_rfl⟩, agg := ⟨_, Tryd.underlying27, rfl⟩, desc := ⟨Tryd.underlying27, rfl⟩ } tab3
def ti5 : TI := ⟨.int .u8, (.int .u8), false, 1⟩
def T5 : Tab := Tab.cons 5 ti5 T27
theorem tab5 : TabOk Tryd.prog T5 := TabOk.cons (by kernel_rfl) { info := ⟨Tryd.t5, by kernel_rfl, by kernel_rfl, by kernel_rfl, (.int .u8 0), by kernel_rfl, by kernel_rfl⟩, agg := ⟨_, Tryd.underlying5, rfl⟩, desc := ⟨Tryd.underlying5, rfl⟩ } tab27
def ti52 : TI := ⟨.int .u64, (.int .u64), false, 8⟩
def T52 : Tab := Tab.cons 52 ti52 T5
theorem tab52 : TabOk Tryd.prog T52 := TabOk.cons (by kernel_rfl) { info := ⟨Tryd.t52, by kernel_rfl, by kernel_rfl, by kernel_rfl, (.int .u64 0), by kernel_rfl, by kernel_rfl⟩, agg := ⟨_, Tryd.underlying52, rfl⟩, desc := ⟨Tryd.underlying52, rfl⟩ } tab5
def ti54 : TI := ⟨.sl 3, (.sl 3 (.int .i64)), false, 24⟩
def T54 : Tab := Tab.cons 54 ti54 T52
theorem tab54 : TabOk Tryd.prog T54 := TabOk.cons (by kernel_rfl) { info := ⟨Tryd.t54, by kernel_rfl, by kernel_rfl, by kernel_rfl, (.slice none 0 0), by kernel_rfl, by kernel_rfl⟩, agg := ⟨_, Tryd.underlying54, rfl⟩, desc := ⟨Tryd.underlying54, ti3, by kernel_rfl, rfl, by decide⟩ } tab52
def ti58 : TI := ⟨.sl 5, (.sl 5 (.int .u8)), false, 24⟩
def T58 : Tab := Tab.cons 58 ti58 T54
theorem tab58 : TabOk Tryd.prog T58 := TabOk.cons (by kernel_rfl) { info := ⟨Tryd.t58, by kernel_rfl, by kernel_rfl, by kernel_rfl, (.slice none 0 0), by kernel_rfl, by kernel_rfl⟩, agg := ⟨_, Tryd.underlying58, rfl⟩, desc := ⟨Tryd.underlying58, ti5, by kernel_rfl, rfl, by decide⟩ } tab54
def ti2 : TI := ⟨.int .i64, (.int .i64), false, 8⟩
def T2 : Tab := Tab.cons 2 ti2 T58
theorem tab2 : TabOk Tryd.prog T2 := TabOk.cons (by kernel_rfl) { info := ⟨Tryd.t2, by kernel_rfl, by kernel_rfl, by kernel_rfl, (.int .i64 0), by kernel_rfl, by kernel_rfl⟩, agg := ⟨_, Tryd.underlying2, rfl⟩, desc := ⟨Tryd.underlying2, rfl⟩ } tab58
def T : Tab := T2
theorem tabOk : TabOk Tryd.prog T := tab2
theorem mix : Tryd.prog.follows .mixedOrders = true := by kernel_rfl
def tabXs : List Int := [0, 1, 2, 3, 4, 5, 6, 7, 8, 9, 99, 99, 99, 99, 99, 99, 99, 99, 99, 99, 99, 99, 99, 99, 99, 99, 99, 99, 99, 99, 99, 99, 99, 99, 99, 99, 99, 99, 99, 99, 99, 99, 99, 99, 99, 99, 99, 99, 99, 10, 11, 12, 13, 14, 15]
def tabs : Nat → Option Tbl := oneTab 0 ⟨51, .u32, tabXs⟩
theorem tabsOk : ∀ g tb, tabs g = some tb → TblOk Tryd.prog tb := oneTab_ok ⟨50, Tryd.underlying51, fun w => (tabOk 50 ti50 (by kernel_rfl)).size⟩

/-! ### fulcrum/fulcrumlaw02.endless -/
def fulcrumlaw02_endless.spec : Spec := ⟨[(true, (.prod .bool (.sl 50 (.int .u32))))], [(false, .bool)], .own, fun j => match j with  | _ => []⟩
noncomputable def fulcrumlaw02_endless.cals : Cals := (Cals.base tabs)
noncomputable def fulcrumlaw02_endless.sig : Sig := fulcrumlaw02_endless.spec.sig fulcrumlaw02_endless.cals T Tryd.f6
noncomputable def fulcrumlaw02_endless.F (x : (Bool × (List Int)) × Unit) : Option (Bool × Unit) := limF fulcrumlaw02_endless.spec fulcrumlaw02_endless.cals T Tryd.f6 x
theorem fulcrumlaw02_endless.ck : CalsOk Tryd.prog fulcrumlaw02_endless.cals := (CalsOk.base tabsOk)
theorem fulcrumlaw02_endless.cal : CalOk Tryd.prog tabs 6 fulcrumlaw02_endless.sig := calOk_lim' tabOk fulcrumlaw02_endless.ck mix Tryd.func6 (by kernel_rfl) (by kernel_rfl) (by kernel_rfl) (by kernel_rfl)
noncomputable def fulcrumlaw02_endless.e  (a0 : (Bool × (List Int))) : Option (Bool × Unit) :=
  let v1 := (List.length a0.2 : Int)
  let v2 := decide (v1 > (223000000 : Int))
  some (v2, ())
theorem fulcrumlaw02_endless.eval (k : Nat) (a0 : (Bool × (List Int))) : evalF fulcrumlaw02_endless.spec fulcrumlaw02_endless.cals T Tryd.f6 k (a0, ()) = fulcrumlaw02_endless.e  a0 := by kernel_rfl
theorem fulcrumlaw02_endless.F_eq (a0 : (Bool × (List Int))) : fulcrumlaw02_endless.F (a0, ()) = limF fulcrumlaw02_endless.spec fulcrumlaw02_endless.cals T Tryd.f6 (a0, ()) := by kernel_rfl
theorem fulcrumlaw02_endless.of (k : Nat) (a0 : (Bool × (List Int))) {y : Bool × Unit} (h : fulcrumlaw02_endless.e  a0 = some y) : fulcrumlaw02_endless.F (a0, ()) = some y := (fulcrumlaw02_endless.F_eq a0).trans (limF_of (q := fulcrumlaw02_endless.spec) (C := fulcrumlaw02_endless.cals) (T := T) (f := Tryd.f6) (x := (a0, ())) (y := y) k ((fulcrumlaw02_endless.eval k a0).trans h))

/-! ### internal/stringslite.HasPrefix -/
def stringslite_HasPrefix.spec : Spec := ⟨[(false, .str), (false, .str)], [(false, .bool)], .own, fun j => match j with  | _ => []⟩
noncomputable def stringslite_HasPrefix.cals : Cals := (Cals.base tabs)
noncomputable def stringslite_HasPrefix.sig : Sig := stringslite_HasPrefix.spec.sig stringslite_HasPrefix.cals T Tryd.f44
noncomputable def stringslite_HasPrefix.F (x : ByteArray × ByteArray × Unit) : Option (Bool × Unit) := limF stringslite_HasPrefix.spec stringslite_HasPrefix.cals T Tryd.f44 x
theorem stringslite_HasPrefix.ck : CalsOk Tryd.prog stringslite_HasPrefix.cals := (CalsOk.base tabsOk)
theorem stringslite_HasPrefix.cal : CalOk Tryd.prog tabs 44 stringslite_HasPrefix.sig := calOk_lim' tabOk stringslite_HasPrefix.ck mix Tryd.func44 (by kernel_rfl) (by kernel_rfl) (by kernel_rfl) (by kernel_rfl)
noncomputable def stringslite_HasPrefix.e  (a0 : ByteArray) (a1 : ByteArray) : Option (Bool × Unit) :=
  let v1 := (ByteArray.size a0 : Int)
  let v2 := (ByteArray.size a1 : Int)
  let v3 := decide (v1 ≥ v2)
  bif v3 then (let v4 := (ByteArray.size a1 : Int)
  bif decide (0 ≤ (0 : Int)) && (decide ((0 : Int) ≤ v4) && decide (v4 ≤ (ByteArray.size a0 : Int))) then (let v5 := ByteArray.extract a0 (Int.toNat (0 : Int)) (Int.toNat v4)
  let v6 := (v5.toList == a1.toList)
  some (v6, ()))
  else none)
  else (some (false, ()))
theorem stringslite_HasPrefix.eval (k : Nat) (a0 : ByteArray) (a1 : ByteArray) : evalF stringslite_HasPrefix.spec stringslite_HasPrefix.cals T Tryd.f44 k (a0, a1, ()) = stringslite_HasPrefix.e  a0 a1 := by kernel_rfl
theorem stringslite_HasPrefix.F_eq (a0 : ByteArray) (a1 : ByteArray) : stringslite_HasPrefix.F (a0, a1, ()) = limF stringslite_HasPrefix.spec stringslite_HasPrefix.cals T Tryd.f44 (a0, a1, ()) := by kernel_rfl
theorem stringslite_HasPrefix.of (k : Nat) (a0 : ByteArray) (a1 : ByteArray) {y : Bool × Unit} (h : stringslite_HasPrefix.e  a0 a1 = some y) : stringslite_HasPrefix.F (a0, a1, ()) = some y := (stringslite_HasPrefix.F_eq a0 a1).trans (limF_of (q := stringslite_HasPrefix.spec) (C := stringslite_HasPrefix.cals) (T := T) (f := Tryd.f44) (x := (a0, a1, ())) (y := y) k ((stringslite_HasPrefix.eval k a0 a1).trans h))

/-! ### internal/stringslite.CutPrefix -/
def stringslite_CutPrefix.spec : Spec := ⟨[(false, .str), (false, .str)], [(false, .str), (false, .bool)], .own, fun j => match j with  | _ => []⟩
noncomputable def stringslite_CutPrefix.cals : Cals := (Cals.cons 44 stringslite_HasPrefix.sig (Cals.base tabs))
noncomputable def stringslite_CutPrefix.sig : Sig := stringslite_CutPrefix.spec.sig stringslite_CutPrefix.cals T Tryd.f29
noncomputable def stringslite_CutPrefix.F (x : ByteArray × ByteArray × Unit) : Option (ByteArray × Bool × Unit) := limF stringslite_CutPrefix.spec stringslite_CutPrefix.cals T Tryd.f29 x
theorem stringslite_CutPrefix.ck : CalsOk Tryd.prog stringslite_CutPrefix.cals := (CalsOk.cons stringslite_HasPrefix.cal (CalsOk.base tabsOk))
theorem stringslite_CutPrefix.cal : CalOk Tryd.prog tabs 29 stringslite_CutPrefix.sig := calOk_lim' tabOk stringslite_CutPrefix.ck mix Tryd.func29 (by kernel_rfl) (by kernel_rfl) (by kernel_rfl) (by kernel_rfl)
noncomputable def stringslite_CutPrefix.e  (a0 : ByteArray) (a1 : ByteArray) : Option (ByteArray × Bool × Unit) :=
  (stringslite_HasPrefix.F (a0, a1, ())).bind fun y1 =>
  let v2 := not y1.1
  bif v2 then (some (a0, false, ()))
  else (let v3 := (ByteArray.size a1 : Int)
  bif decide (0 ≤ v3) && (decide (v3 ≤ (ByteArray.size a0 : Int)) && decide ((ByteArray.size a0 : Int) ≤ (ByteArray.size a0 : Int))) then (let v4 := ByteArray.extract a0 (Int.toNat v3) (Int.toNat (ByteArray.size a0 : Int))
  some (v4, true, ()))
  else none)
theorem stringslite_CutPrefix.eval (k : Nat) (a0 : ByteArray) (a1 : ByteArray) : evalF stringslite_CutPrefix.spec stringslite_CutPrefix.cals T Tryd.f29 k (a0, a1, ()) = stringslite_CutPrefix.e  a0 a1 := by kernel_rfl
theorem stringslite_CutPrefix.F_eq (a0 : ByteArray) (a1 : ByteArray) : stringslite_CutPrefix.F (a0, a1, ()) = limF stringslite_CutPrefix.spec stringslite_CutPrefix.cals T Tryd.f29 (a0, a1, ()) := by kernel_rfl
theorem stringslite_CutPrefix.of (k : Nat) (a0 : ByteArray) (a1 : ByteArray) {y : ByteArray × Bool × Unit} (h : stringslite_CutPrefix.e  a0 a1 = some y) : stringslite_CutPrefix.F (a0, a1, ()) = some y := (stringslite_CutPrefix.F_eq a0 a1).trans (limF_of (q := stringslite_CutPrefix.spec) (C := stringslite_CutPrefix.cals) (T := T) (f := Tryd.f29) (x := (a0, a1, ())) (y := y) k ((stringslite_CutPrefix.eval k a0 a1).trans h))

/-! ### strings.CutPrefix -/
def strings_CutPrefix.spec : Spec := ⟨[(false, .str), (false, .str)], [(false, .str), (false, .bool)], .own, fun j => match j with  | _ => []⟩
noncomputable def strings_CutPrefix.cals : Cals := (Cals.cons 29 stringslite_CutPrefix.sig (Cals.base tabs))
noncomputable def strings_CutPrefix.sig : Sig := strings_CutPrefix.spec.sig strings_CutPrefix.cals T Tryd.f16
noncomputable def strings_CutPrefix.F (x : ByteArray × ByteArray × Unit) : Option (ByteArray × Bool × Unit) := limF strings_CutPrefix.spec strings_CutPrefix.cals T Tryd.f16 x
theorem strings_CutPrefix.ck : CalsOk Tryd.prog strings_CutPrefix.cals := (CalsOk.cons stringslite_CutPrefix.cal (CalsOk.base tabsOk))
theorem strings_CutPrefix.cal : CalOk Tryd.prog tabs 16 strings_CutPrefix.sig := calOk_lim' tabOk strings_CutPrefix.ck mix Tryd.func16 (by kernel_rfl) (by kernel_rfl) (by kernel_rfl) (by kernel_rfl)
noncomputable def strings_CutPrefix.e  (a0 : ByteArray) (a1 : ByteArray) : Option (ByteArray × Bool × Unit) :=
  (stringslite_CutPrefix.F (a0, a1, ())).bind fun y1 =>
  some (y1.1, y1.2.1, ())
theorem strings_CutPrefix.eval (k : Nat) (a0 : ByteArray) (a1 : ByteArray) : evalF strings_CutPrefix.spec strings_CutPrefix.cals T Tryd.f16 k (a0, a1, ()) = strings_CutPrefix.e  a0 a1 := by kernel_rfl
theorem strings_CutPrefix.F_eq (a0 : ByteArray) (a1 : ByteArray) : strings_CutPrefix.F (a0, a1, ()) = limF strings_CutPrefix.spec strings_CutPrefix.cals T Tryd.f16 (a0, a1, ()) := by kernel_rfl
theorem strings_CutPrefix.of (k : Nat) (a0 : ByteArray) (a1 : ByteArray) {y : ByteArray × Bool × Unit} (h : strings_CutPrefix.e  a0 a1 = some y) : strings_CutPrefix.F (a0, a1, ()) = some y := (strings_CutPrefix.F_eq a0 a1).trans (limF_of (q := strings_CutPrefix.spec) (C := strings_CutPrefix.cals) (T := T) (f := Tryd.f16) (x := (a0, a1, ())) (y := y) k ((strings_CutPrefix.eval k a0 a1).trans h))

/-! ### fulcrum/nat.trim -/
def nat_trim.spec : Spec := ⟨[(false, (.sl 50 (.int .u32)))], [(false, (.sl 50 (.int .u32)))], .shared, fun j => match j with | 2 => [(0, .lf (.z 50 (.int .u32) true)), (3, .lf (.v true))] | _ => []⟩
noncomputable def nat_trim.cals : Cals := (Cals.base tabs)
noncomputable def nat_trim.sig : Sig := nat_trim.spec.sig nat_trim.cals T Tryd.f37
noncomputable def nat_trim.F (x : (List Int) × Unit) : Option ((List Int) × Unit) := limF nat_trim.spec nat_trim.cals T Tryd.f37 x
theorem nat_trim.ck : CalsOk Tryd.prog nat_trim.cals := (CalsOk.base tabsOk)
theorem nat_trim.cal : CalOk Tryd.prog tabs 37 nat_trim.sig := calOk_lim' tabOk nat_trim.ck mix Tryd.func37 (by kernel_rfl) (by kernel_rfl) (by kernel_rfl) (by kernel_rfl)
def nat_trim.m2 (x0 : (List Int)) (x3 : Int) : S := ⟨[(0, .one (.lf (.val true (.sl 50 (.int .u32)) x0))), (3, .one (.lf (.val true (.int .i64) x3)))], ⟨[], []⟩⟩
noncomputable def nat_trim.b2 (f2 : (List Int) → Int → Option ((List Int) × Unit)) (x0 : (List Int)) (x3 : Int) : Option ((List Int) × Unit) :=
  let v1 := decide (x3 > (0 : Int))
  bif v1 then (let v2 := IntKind.i64.wrap (x3 - (1 : Int))
  bif decide (0 ≤ v2) && decide (v2 < (List.length x0 : Int)) then (let v3 := List.getD x0 (Int.toNat v2) (0 : Int)
  let v4 := (v3 == (0 : Int))
  bif v4 then (let v5 := IntKind.i64.wrap (x3 - (1 : Int))
  f2 x0 v5)
  else (bif decide (0 ≤ x3) && decide (x3 ≤ (List.length x0 : Int)) then (let v6 := List.take (Int.toNat x3) x0
  some (v6, ()))
  else none))
  else none)
  else (bif decide (0 ≤ x3) && decide (x3 ≤ (List.length x0 : Int)) then (let v7 := List.take (Int.toNat x3) x0
  some (v7, ()))
  else none)
noncomputable def nat_trim.e (f2 : (List Int) → Int → Option ((List Int) × Unit)) (a0 : (List Int)) : Option ((List Int) × Unit) :=
  let v1 := (List.length a0 : Int)
  f2 a0 v1
noncomputable def nat_trim.L2 (k : Nat) (x0 : (List Int)) (x3 : Int) : Option ((List Int) × Unit) := heads (nat_trim.spec.env nat_trim.cals T Tryd.f37) (Func.pts Tryd.f37) k 2 (nat_trim.m2 x0 x3)
theorem nat_trim.L2_succ (k : Nat) (x0 : (List Int)) (x3 : Int) : nat_trim.L2 (k + 1) x0 x3 = nat_trim.b2 (nat_trim.L2 k) x0 x3 := by kernel_rfl
theorem nat_trim.L2_zero (x0 : (List Int)) (x3 : Int) : nat_trim.L2 0 x0 x3 = none := by kernel_rfl
theorem nat_trim.eval (k : Nat) (a0 : (List Int)) : evalF nat_trim.spec nat_trim.cals T Tryd.f37 k (a0, ()) = nat_trim.e (nat_trim.L2 k) a0 := by kernel_rfl
theorem nat_trim.F_eq (a0 : (List Int)) : nat_trim.F (a0, ()) = limF nat_trim.spec nat_trim.cals T Tryd.f37 (a0, ()) := by kernel_rfl
theorem nat_trim.of (k : Nat) (a0 : (List Int)) {y : (List Int) × Unit} (h : nat_trim.e (nat_trim.L2 k) a0 = some y) : nat_trim.F (a0, ()) = some y := (nat_trim.F_eq a0).trans (limF_of (q := nat_trim.spec) (C := nat_trim.cals) (T := T) (f := Tryd.f37) (x := (a0, ())) (y := y) k ((nat_trim.eval k a0).trans h))

/-! ### fulcrum/nat.own -/
def nat_own.spec : Spec := ⟨[(false, (.sl 50 (.int .u32)))], [(false, (.sl 50 (.int .u32)))], .own, fun j => match j with  | _ => []⟩
noncomputable def nat_own.cals : Cals := (Cals.cons 37 nat_trim.sig (Cals.base tabs))
noncomputable def nat_own.sig : Sig := nat_own.spec.sig nat_own.cals T Tryd.f30
noncomputable def nat_own.F (x : (List Int) × Unit) : Option ((List Int) × Unit) := limF nat_own.spec nat_own.cals T Tryd.f30 x
theorem nat_own.ck : CalsOk Tryd.prog nat_own.cals := (CalsOk.cons nat_trim.cal (CalsOk.base tabsOk))
theorem nat_own.cal : CalOk Tryd.prog tabs 30 nat_own.sig := calOk_lim' tabOk nat_own.ck mix Tryd.func30 (by kernel_rfl) (by kernel_rfl) (by kernel_rfl) (by kernel_rfl)
noncomputable def nat_own.e  (a0 : (List Int)) : Option ((List Int) × Unit) :=
  (nat_trim.F (a0, ())).bind fun y1 =>
  let v2 := (List.length y1.1 : Int)
  let v3 := (v2 == (0 : Int))
  bif v3 then (some (([] : List Int), ()))
  else (let v4 := (List.length y1.1 : Int)
  bif decide (0 ≤ v4) && (decide (v4 ≤ v4) && (decide (Int.toNat v4 * 4 ≤ 281474976710656) && Nat.blt 0 4)) then (let v5 := List.replicate (Int.toNat v4) (0 : Int)
  let v6 := List.take (List.length v5) y1.1 ++ List.drop (List.length y1.1) v5
  let v7 := ((Nat.min (List.length y1.1) (List.length v5) : Nat) : Int)
  some (v6, ()))
  else none)
theorem nat_own.eval (k : Nat) (a0 : (List Int)) : evalF nat_own.spec nat_own.cals T Tryd.f30 k (a0, ()) = nat_own.e  a0 := by kernel_rfl
theorem nat_own.F_eq (a0 : (List Int)) : nat_own.F (a0, ()) = limF nat_own.spec nat_own.cals T Tryd.f30 (a0, ()) := by kernel_rfl
theorem nat_own.of (k : Nat) (a0 : (List Int)) {y : (List Int) × Unit} (h : nat_own.e  a0 = some y) : nat_own.F (a0, ()) = some y := (nat_own.F_eq a0).trans (limF_of (q := nat_own.spec) (C := nat_own.cals) (T := T) (f := Tryd.f30) (x := (a0, ())) (y := y) k ((nat_own.eval k a0).trans h))

/-! ### fulcrum/nat.Parse -/
def nat_Parse.spec : Spec := ⟨[(false, .str), (false, (.int .i64))], [(false, (.sl 50 (.int .u32))), (false, (.int .i64))], .own, fun j => match j with | 7 => [(0, .lf (.v false)), (1, .lf (.v false)), (6, .lf (.o 50 (.int .u32) true)), (31, .lf (.v true)), (32, .lf (.v true))] | 14 => [(0, .lf (.v false)), (1, .lf (.v false)), (6, .lf (.o 50 (.int .u32) true)), (9, .lf (.v true)), (31, .lf (.v true)), (32, .lf (.v true)), (43, .lf (.v true)), (44, .lf (.v true)), (47, .lf (.v true)), (49, .lf (.v true)), (50, .lf (.v false)), (51, .lf (.v true)), (52, .lf (.v true)), (59, .lf (.v true)), (60, .lf (.v true))] | _ => []⟩
noncomputable def nat_Parse.cals : Cals := (Cals.cons 30 nat_own.sig (Cals.base tabs))
noncomputable def nat_Parse.sig : Sig := nat_Parse.spec.sig nat_Parse.cals T Tryd.f17
noncomputable def nat_Parse.F (x : ByteArray × Int × Unit) : Option ((List Int) × Int × Unit) := limF nat_Parse.spec nat_Parse.cals T Tryd.f17 x
theorem nat_Parse.ck : CalsOk Tryd.prog nat_Parse.cals := (CalsOk.cons nat_own.cal (CalsOk.base tabsOk))
theorem nat_Parse.cal : CalOk Tryd.prog tabs 17 nat_Parse.sig := calOk_lim' tabOk nat_Parse.ck mix Tryd.func17 (by kernel_rfl) (by kernel_rfl) (by kernel_rfl) (by kernel_rfl)
def nat_Parse.m7 (x0 : ByteArray) (x1 : Int) (x6 : (List Int)) (x31 : Int) (x32 : Int) : S := ⟨[(0, .one (.lf (.val false .str x0))), (1, .one (.lf (.val false (.int .i64) x1))), (6, .one (.lf (.own 0))), (31, .one (.lf (.val true (.int .i64) x31))), (32, .one (.lf (.val true (.int .i64) x32)))], ⟨[some ⟨50, (.int .u32), true, true, x6⟩], []⟩⟩
def nat_Parse.m14 (x0 : ByteArray) (x1 : Int) (x6 : (List Int)) (x9 : Int) (x31 : Int) (x32 : Int) (x43 : Int) (x44 : Bool) (x47 : Int) (x49 : Int) (x50 : Int) (x51 : Int) (x52 : Bool) (x59 : Int) (x60 : Int) : S := ⟨[(0, .one (.lf (.val false .str x0))), (1, .one (.lf (.val false (.int .i64) x1))), (6, .one (.lf (.own 0))), (9, .one (.lf (.val true (.int .u64) x9))), (31, .one (.lf (.val true (.int .i64) x31))), (32, .one (.lf (.val true (.int .i64) x32))), (43, .one (.lf (.val true (.int .i64) x43))), (44, .one (.lf (.val true .bool x44))), (47, .one (.lf (.val true (.int .i64) x47))), (49, .one (.lf (.val true (.int .u32) x49))), (50, .one (.lf (.val false (.int .i64) x50))), (51, .one (.lf (.val true (.int .u32) x51))), (52, .one (.lf (.val true .bool x52))), (59, .one (.lf (.val true (.int .i64) x59))), (60, .one (.lf (.val true (.int .i64) x60)))], ⟨[some ⟨50, (.int .u32), true, true, x6⟩], []⟩⟩
noncomputable def nat_Parse.b7 (f7 : ByteArray → Int → (List Int) → Int → Int → Option ((List Int) × Int × Unit)) (f14 : ByteArray → Int → (List Int) → Int → Int → Int → Int → Bool → Int → Int → Int → Int → Bool → Int → Int → Option ((List Int) × Int × Unit)) (x0 : ByteArray) (x1 : Int) (x6 : (List Int)) (x31 : Int) (x32 : Int) : Option ((List Int) × Int × Unit) :=
  let v1 := decide (x32 < x31)
  bif v1 then (bif decide (0 ≤ x32) && decide (x32 < (ByteArray.size x0 : Int)) then (let v2 := btI x0 x32
  let v3 := IntKind.i64.wrap v2
  let v4 := IntKind.i64.wrap (v3 - (48 : Int))
  let v5 := decide (v4 < (0 : Int))
  bif v5 then (some (([] : List Int), (15 : Int), ()))
  else (let v6 := decide (v4 ≥ (55 : Int))
  bif v6 then (some (([] : List Int), (15 : Int), ()))
  else (bif decide (0 ≤ v4) && decide (v4 < (List.length tabXs : Int)) then (let v7 := List.getD tabXs (Int.toNat v4) (0 : Int)
  let v8 := IntKind.u32.wrap x1
  let v9 := decide (v7 ≥ v8)
  bif v9 then (some (([] : List Int), (15 : Int), ()))
  else (bif decide (0 ≤ v4) && decide (v4 < (List.length tabXs : Int)) then (let v10 := List.getD tabXs (Int.toNat v4) (0 : Int)
  let v11 := IntKind.u64.wrap v10
  let v12 := (List.length x6 : Int)
  f14 x0 x1 x6 v11 x31 x32 v4 v6 v4 v7 x1 v8 v9 v12 (0 : Int))
  else none))
  else none)))
  else none)
  else ((nat_own.F (x6, ())).bind fun y13 =>
  some (y13.1, (0 : Int), ()))
noncomputable def nat_Parse.b14 (f7 : ByteArray → Int → (List Int) → Int → Int → Option ((List Int) × Int × Unit)) (f14 : ByteArray → Int → (List Int) → Int → Int → Int → Int → Bool → Int → Int → Int → Int → Bool → Int → Int → Option ((List Int) × Int × Unit)) (x0 : ByteArray) (x1 : Int) (x6 : (List Int)) (x9 : Int) (x31 : Int) (x32 : Int) (x43 : Int) (x44 : Bool) (x47 : Int) (x49 : Int) (x50 : Int) (x51 : Int) (x52 : Bool) (x59 : Int) (x60 : Int) : Option ((List Int) × Int × Unit) :=
  let v1 := decide (x60 < x59)
  bif v1 then (bif decide (0 ≤ x60) && decide (x60 < (List.length x6 : Int)) then (let v2 := List.getD x6 (Int.toNat x60) (0 : Int)
  let v3 := IntKind.u64.wrap v2
  let v4 := IntKind.u64.wrap x1
  let v5 := IntKind.u64.wrap (v3 * v4)
  let v6 := IntKind.u64.wrap (v5 + x9)
  let v7 := IntKind.u32.wrap v6
  bif decide (0 ≤ x60) && decide (x60 < (List.length x6 : Int)) then (let v8 := List.set x6 (Int.toNat x60) v7
  bif decide ((32 : Int) < 0) then none
  else (let v9 := shrI .u64 v6 (32 : Int)
  let v10 := IntKind.i64.wrap (x60 + (1 : Int))
  f14 x0 x1 v8 v9 x31 x32 x43 x44 x47 x49 x50 x51 x52 x59 v10))
  else none)
  else none)
  else (let v11 := decide (x9 > (0 : Int))
  bif v11 then (let v12 := IntKind.u32.wrap x9
  let v13 := ([v12] : List Int)
  bif decide (List.length x6 + List.length v13 < 35184372088832) then (let v14 := List.append x6 v13
  let v15 := IntKind.i64.wrap (x32 + (1 : Int))
  f7 x0 x1 v14 x31 v15)
  else none)
  else (let v16 := IntKind.i64.wrap (x32 + (1 : Int))
  f7 x0 x1 x6 x31 v16))
noncomputable def nat_Parse.e (f7 : ByteArray → Int → (List Int) → Int → Int → Option ((List Int) × Int × Unit)) (f14 : ByteArray → Int → (List Int) → Int → Int → Int → Int → Bool → Int → Int → Int → Int → Bool → Int → Int → Option ((List Int) × Int × Unit)) (a0 : ByteArray) (a1 : Int) : Option ((List Int) × Int × Unit) :=
  let v1 := decide (a1 < (2 : Int))
  bif v1 then (some (([] : List Int), (14 : Int), ()))
  else (let v2 := decide (a1 > (16 : Int))
  bif v2 then (some (([] : List Int), (14 : Int), ()))
  else (let v3 := (a0.toList == (⟨#[]⟩ : ByteArray).toList)
  bif v3 then (some (([] : List Int), (15 : Int), ()))
  else (let v4 := (ByteArray.size a0 : Int)
  let v5 := decide (v4 > (1 : Int))
  bif v5 then (bif decide (0 ≤ (0 : Int)) && decide ((0 : Int) < (ByteArray.size a0 : Int)) then (let v6 := btI a0 (0 : Int)
  let v7 := (v6 == (48 : Int))
  bif v7 then (some (([] : List Int), (15 : Int), ()))
  else (let v8 := (ByteArray.size a0 : Int)
  f7 a0 a1 ([] : List Int) v8 (0 : Int)))
  else none)
  else (let v9 := (ByteArray.size a0 : Int)
  f7 a0 a1 ([] : List Int) v9 (0 : Int)))))
noncomputable def nat_Parse.L7 (k : Nat) (x0 : ByteArray) (x1 : Int) (x6 : (List Int)) (x31 : Int) (x32 : Int) : Option ((List Int) × Int × Unit) := heads (nat_Parse.spec.env nat_Parse.cals T Tryd.f17) (Func.pts Tryd.f17) k 7 (nat_Parse.m7 x0 x1 x6 x31 x32)
noncomputable def nat_Parse.L14 (k : Nat) (x0 : ByteArray) (x1 : Int) (x6 : (List Int)) (x9 : Int) (x31 : Int) (x32 : Int) (x43 : Int) (x44 : Bool) (x47 : Int) (x49 : Int) (x50 : Int) (x51 : Int) (x52 : Bool) (x59 : Int) (x60 : Int) : Option ((List Int) × Int × Unit) := heads (nat_Parse.spec.env nat_Parse.cals T Tryd.f17) (Func.pts Tryd.f17) k 14 (nat_Parse.m14 x0 x1 x6 x9 x31 x32 x43 x44 x47 x49 x50 x51 x52 x59 x60)
theorem nat_Parse.L7_succ (k : Nat) (x0 : ByteArray) (x1 : Int) (x6 : (List Int)) (x31 : Int) (x32 : Int) : nat_Parse.L7 (k + 1) x0 x1 x6 x31 x32 = nat_Parse.b7 (nat_Parse.L7 k) (nat_Parse.L14 k) x0 x1 x6 x31 x32 := by kernel_rfl
theorem nat_Parse.L7_zero (x0 : ByteArray) (x1 : Int) (x6 : (List Int)) (x31 : Int) (x32 : Int) : nat_Parse.L7 0 x0 x1 x6 x31 x32 = none := by kernel_rfl
theorem nat_Parse.L14_succ (k : Nat) (x0 : ByteArray) (x1 : Int) (x6 : (List Int)) (x9 : Int) (x31 : Int) (x32 : Int) (x43 : Int) (x44 : Bool) (x47 : Int) (x49 : Int) (x50 : Int) (x51 : Int) (x52 : Bool) (x59 : Int) (x60 : Int) : nat_Parse.L14 (k + 1) x0 x1 x6 x9 x31 x32 x43 x44 x47 x49 x50 x51 x52 x59 x60 = nat_Parse.b14 (nat_Parse.L7 k) (nat_Parse.L14 k) x0 x1 x6 x9 x31 x32 x43 x44 x47 x49 x50 x51 x52 x59 x60 := by kernel_rfl
theorem nat_Parse.L14_zero (x0 : ByteArray) (x1 : Int) (x6 : (List Int)) (x9 : Int) (x31 : Int) (x32 : Int) (x43 : Int) (x44 : Bool) (x47 : Int) (x49 : Int) (x50 : Int) (x51 : Int) (x52 : Bool) (x59 : Int) (x60 : Int) : nat_Parse.L14 0 x0 x1 x6 x9 x31 x32 x43 x44 x47 x49 x50 x51 x52 x59 x60 = none := by kernel_rfl
theorem nat_Parse.eval (k : Nat) (a0 : ByteArray) (a1 : Int) : evalF nat_Parse.spec nat_Parse.cals T Tryd.f17 k (a0, a1, ()) = nat_Parse.e (nat_Parse.L7 k) (nat_Parse.L14 k) a0 a1 := by kernel_rfl
theorem nat_Parse.F_eq (a0 : ByteArray) (a1 : Int) : nat_Parse.F (a0, a1, ()) = limF nat_Parse.spec nat_Parse.cals T Tryd.f17 (a0, a1, ()) := by kernel_rfl
theorem nat_Parse.of (k : Nat) (a0 : ByteArray) (a1 : Int) {y : (List Int) × Int × Unit} (h : nat_Parse.e (nat_Parse.L7 k) (nat_Parse.L14 k) a0 a1 = some y) : nat_Parse.F (a0, a1, ()) = some y := (nat_Parse.F_eq a0 a1).trans (limF_of (q := nat_Parse.spec) (C := nat_Parse.cals) (T := T) (f := Tryd.f17) (x := (a0, a1, ())) (y := y) k ((nat_Parse.eval k a0 a1).trans h))

/-! ### fulcrum/nat.Norm -/
def nat_Norm.spec : Spec := ⟨[(false, (.sl 50 (.int .u32)))], [(false, (.sl 50 (.int .u32)))], .own, fun j => match j with  | _ => []⟩
noncomputable def nat_Norm.cals : Cals := (Cals.cons 30 nat_own.sig (Cals.base tabs))
noncomputable def nat_Norm.sig : Sig := nat_Norm.spec.sig nat_Norm.cals T Tryd.f31
noncomputable def nat_Norm.F (x : (List Int) × Unit) : Option ((List Int) × Unit) := limF nat_Norm.spec nat_Norm.cals T Tryd.f31 x
theorem nat_Norm.ck : CalsOk Tryd.prog nat_Norm.cals := (CalsOk.cons nat_own.cal (CalsOk.base tabsOk))
theorem nat_Norm.cal : CalOk Tryd.prog tabs 31 nat_Norm.sig := calOk_lim' tabOk nat_Norm.ck mix Tryd.func31 (by kernel_rfl) (by kernel_rfl) (by kernel_rfl) (by kernel_rfl)
noncomputable def nat_Norm.e  (a0 : (List Int)) : Option ((List Int) × Unit) :=
  (nat_own.F (a0, ())).bind fun y1 =>
  some (y1.1, ())
theorem nat_Norm.eval (k : Nat) (a0 : (List Int)) : evalF nat_Norm.spec nat_Norm.cals T Tryd.f31 k (a0, ()) = nat_Norm.e  a0 := by kernel_rfl
theorem nat_Norm.F_eq (a0 : (List Int)) : nat_Norm.F (a0, ()) = limF nat_Norm.spec nat_Norm.cals T Tryd.f31 (a0, ()) := by kernel_rfl
theorem nat_Norm.of (k : Nat) (a0 : (List Int)) {y : (List Int) × Unit} (h : nat_Norm.e  a0 = some y) : nat_Norm.F (a0, ()) = some y := (nat_Norm.F_eq a0).trans (limF_of (q := nat_Norm.spec) (C := nat_Norm.cals) (T := T) (f := Tryd.f31) (x := (a0, ())) (y := y) k ((nat_Norm.eval k a0).trans h))

/-! ### fulcrum/whole.signed -/
def whole_signed.spec : Spec := ⟨[(false, (.sl 50 (.int .u32))), (false, (.sl 3 (.int .i64)))], [(true, (.prod .bool (.sl 50 (.int .u32))))], .own, fun j => match j with | 4 => [(0, .lf (.o 50 (.int .u32) true)), (4, .box 25 [.v true, .v true]), (5, .lf (.v true)), (10, .lf (.z 3 (.int .i64) false)), (11, .lf (.v true)), (12, .lf (.v true))] | _ => []⟩
noncomputable def whole_signed.cals : Cals := (Cals.cons 31 nat_Norm.sig (Cals.base tabs))
noncomputable def whole_signed.sig : Sig := whole_signed.spec.sig whole_signed.cals T Tryd.f18
noncomputable def whole_signed.F (x : (List Int) × (List Int) × Unit) : Option ((Bool × (List Int)) × Unit) := limF whole_signed.spec whole_signed.cals T Tryd.f18 x
theorem whole_signed.ck : CalsOk Tryd.prog whole_signed.cals := (CalsOk.cons nat_Norm.cal (CalsOk.base tabsOk))
theorem whole_signed.cal : CalOk Tryd.prog tabs 18 whole_signed.sig := calOk_lim' tabOk whole_signed.ck mix Tryd.func18 (by kernel_rfl) (by kernel_rfl) (by kernel_rfl) (by kernel_rfl)
def whole_signed.m4 (x0 : (List Int)) (x4_0 : Bool) (x5 : Int) (x10 : (List Int)) (x11 : Int) (x12 : Int) : S := ⟨[(0, .one (.lf (.own 0))), (4, .box 0 0), (5, .one (.lf (.val true (.int .i64) x5))), (10, .one (.lf (.val false (.sl 3 (.int .i64)) x10))), (11, .one (.lf (.val true (.int .i64) x11))), (12, .one (.lf (.val true (.int .i64) x12)))], ⟨[some ⟨50, (.int .u32), true, true, x0⟩], [some ⟨25, [.val true .bool x4_0, .nil]⟩]⟩⟩
noncomputable def whole_signed.b4 (f4 : (List Int) → Bool → Int → (List Int) → Int → Int → Option ((Bool × (List Int)) × Unit)) (x0 : (List Int)) (x4_0 : Bool) (x5 : Int) (x10 : (List Int)) (x11 : Int) (x12 : Int) : Option ((Bool × (List Int)) × Unit) :=
  let v1 := decide (x12 < x11)
  bif v1 then (bif decide (0 ≤ x12) && decide (x12 < (List.length x10 : Int)) then (let v2 := List.getD x10 (Int.toNat x12) (0 : Int)
  let v3 := IntKind.i64.wrap (x5 * v2)
  let v4 := IntKind.i64.wrap (x12 + (1 : Int))
  f4 x0 x4_0 v3 x10 x11 v4)
  else none)
  else (let v5 := decide (x5 < (0 : Int))
  bif v5 then (let v6 := (List.length x0 : Int)
  let v7 := decide (v6 > (0 : Int))
  some ((v7, x0), ()))
  else (some ((false, x0), ())))
noncomputable def whole_signed.e (f4 : (List Int) → Bool → Int → (List Int) → Int → Int → Option ((Bool × (List Int)) × Unit)) (a0 : (List Int)) (a1 : (List Int)) : Option ((Bool × (List Int)) × Unit) :=
  (nat_Norm.F (a0, ())).bind fun y1 =>
  let v2 := (List.length a1 : Int)
  f4 y1.1 false (1 : Int) a1 v2 (0 : Int)
noncomputable def whole_signed.L4 (k : Nat) (x0 : (List Int)) (x4_0 : Bool) (x5 : Int) (x10 : (List Int)) (x11 : Int) (x12 : Int) : Option ((Bool × (List Int)) × Unit) := heads (whole_signed.spec.env whole_signed.cals T Tryd.f18) (Func.pts Tryd.f18) k 4 (whole_signed.m4 x0 x4_0 x5 x10 x11 x12)
theorem whole_signed.L4_succ (k : Nat) (x0 : (List Int)) (x4_0 : Bool) (x5 : Int) (x10 : (List Int)) (x11 : Int) (x12 : Int) : whole_signed.L4 (k + 1) x0 x4_0 x5 x10 x11 x12 = whole_signed.b4 (whole_signed.L4 k) x0 x4_0 x5 x10 x11 x12 := by kernel_rfl
theorem whole_signed.L4_zero (x0 : (List Int)) (x4_0 : Bool) (x5 : Int) (x10 : (List Int)) (x11 : Int) (x12 : Int) : whole_signed.L4 0 x0 x4_0 x5 x10 x11 x12 = none := by kernel_rfl
theorem whole_signed.eval (k : Nat) (a0 : (List Int)) (a1 : (List Int)) : evalF whole_signed.spec whole_signed.cals T Tryd.f18 k (a0, a1, ()) = whole_signed.e (whole_signed.L4 k) a0 a1 := by kernel_rfl
theorem whole_signed.F_eq (a0 : (List Int)) (a1 : (List Int)) : whole_signed.F (a0, a1, ()) = limF whole_signed.spec whole_signed.cals T Tryd.f18 (a0, a1, ()) := by kernel_rfl
theorem whole_signed.of (k : Nat) (a0 : (List Int)) (a1 : (List Int)) {y : (Bool × (List Int)) × Unit} (h : whole_signed.e (whole_signed.L4 k) a0 a1 = some y) : whole_signed.F (a0, a1, ()) = some y := (whole_signed.F_eq a0 a1).trans (limF_of (q := whole_signed.spec) (C := whole_signed.cals) (T := T) (f := Tryd.f18) (x := (a0, a1, ())) (y := y) k ((whole_signed.eval k a0 a1).trans h))

/-! ### fulcrum/whole.Parse -/
def whole_Parse.spec : Spec := ⟨[(false, .str)], [(true, (.prod .bool (.sl 50 (.int .u32)))), (false, (.int .i64))], .own, fun j => match j with  | _ => []⟩
noncomputable def whole_Parse.cals : Cals := (Cals.cons 16 strings_CutPrefix.sig (Cals.cons 17 nat_Parse.sig (Cals.cons 18 whole_signed.sig (Cals.base tabs))))
noncomputable def whole_Parse.sig : Sig := whole_Parse.spec.sig whole_Parse.cals T Tryd.f7
noncomputable def whole_Parse.F (x : ByteArray × Unit) : Option ((Bool × (List Int)) × Int × Unit) := limF whole_Parse.spec whole_Parse.cals T Tryd.f7 x
theorem whole_Parse.ck : CalsOk Tryd.prog whole_Parse.cals := (CalsOk.cons strings_CutPrefix.cal (CalsOk.cons nat_Parse.cal (CalsOk.cons whole_signed.cal (CalsOk.base tabsOk))))
theorem whole_Parse.cal : CalOk Tryd.prog tabs 7 whole_Parse.sig := calOk_lim' tabOk whole_Parse.ck mix Tryd.func7 (by kernel_rfl) (by kernel_rfl) (by kernel_rfl) (by kernel_rfl)
noncomputable def whole_Parse.e  (a0 : ByteArray) : Option ((Bool × (List Int)) × Int × Unit) :=
  (strings_CutPrefix.F (a0, (⟨#[45]⟩ : ByteArray), ())).bind fun y1 =>
  (nat_Parse.F (y1.1, (10 : Int), ())).bind fun y2 =>
  let v3 := (y2.2.1 != (0 : Int))
  bif v3 then (some ((false, ([] : List Int)), (15 : Int), ()))
  else (bif y1.2.1 then (let v4 := (List.length y2.1 : Int)
  let v5 := (v4 == (0 : Int))
  bif v5 then (some ((false, ([] : List Int)), (15 : Int), ()))
  else (bif y1.2.1 then (let v6 := ([(-1 : Int)] : List Int)
  (whole_signed.F (y2.1, v6, ())).bind fun y7 =>
  some ((y7.1.1, y7.1.2), (0 : Int), ()))
  else ((whole_signed.F (y2.1, ([] : List Int), ())).bind fun y8 =>
  some ((y8.1.1, y8.1.2), (0 : Int), ()))))
  else (bif y1.2.1 then (let v9 := ([(-1 : Int)] : List Int)
  (whole_signed.F (y2.1, v9, ())).bind fun y10 =>
  some ((y10.1.1, y10.1.2), (0 : Int), ()))
  else ((whole_signed.F (y2.1, ([] : List Int), ())).bind fun y11 =>
  some ((y11.1.1, y11.1.2), (0 : Int), ()))))
theorem whole_Parse.eval (k : Nat) (a0 : ByteArray) : evalF whole_Parse.spec whole_Parse.cals T Tryd.f7 k (a0, ()) = whole_Parse.e  a0 := by kernel_rfl
theorem whole_Parse.F_eq (a0 : ByteArray) : whole_Parse.F (a0, ()) = limF whole_Parse.spec whole_Parse.cals T Tryd.f7 (a0, ()) := by kernel_rfl
theorem whole_Parse.of (k : Nat) (a0 : ByteArray) {y : (Bool × (List Int)) × Int × Unit} (h : whole_Parse.e  a0 = some y) : whole_Parse.F (a0, ()) = some y := (whole_Parse.F_eq a0).trans (limF_of (q := whole_Parse.spec) (C := whole_Parse.cals) (T := T) (f := Tryd.f7) (x := (a0, ())) (y := y) k ((whole_Parse.eval k a0).trans h))

/-! ### fulcrum/fulcrumref01.digit -/
def fulcrumref01_digit.spec : Spec := ⟨[(false, (.int .u8)), (false, (.int .i64))], [(false, (.int .i64))], .own, fun j => match j with | 2 => [(0, .lf (.v false)), (1, .lf (.v false)), (5, .lf (.v true))] | _ => []⟩
noncomputable def fulcrumref01_digit.cals : Cals := (Cals.base tabs)
noncomputable def fulcrumref01_digit.sig : Sig := fulcrumref01_digit.spec.sig fulcrumref01_digit.cals T Tryd.f32
noncomputable def fulcrumref01_digit.F (x : Int × Int × Unit) : Option (Int × Unit) := limF fulcrumref01_digit.spec fulcrumref01_digit.cals T Tryd.f32 x
theorem fulcrumref01_digit.ck : CalsOk Tryd.prog fulcrumref01_digit.cals := (CalsOk.base tabsOk)
theorem fulcrumref01_digit.cal : CalOk Tryd.prog tabs 32 fulcrumref01_digit.sig := calOk_lim' tabOk fulcrumref01_digit.ck mix Tryd.func32 (by kernel_rfl) (by kernel_rfl) (by kernel_rfl) (by kernel_rfl)
def fulcrumref01_digit.m2 (x0 : Int) (x1 : Int) (x5 : Int) : S := ⟨[(0, .one (.lf (.val false (.int .u8) x0))), (1, .one (.lf (.val false (.int .i64) x1))), (5, .one (.lf (.val true (.int .i64) x5)))], ⟨[], []⟩⟩
noncomputable def fulcrumref01_digit.b2 (f2 : Int → Int → Int → Option (Int × Unit)) (x0 : Int) (x1 : Int) (x5 : Int) : Option (Int × Unit) :=
  let v1 := decide (x5 < x1)
  bif v1 then (bif decide (0 ≤ x5) && decide (x5 < (ByteArray.size (⟨#[48, 49, 50, 51, 52, 53, 54, 55, 56, 57, 97, 98, 99, 100, 101, 102]⟩ : ByteArray) : Int)) then (let v2 := btI (⟨#[48, 49, 50, 51, 52, 53, 54, 55, 56, 57, 97, 98, 99, 100, 101, 102]⟩ : ByteArray) x5
  let v3 := (v2 == x0)
  bif v3 then (some (x5, ()))
  else (let v4 := IntKind.i64.wrap (x5 + (1 : Int))
  f2 x0 x1 v4))
  else none)
  else (some ((-1 : Int), ()))
noncomputable def fulcrumref01_digit.e (f2 : Int → Int → Int → Option (Int × Unit)) (a0 : Int) (a1 : Int) : Option (Int × Unit) :=
  f2 a0 a1 (0 : Int)
noncomputable def fulcrumref01_digit.L2 (k : Nat) (x0 : Int) (x1 : Int) (x5 : Int) : Option (Int × Unit) := heads (fulcrumref01_digit.spec.env fulcrumref01_digit.cals T Tryd.f32) (Func.pts Tryd.f32) k 2 (fulcrumref01_digit.m2 x0 x1 x5)
theorem fulcrumref01_digit.L2_succ (k : Nat) (x0 : Int) (x1 : Int) (x5 : Int) : fulcrumref01_digit.L2 (k + 1) x0 x1 x5 = fulcrumref01_digit.b2 (fulcrumref01_digit.L2 k) x0 x1 x5 := by kernel_rfl
theorem fulcrumref01_digit.L2_zero (x0 : Int) (x1 : Int) (x5 : Int) : fulcrumref01_digit.L2 0 x0 x1 x5 = none := by kernel_rfl
theorem fulcrumref01_digit.eval (k : Nat) (a0 : Int) (a1 : Int) : evalF fulcrumref01_digit.spec fulcrumref01_digit.cals T Tryd.f32 k (a0, a1, ()) = fulcrumref01_digit.e (fulcrumref01_digit.L2 k) a0 a1 := by kernel_rfl
theorem fulcrumref01_digit.F_eq (a0 : Int) (a1 : Int) : fulcrumref01_digit.F (a0, a1, ()) = limF fulcrumref01_digit.spec fulcrumref01_digit.cals T Tryd.f32 (a0, a1, ()) := by kernel_rfl
theorem fulcrumref01_digit.of (k : Nat) (a0 : Int) (a1 : Int) {y : Int × Unit} (h : fulcrumref01_digit.e (fulcrumref01_digit.L2 k) a0 a1 = some y) : fulcrumref01_digit.F (a0, a1, ()) = some y := (fulcrumref01_digit.F_eq a0 a1).trans (limF_of (q := fulcrumref01_digit.spec) (C := fulcrumref01_digit.cals) (T := T) (f := Tryd.f32) (x := (a0, a1, ())) (y := y) k ((fulcrumref01_digit.eval k a0 a1).trans h))

/-! ### fulcrum/fulcrumref01.Norm -/
def fulcrumref01_Norm.spec : Spec := ⟨[(false, (.sl 50 (.int .u32)))], [(false, (.sl 50 (.int .u32)))], .own, fun j => match j with | 2 => [(0, .lf (.z 50 (.int .u32) false)), (3, .lf (.v true))] | 6 => [(0, .lf (.z 50 (.int .u32) false)), (3, .lf (.v true)), (4, .lf (.o 50 (.int .u32) true)), (5, .lf (.v true))] | _ => []⟩
noncomputable def fulcrumref01_Norm.cals : Cals := (Cals.base tabs)
noncomputable def fulcrumref01_Norm.sig : Sig := fulcrumref01_Norm.spec.sig fulcrumref01_Norm.cals T Tryd.f25
noncomputable def fulcrumref01_Norm.F (x : (List Int) × Unit) : Option ((List Int) × Unit) := limF fulcrumref01_Norm.spec fulcrumref01_Norm.cals T Tryd.f25 x
theorem fulcrumref01_Norm.ck : CalsOk Tryd.prog fulcrumref01_Norm.cals := (CalsOk.base tabsOk)
theorem fulcrumref01_Norm.cal : CalOk Tryd.prog tabs 25 fulcrumref01_Norm.sig := calOk_lim' tabOk fulcrumref01_Norm.ck mix Tryd.func25 (by kernel_rfl) (by kernel_rfl) (by kernel_rfl) (by kernel_rfl)
def fulcrumref01_Norm.m2 (x0 : (List Int)) (x3 : Int) : S := ⟨[(0, .one (.lf (.val false (.sl 50 (.int .u32)) x0))), (3, .one (.lf (.val true (.int .i64) x3)))], ⟨[], []⟩⟩
def fulcrumref01_Norm.m6 (x0 : (List Int)) (x3 : Int) (x4 : (List Int)) (x5 : Int) : S := ⟨[(0, .one (.lf (.val false (.sl 50 (.int .u32)) x0))), (3, .one (.lf (.val true (.int .i64) x3))), (4, .one (.lf (.own 0))), (5, .one (.lf (.val true (.int .i64) x5)))], ⟨[some ⟨50, (.int .u32), true, true, x4⟩], []⟩⟩
noncomputable def fulcrumref01_Norm.b2 (f2 : (List Int) → Int → Option ((List Int) × Unit)) (f6 : (List Int) → Int → (List Int) → Int → Option ((List Int) × Unit)) (x0 : (List Int)) (x3 : Int) : Option ((List Int) × Unit) :=
  let v1 := decide (x3 > (0 : Int))
  bif v1 then (let v2 := IntKind.i64.wrap (x3 - (1 : Int))
  bif decide (0 ≤ v2) && decide (v2 < (List.length x0 : Int)) then (let v3 := List.getD x0 (Int.toNat v2) (0 : Int)
  let v4 := (v3 == (0 : Int))
  bif v4 then (let v5 := IntKind.i64.wrap (x3 - (1 : Int))
  f2 x0 v5)
  else (bif decide (0 ≤ x3) && (decide (x3 ≤ x3) && (decide (Int.toNat x3 * 4 ≤ 281474976710656) && Nat.blt 0 4)) then (let v6 := List.replicate (Int.toNat x3) (0 : Int)
  f6 x0 x3 v6 (0 : Int))
  else none))
  else none)
  else (bif decide (0 ≤ x3) && (decide (x3 ≤ x3) && (decide (Int.toNat x3 * 4 ≤ 281474976710656) && Nat.blt 0 4)) then (let v7 := List.replicate (Int.toNat x3) (0 : Int)
  f6 x0 x3 v7 (0 : Int))
  else none)
noncomputable def fulcrumref01_Norm.b6 (f2 : (List Int) → Int → Option ((List Int) × Unit)) (f6 : (List Int) → Int → (List Int) → Int → Option ((List Int) × Unit)) (x0 : (List Int)) (x3 : Int) (x4 : (List Int)) (x5 : Int) : Option ((List Int) × Unit) :=
  let v1 := decide (x5 < x3)
  bif v1 then (bif decide (0 ≤ x5) && decide (x5 < (List.length x0 : Int)) then (let v2 := List.getD x0 (Int.toNat x5) (0 : Int)
  bif decide (0 ≤ x5) && decide (x5 < (List.length x4 : Int)) then (let v3 := List.set x4 (Int.toNat x5) v2
  let v4 := IntKind.i64.wrap (x5 + (1 : Int))
  f6 x0 x3 v3 v4)
  else none)
  else none)
  else (some (x4, ()))
noncomputable def fulcrumref01_Norm.e (f2 : (List Int) → Int → Option ((List Int) × Unit)) (f6 : (List Int) → Int → (List Int) → Int → Option ((List Int) × Unit)) (a0 : (List Int)) : Option ((List Int) × Unit) :=
  let v1 := (List.length a0 : Int)
  f2 a0 v1
noncomputable def fulcrumref01_Norm.L2 (k : Nat) (x0 : (List Int)) (x3 : Int) : Option ((List Int) × Unit) := heads (fulcrumref01_Norm.spec.env fulcrumref01_Norm.cals T Tryd.f25) (Func.pts Tryd.f25) k 2 (fulcrumref01_Norm.m2 x0 x3)
noncomputable def fulcrumref01_Norm.L6 (k : Nat) (x0 : (List Int)) (x3 : Int) (x4 : (List Int)) (x5 : Int) : Option ((List Int) × Unit) := heads (fulcrumref01_Norm.spec.env fulcrumref01_Norm.cals T Tryd.f25) (Func.pts Tryd.f25) k 6 (fulcrumref01_Norm.m6 x0 x3 x4 x5)
theorem fulcrumref01_Norm.L2_succ (k : Nat) (x0 : (List Int)) (x3 : Int) : fulcrumref01_Norm.L2 (k + 1) x0 x3 = fulcrumref01_Norm.b2 (fulcrumref01_Norm.L2 k) (fulcrumref01_Norm.L6 k) x0 x3 := by kernel_rfl
theorem fulcrumref01_Norm.L2_zero (x0 : (List Int)) (x3 : Int) : fulcrumref01_Norm.L2 0 x0 x3 = none := by kernel_rfl
theorem fulcrumref01_Norm.L6_succ (k : Nat) (x0 : (List Int)) (x3 : Int) (x4 : (List Int)) (x5 : Int) : fulcrumref01_Norm.L6 (k + 1) x0 x3 x4 x5 = fulcrumref01_Norm.b6 (fulcrumref01_Norm.L2 k) (fulcrumref01_Norm.L6 k) x0 x3 x4 x5 := by kernel_rfl
theorem fulcrumref01_Norm.L6_zero (x0 : (List Int)) (x3 : Int) (x4 : (List Int)) (x5 : Int) : fulcrumref01_Norm.L6 0 x0 x3 x4 x5 = none := by kernel_rfl
theorem fulcrumref01_Norm.eval (k : Nat) (a0 : (List Int)) : evalF fulcrumref01_Norm.spec fulcrumref01_Norm.cals T Tryd.f25 k (a0, ()) = fulcrumref01_Norm.e (fulcrumref01_Norm.L2 k) (fulcrumref01_Norm.L6 k) a0 := by kernel_rfl
theorem fulcrumref01_Norm.F_eq (a0 : (List Int)) : fulcrumref01_Norm.F (a0, ()) = limF fulcrumref01_Norm.spec fulcrumref01_Norm.cals T Tryd.f25 (a0, ()) := by kernel_rfl
theorem fulcrumref01_Norm.of (k : Nat) (a0 : (List Int)) {y : (List Int) × Unit} (h : fulcrumref01_Norm.e (fulcrumref01_Norm.L2 k) (fulcrumref01_Norm.L6 k) a0 = some y) : fulcrumref01_Norm.F (a0, ()) = some y := (fulcrumref01_Norm.F_eq a0).trans (limF_of (q := fulcrumref01_Norm.spec) (C := fulcrumref01_Norm.cals) (T := T) (f := Tryd.f25) (x := (a0, ())) (y := y) k ((fulcrumref01_Norm.eval k a0).trans h))

/-! ### fulcrum/fulcrumref01.at -/
def fulcrumref01_at.spec : Spec := ⟨[(false, (.sl 50 (.int .u32))), (false, (.int .i64))], [(false, (.int .u64))], .own, fun j => match j with  | _ => []⟩
noncomputable def fulcrumref01_at.cals : Cals := (Cals.base tabs)
noncomputable def fulcrumref01_at.sig : Sig := fulcrumref01_at.spec.sig fulcrumref01_at.cals T Tryd.f45
noncomputable def fulcrumref01_at.F (x : (List Int) × Int × Unit) : Option (Int × Unit) := limF fulcrumref01_at.spec fulcrumref01_at.cals T Tryd.f45 x
theorem fulcrumref01_at.ck : CalsOk Tryd.prog fulcrumref01_at.cals := (CalsOk.base tabsOk)
theorem fulcrumref01_at.cal : CalOk Tryd.prog tabs 45 fulcrumref01_at.sig := calOk_lim' tabOk fulcrumref01_at.ck mix Tryd.func45 (by kernel_rfl) (by kernel_rfl) (by kernel_rfl) (by kernel_rfl)
noncomputable def fulcrumref01_at.e  (a0 : (List Int)) (a1 : Int) : Option (Int × Unit) :=
  let v1 := (List.length a0 : Int)
  let v2 := decide (a1 ≥ v1)
  bif v2 then (some ((0 : Int), ()))
  else (bif decide (0 ≤ a1) && decide (a1 < (List.length a0 : Int)) then (let v3 := List.getD a0 (Int.toNat a1) (0 : Int)
  let v4 := IntKind.u64.wrap v3
  some (v4, ()))
  else none)
theorem fulcrumref01_at.eval (k : Nat) (a0 : (List Int)) (a1 : Int) : evalF fulcrumref01_at.spec fulcrumref01_at.cals T Tryd.f45 k (a0, a1, ()) = fulcrumref01_at.e  a0 a1 := by kernel_rfl
theorem fulcrumref01_at.F_eq (a0 : (List Int)) (a1 : Int) : fulcrumref01_at.F (a0, a1, ()) = limF fulcrumref01_at.spec fulcrumref01_at.cals T Tryd.f45 (a0, a1, ()) := by kernel_rfl
theorem fulcrumref01_at.of (k : Nat) (a0 : (List Int)) (a1 : Int) {y : Int × Unit} (h : fulcrumref01_at.e  a0 a1 = some y) : fulcrumref01_at.F (a0, a1, ()) = some y := (fulcrumref01_at.F_eq a0 a1).trans (limF_of (q := fulcrumref01_at.spec) (C := fulcrumref01_at.cals) (T := T) (f := Tryd.f45) (x := (a0, a1, ())) (y := y) k ((fulcrumref01_at.eval k a0 a1).trans h))

/-! ### fulcrum/fulcrumref01.Add -/
def fulcrumref01_Add.spec : Spec := ⟨[(false, (.sl 50 (.int .u32))), (false, (.sl 50 (.int .u32)))], [(false, (.sl 50 (.int .u32)))], .own, fun j => match j with | 7 => [(0, .lf (.z 50 (.int .u32) false)), (1, .lf (.z 50 (.int .u32) false)), (5, .lf (.v true)), (6, .lf (.o 50 (.int .u32) true)), (7, .lf (.v true)), (8, .lf (.v true))] | _ => []⟩
noncomputable def fulcrumref01_Add.cals : Cals := (Cals.cons 45 fulcrumref01_at.sig (Cals.cons 25 fulcrumref01_Norm.sig (Cals.base tabs)))
noncomputable def fulcrumref01_Add.sig : Sig := fulcrumref01_Add.spec.sig fulcrumref01_Add.cals T Tryd.f33
noncomputable def fulcrumref01_Add.F (x : (List Int) × (List Int) × Unit) : Option ((List Int) × Unit) := limF fulcrumref01_Add.spec fulcrumref01_Add.cals T Tryd.f33 x
theorem fulcrumref01_Add.ck : CalsOk Tryd.prog fulcrumref01_Add.cals := (CalsOk.cons fulcrumref01_at.cal (CalsOk.cons fulcrumref01_Norm.cal (CalsOk.base tabsOk)))
theorem fulcrumref01_Add.cal : CalOk Tryd.prog tabs 33 fulcrumref01_Add.sig := calOk_lim' tabOk fulcrumref01_Add.ck mix Tryd.func33 (by kernel_rfl) (by kernel_rfl) (by kernel_rfl) (by kernel_rfl)
def fulcrumref01_Add.m7 (x0 : (List Int)) (x1 : (List Int)) (x5 : Int) (x6 : (List Int)) (x7 : Int) (x8 : Int) : S := ⟨[(0, .one (.lf (.val false (.sl 50 (.int .u32)) x0))), (1, .one (.lf (.val false (.sl 50 (.int .u32)) x1))), (5, .one (.lf (.val true (.int .i64) x5))), (6, .one (.lf (.own 0))), (7, .one (.lf (.val true (.int .u64) x7))), (8, .one (.lf (.val true (.int .i64) x8)))], ⟨[some ⟨50, (.int .u32), true, true, x6⟩], []⟩⟩
noncomputable def fulcrumref01_Add.b7 (f7 : (List Int) → (List Int) → Int → (List Int) → Int → Int → Option ((List Int) × Unit)) (x0 : (List Int)) (x1 : (List Int)) (x5 : Int) (x6 : (List Int)) (x7 : Int) (x8 : Int) : Option ((List Int) × Unit) :=
  let v1 := decide (x8 ≤ x5)
  bif v1 then ((fulcrumref01_at.F (x0, x8, ())).bind fun y2 =>
  (fulcrumref01_at.F (x1, x8, ())).bind fun y3 =>
  let v4 := IntKind.u64.wrap (y2.1 + y3.1)
  let v5 := IntKind.u64.wrap (v4 + x7)
  let v6 := IntKind.u32.wrap v5
  bif decide (0 ≤ x8) && decide (x8 < (List.length x6 : Int)) then (let v7 := List.set x6 (Int.toNat x8) v6
  bif decide ((32 : Int) < 0) then none
  else (let v8 := shrI .u64 v5 (32 : Int)
  let v9 := IntKind.i64.wrap (x8 + (1 : Int))
  f7 x0 x1 x5 v7 v8 v9))
  else none)
  else ((fulcrumref01_Norm.F (x6, ())).bind fun y10 =>
  some (y10.1, ()))
noncomputable def fulcrumref01_Add.e (f7 : (List Int) → (List Int) → Int → (List Int) → Int → Int → Option ((List Int) × Unit)) (a0 : (List Int)) (a1 : (List Int)) : Option ((List Int) × Unit) :=
  let v1 := (List.length a0 : Int)
  let v2 := (List.length a1 : Int)
  let v3 := decide (v2 > v1)
  bif v3 then (let v4 := (List.length a1 : Int)
  let v5 := IntKind.i64.wrap (v4 + (1 : Int))
  bif decide (0 ≤ v5) && (decide (v5 ≤ v5) && (decide (Int.toNat v5 * 4 ≤ 281474976710656) && Nat.blt 0 4)) then (let v6 := List.replicate (Int.toNat v5) (0 : Int)
  f7 a0 a1 v4 v6 (0 : Int) (0 : Int))
  else none)
  else (let v7 := IntKind.i64.wrap (v1 + (1 : Int))
  bif decide (0 ≤ v7) && (decide (v7 ≤ v7) && (decide (Int.toNat v7 * 4 ≤ 281474976710656) && Nat.blt 0 4)) then (let v8 := List.replicate (Int.toNat v7) (0 : Int)
  f7 a0 a1 v1 v8 (0 : Int) (0 : Int))
  else none)
noncomputable def fulcrumref01_Add.L7 (k : Nat) (x0 : (List Int)) (x1 : (List Int)) (x5 : Int) (x6 : (List Int)) (x7 : Int) (x8 : Int) : Option ((List Int) × Unit) := heads (fulcrumref01_Add.spec.env fulcrumref01_Add.cals T Tryd.f33) (Func.pts Tryd.f33) k 7 (fulcrumref01_Add.m7 x0 x1 x5 x6 x7 x8)
theorem fulcrumref01_Add.L7_succ (k : Nat) (x0 : (List Int)) (x1 : (List Int)) (x5 : Int) (x6 : (List Int)) (x7 : Int) (x8 : Int) : fulcrumref01_Add.L7 (k + 1) x0 x1 x5 x6 x7 x8 = fulcrumref01_Add.b7 (fulcrumref01_Add.L7 k) x0 x1 x5 x6 x7 x8 := by kernel_rfl
theorem fulcrumref01_Add.L7_zero (x0 : (List Int)) (x1 : (List Int)) (x5 : Int) (x6 : (List Int)) (x7 : Int) (x8 : Int) : fulcrumref01_Add.L7 0 x0 x1 x5 x6 x7 x8 = none := by kernel_rfl
theorem fulcrumref01_Add.eval (k : Nat) (a0 : (List Int)) (a1 : (List Int)) : evalF fulcrumref01_Add.spec fulcrumref01_Add.cals T Tryd.f33 k (a0, a1, ()) = fulcrumref01_Add.e (fulcrumref01_Add.L7 k) a0 a1 := by kernel_rfl
theorem fulcrumref01_Add.F_eq (a0 : (List Int)) (a1 : (List Int)) : fulcrumref01_Add.F (a0, a1, ()) = limF fulcrumref01_Add.spec fulcrumref01_Add.cals T Tryd.f33 (a0, a1, ()) := by kernel_rfl
theorem fulcrumref01_Add.of (k : Nat) (a0 : (List Int)) (a1 : (List Int)) {y : (List Int) × Unit} (h : fulcrumref01_Add.e (fulcrumref01_Add.L7 k) a0 a1 = some y) : fulcrumref01_Add.F (a0, a1, ()) = some y := (fulcrumref01_Add.F_eq a0 a1).trans (limF_of (q := fulcrumref01_Add.spec) (C := fulcrumref01_Add.cals) (T := T) (f := Tryd.f33) (x := (a0, a1, ())) (y := y) k ((fulcrumref01_Add.eval k a0 a1).trans h))

/-! ### fulcrum/fulcrumref01.Mul -/
def fulcrumref01_Mul.spec : Spec := ⟨[(false, (.sl 50 (.int .u32))), (false, (.sl 50 (.int .u32)))], [(false, (.sl 50 (.int .u32)))], .own, fun j => match j with | 3 => [(0, .lf (.z 50 (.int .u32) false)), (1, .lf (.z 50 (.int .u32) false)), (5, .lf (.o 50 (.int .u32) true)), (6, .lf (.v true))] | 7 => [(0, .lf (.z 50 (.int .u32) false)), (1, .lf (.z 50 (.int .u32) false)), (5, .lf (.o 50 (.int .u32) true)), (6, .lf (.v true)), (7, .lf (.v true)), (8, .lf (.v true))] | _ => []⟩
noncomputable def fulcrumref01_Mul.cals : Cals := (Cals.cons 25 fulcrumref01_Norm.sig (Cals.base tabs))
noncomputable def fulcrumref01_Mul.sig : Sig := fulcrumref01_Mul.spec.sig fulcrumref01_Mul.cals T Tryd.f34
noncomputable def fulcrumref01_Mul.F (x : (List Int) × (List Int) × Unit) : Option ((List Int) × Unit) := limF fulcrumref01_Mul.spec fulcrumref01_Mul.cals T Tryd.f34 x
theorem fulcrumref01_Mul.ck : CalsOk Tryd.prog fulcrumref01_Mul.cals := (CalsOk.cons fulcrumref01_Norm.cal (CalsOk.base tabsOk))
theorem fulcrumref01_Mul.cal : CalOk Tryd.prog tabs 34 fulcrumref01_Mul.sig := calOk_lim' tabOk fulcrumref01_Mul.ck mix Tryd.func34 (by kernel_rfl) (by kernel_rfl) (by kernel_rfl) (by kernel_rfl)
def fulcrumref01_Mul.m3 (x0 : (List Int)) (x1 : (List Int)) (x5 : (List Int)) (x6 : Int) : S := ⟨[(0, .one (.lf (.val false (.sl 50 (.int .u32)) x0))), (1, .one (.lf (.val false (.sl 50 (.int .u32)) x1))), (5, .one (.lf (.own 0))), (6, .one (.lf (.val true (.int .i64) x6)))], ⟨[some ⟨50, (.int .u32), true, true, x5⟩], []⟩⟩
def fulcrumref01_Mul.m7 (x0 : (List Int)) (x1 : (List Int)) (x5 : (List Int)) (x6 : Int) (x7 : Int) (x8 : Int) : S := ⟨[(0, .one (.lf (.val false (.sl 50 (.int .u32)) x0))), (1, .one (.lf (.val false (.sl 50 (.int .u32)) x1))), (5, .one (.lf (.own 0))), (6, .one (.lf (.val true (.int .i64) x6))), (7, .one (.lf (.val true (.int .u64) x7))), (8, .one (.lf (.val true (.int .i64) x8)))], ⟨[some ⟨50, (.int .u32), true, true, x5⟩], []⟩⟩
noncomputable def fulcrumref01_Mul.b3 (f3 : (List Int) → (List Int) → (List Int) → Int → Option ((List Int) × Unit)) (f7 : (List Int) → (List Int) → (List Int) → Int → Int → Int → Option ((List Int) × Unit)) (x0 : (List Int)) (x1 : (List Int)) (x5 : (List Int)) (x6 : Int) : Option ((List Int) × Unit) :=
  let v1 := (List.length x0 : Int)
  let v2 := decide (x6 < v1)
  bif v2 then (f7 x0 x1 x5 x6 (0 : Int) (0 : Int))
  else ((fulcrumref01_Norm.F (x5, ())).bind fun y3 =>
  some (y3.1, ()))
noncomputable def fulcrumref01_Mul.b7 (f3 : (List Int) → (List Int) → (List Int) → Int → Option ((List Int) × Unit)) (f7 : (List Int) → (List Int) → (List Int) → Int → Int → Int → Option ((List Int) × Unit)) (x0 : (List Int)) (x1 : (List Int)) (x5 : (List Int)) (x6 : Int) (x7 : Int) (x8 : Int) : Option ((List Int) × Unit) :=
  let v1 := (List.length x1 : Int)
  let v2 := decide (x8 < v1)
  bif v2 then (bif decide (0 ≤ x6) && decide (x6 < (List.length x0 : Int)) then (let v3 := List.getD x0 (Int.toNat x6) (0 : Int)
  let v4 := IntKind.u64.wrap v3
  bif decide (0 ≤ x8) && decide (x8 < (List.length x1 : Int)) then (let v5 := List.getD x1 (Int.toNat x8) (0 : Int)
  let v6 := IntKind.u64.wrap v5
  let v7 := IntKind.u64.wrap (v4 * v6)
  let v8 := IntKind.i64.wrap (x6 + x8)
  bif decide (0 ≤ v8) && decide (v8 < (List.length x5 : Int)) then (let v9 := List.getD x5 (Int.toNat v8) (0 : Int)
  let v10 := IntKind.u64.wrap v9
  let v11 := IntKind.u64.wrap (v7 + v10)
  let v12 := IntKind.u64.wrap (v11 + x7)
  let v13 := IntKind.i64.wrap (x6 + x8)
  let v14 := IntKind.u32.wrap v12
  bif decide (0 ≤ v13) && decide (v13 < (List.length x5 : Int)) then (let v15 := List.set x5 (Int.toNat v13) v14
  bif decide ((32 : Int) < 0) then none
  else (let v16 := shrI .u64 v12 (32 : Int)
  let v17 := IntKind.i64.wrap (x8 + (1 : Int))
  f7 x0 x1 v15 x6 v16 v17))
  else none)
  else none)
  else none)
  else none)
  else (let v18 := (List.length x1 : Int)
  let v19 := IntKind.i64.wrap (x6 + v18)
  let v20 := IntKind.u32.wrap x7
  bif decide (0 ≤ v19) && decide (v19 < (List.length x5 : Int)) then (let v21 := List.set x5 (Int.toNat v19) v20
  let v22 := IntKind.i64.wrap (x6 + (1 : Int))
  f3 x0 x1 v21 v22)
  else none)
noncomputable def fulcrumref01_Mul.e (f3 : (List Int) → (List Int) → (List Int) → Int → Option ((List Int) × Unit)) (f7 : (List Int) → (List Int) → (List Int) → Int → Int → Int → Option ((List Int) × Unit)) (a0 : (List Int)) (a1 : (List Int)) : Option ((List Int) × Unit) :=
  let v1 := (List.length a0 : Int)
  let v2 := (List.length a1 : Int)
  let v3 := IntKind.i64.wrap (v1 + v2)
  bif decide (0 ≤ v3) && (decide (v3 ≤ v3) && (decide (Int.toNat v3 * 4 ≤ 281474976710656) && Nat.blt 0 4)) then (let v4 := List.replicate (Int.toNat v3) (0 : Int)
  f3 a0 a1 v4 (0 : Int))
  else none
noncomputable def fulcrumref01_Mul.L3 (k : Nat) (x0 : (List Int)) (x1 : (List Int)) (x5 : (List Int)) (x6 : Int) : Option ((List Int) × Unit) := heads (fulcrumref01_Mul.spec.env fulcrumref01_Mul.cals T Tryd.f34) (Func.pts Tryd.f34) k 3 (fulcrumref01_Mul.m3 x0 x1 x5 x6)
noncomputable def fulcrumref01_Mul.L7 (k : Nat) (x0 : (List Int)) (x1 : (List Int)) (x5 : (List Int)) (x6 : Int) (x7 : Int) (x8 : Int) : Option ((List Int) × Unit) := heads (fulcrumref01_Mul.spec.env fulcrumref01_Mul.cals T Tryd.f34) (Func.pts Tryd.f34) k 7 (fulcrumref01_Mul.m7 x0 x1 x5 x6 x7 x8)
theorem fulcrumref01_Mul.L3_succ (k : Nat) (x0 : (List Int)) (x1 : (List Int)) (x5 : (List Int)) (x6 : Int) : fulcrumref01_Mul.L3 (k + 1) x0 x1 x5 x6 = fulcrumref01_Mul.b3 (fulcrumref01_Mul.L3 k) (fulcrumref01_Mul.L7 k) x0 x1 x5 x6 := by kernel_rfl
theorem fulcrumref01_Mul.L3_zero (x0 : (List Int)) (x1 : (List Int)) (x5 : (List Int)) (x6 : Int) : fulcrumref01_Mul.L3 0 x0 x1 x5 x6 = none := by kernel_rfl
theorem fulcrumref01_Mul.L7_succ (k : Nat) (x0 : (List Int)) (x1 : (List Int)) (x5 : (List Int)) (x6 : Int) (x7 : Int) (x8 : Int) : fulcrumref01_Mul.L7 (k + 1) x0 x1 x5 x6 x7 x8 = fulcrumref01_Mul.b7 (fulcrumref01_Mul.L3 k) (fulcrumref01_Mul.L7 k) x0 x1 x5 x6 x7 x8 := by kernel_rfl
theorem fulcrumref01_Mul.L7_zero (x0 : (List Int)) (x1 : (List Int)) (x5 : (List Int)) (x6 : Int) (x7 : Int) (x8 : Int) : fulcrumref01_Mul.L7 0 x0 x1 x5 x6 x7 x8 = none := by kernel_rfl
theorem fulcrumref01_Mul.eval (k : Nat) (a0 : (List Int)) (a1 : (List Int)) : evalF fulcrumref01_Mul.spec fulcrumref01_Mul.cals T Tryd.f34 k (a0, a1, ()) = fulcrumref01_Mul.e (fulcrumref01_Mul.L3 k) (fulcrumref01_Mul.L7 k) a0 a1 := by kernel_rfl
theorem fulcrumref01_Mul.F_eq (a0 : (List Int)) (a1 : (List Int)) : fulcrumref01_Mul.F (a0, a1, ()) = limF fulcrumref01_Mul.spec fulcrumref01_Mul.cals T Tryd.f34 (a0, a1, ()) := by kernel_rfl
theorem fulcrumref01_Mul.of (k : Nat) (a0 : (List Int)) (a1 : (List Int)) {y : (List Int) × Unit} (h : fulcrumref01_Mul.e (fulcrumref01_Mul.L3 k) (fulcrumref01_Mul.L7 k) a0 a1 = some y) : fulcrumref01_Mul.F (a0, a1, ()) = some y := (fulcrumref01_Mul.F_eq a0 a1).trans (limF_of (q := fulcrumref01_Mul.spec) (C := fulcrumref01_Mul.cals) (T := T) (f := Tryd.f34) (x := (a0, a1, ())) (y := y) k ((fulcrumref01_Mul.eval k a0 a1).trans h))

/-! ### fulcrum/fulcrumref01.Parse -/
def fulcrumref01_Parse.spec : Spec := ⟨[(false, .str), (false, (.int .i64))], [(false, (.sl 50 (.int .u32))), (false, (.int .i64))], .own, fun j => match j with | 7 => [(0, .lf (.v false)), (1, .lf (.v false)), (6, .lf (.o 50 (.int .u32) true)), (7, .lf (.v true))] | _ => []⟩
noncomputable def fulcrumref01_Parse.cals : Cals := (Cals.cons 32 fulcrumref01_digit.sig (Cals.cons 34 fulcrumref01_Mul.sig (Cals.cons 33 fulcrumref01_Add.sig (Cals.base tabs))))
noncomputable def fulcrumref01_Parse.sig : Sig := fulcrumref01_Parse.spec.sig fulcrumref01_Parse.cals T Tryd.f19
noncomputable def fulcrumref01_Parse.F (x : ByteArray × Int × Unit) : Option ((List Int) × Int × Unit) := limF fulcrumref01_Parse.spec fulcrumref01_Parse.cals T Tryd.f19 x
theorem fulcrumref01_Parse.ck : CalsOk Tryd.prog fulcrumref01_Parse.cals := (CalsOk.cons fulcrumref01_digit.cal (CalsOk.cons fulcrumref01_Mul.cal (CalsOk.cons fulcrumref01_Add.cal (CalsOk.base tabsOk))))
theorem fulcrumref01_Parse.cal : CalOk Tryd.prog tabs 19 fulcrumref01_Parse.sig := calOk_lim' tabOk fulcrumref01_Parse.ck mix Tryd.func19 (by kernel_rfl) (by kernel_rfl) (by kernel_rfl) (by kernel_rfl)
def fulcrumref01_Parse.m7 (x0 : ByteArray) (x1 : Int) (x6 : (List Int)) (x7 : Int) : S := ⟨[(0, .one (.lf (.val false .str x0))), (1, .one (.lf (.val false (.int .i64) x1))), (6, .one (.lf (.own 0))), (7, .one (.lf (.val true (.int .i64) x7)))], ⟨[some ⟨50, (.int .u32), true, true, x6⟩], []⟩⟩
noncomputable def fulcrumref01_Parse.b7 (f7 : ByteArray → Int → (List Int) → Int → Option ((List Int) × Int × Unit)) (x0 : ByteArray) (x1 : Int) (x6 : (List Int)) (x7 : Int) : Option ((List Int) × Int × Unit) :=
  let v1 := (ByteArray.size x0 : Int)
  let v2 := decide (x7 < v1)
  bif v2 then (bif decide (0 ≤ x7) && decide (x7 < (ByteArray.size x0 : Int)) then (let v3 := btI x0 x7
  (fulcrumref01_digit.F (v3, x1, ())).bind fun y4 =>
  let v5 := decide (y4.1 < (0 : Int))
  bif v5 then (some (([] : List Int), (15 : Int), ()))
  else (let v6 := IntKind.u32.wrap x1
  let v7 := ([v6] : List Int)
  (fulcrumref01_Mul.F (x6, v7, ())).bind fun y8 =>
  let v9 := IntKind.u32.wrap y4.1
  let v10 := ([v9] : List Int)
  (fulcrumref01_Add.F (y8.1, v10, ())).bind fun y11 =>
  let v12 := IntKind.i64.wrap (x7 + (1 : Int))
  f7 x0 x1 y11.1 v12))
  else none)
  else (some (x6, (0 : Int), ()))
noncomputable def fulcrumref01_Parse.e (f7 : ByteArray → Int → (List Int) → Int → Option ((List Int) × Int × Unit)) (a0 : ByteArray) (a1 : Int) : Option ((List Int) × Int × Unit) :=
  let v1 := decide (a1 < (2 : Int))
  bif v1 then (some (([] : List Int), (14 : Int), ()))
  else (let v2 := decide (a1 > (16 : Int))
  bif v2 then (some (([] : List Int), (14 : Int), ()))
  else (let v3 := (ByteArray.size a0 : Int)
  let v4 := (v3 == (0 : Int))
  bif v4 then (some (([] : List Int), (15 : Int), ()))
  else (let v5 := (ByteArray.size a0 : Int)
  let v6 := decide (v5 > (1 : Int))
  bif v6 then (bif decide (0 ≤ (0 : Int)) && decide ((0 : Int) < (ByteArray.size a0 : Int)) then (let v7 := btI a0 (0 : Int)
  let v8 := (v7 == (48 : Int))
  bif v8 then (some (([] : List Int), (15 : Int), ()))
  else (let v9 := ([] : List Int)
  f7 a0 a1 v9 (0 : Int)))
  else none)
  else (let v10 := ([] : List Int)
  f7 a0 a1 v10 (0 : Int)))))
noncomputable def fulcrumref01_Parse.L7 (k : Nat) (x0 : ByteArray) (x1 : Int) (x6 : (List Int)) (x7 : Int) : Option ((List Int) × Int × Unit) := heads (fulcrumref01_Parse.spec.env fulcrumref01_Parse.cals T Tryd.f19) (Func.pts Tryd.f19) k 7 (fulcrumref01_Parse.m7 x0 x1 x6 x7)
theorem fulcrumref01_Parse.L7_succ (k : Nat) (x0 : ByteArray) (x1 : Int) (x6 : (List Int)) (x7 : Int) : fulcrumref01_Parse.L7 (k + 1) x0 x1 x6 x7 = fulcrumref01_Parse.b7 (fulcrumref01_Parse.L7 k) x0 x1 x6 x7 := by kernel_rfl
theorem fulcrumref01_Parse.L7_zero (x0 : ByteArray) (x1 : Int) (x6 : (List Int)) (x7 : Int) : fulcrumref01_Parse.L7 0 x0 x1 x6 x7 = none := by kernel_rfl
theorem fulcrumref01_Parse.eval (k : Nat) (a0 : ByteArray) (a1 : Int) : evalF fulcrumref01_Parse.spec fulcrumref01_Parse.cals T Tryd.f19 k (a0, a1, ()) = fulcrumref01_Parse.e (fulcrumref01_Parse.L7 k) a0 a1 := by kernel_rfl
theorem fulcrumref01_Parse.F_eq (a0 : ByteArray) (a1 : Int) : fulcrumref01_Parse.F (a0, a1, ()) = limF fulcrumref01_Parse.spec fulcrumref01_Parse.cals T Tryd.f19 (a0, a1, ()) := by kernel_rfl
theorem fulcrumref01_Parse.of (k : Nat) (a0 : ByteArray) (a1 : Int) {y : (List Int) × Int × Unit} (h : fulcrumref01_Parse.e (fulcrumref01_Parse.L7 k) a0 a1 = some y) : fulcrumref01_Parse.F (a0, a1, ()) = some y := (fulcrumref01_Parse.F_eq a0 a1).trans (limF_of (q := fulcrumref01_Parse.spec) (C := fulcrumref01_Parse.cals) (T := T) (f := Tryd.f19) (x := (a0, a1, ())) (y := y) k ((fulcrumref01_Parse.eval k a0 a1).trans h))

/-! ### fulcrum/fulcrumref02.made -/
def fulcrumref02_made.spec : Spec := ⟨[(false, .bool), (false, (.sl 50 (.int .u32)))], [(true, (.prod .bool (.sl 50 (.int .u32))))], .own, fun j => match j with  | _ => []⟩
noncomputable def fulcrumref02_made.cals : Cals := (Cals.cons 25 fulcrumref01_Norm.sig (Cals.base tabs))
noncomputable def fulcrumref02_made.sig : Sig := fulcrumref02_made.spec.sig fulcrumref02_made.cals T Tryd.f20
noncomputable def fulcrumref02_made.F (x : Bool × (List Int) × Unit) : Option ((Bool × (List Int)) × Unit) := limF fulcrumref02_made.spec fulcrumref02_made.cals T Tryd.f20 x
theorem fulcrumref02_made.ck : CalsOk Tryd.prog fulcrumref02_made.cals := (CalsOk.cons fulcrumref01_Norm.cal (CalsOk.base tabsOk))
theorem fulcrumref02_made.cal : CalOk Tryd.prog tabs 20 fulcrumref02_made.sig := calOk_lim' tabOk fulcrumref02_made.ck mix Tryd.func20 (by kernel_rfl) (by kernel_rfl) (by kernel_rfl) (by kernel_rfl)
noncomputable def fulcrumref02_made.e  (a0 : Bool) (a1 : (List Int)) : Option ((Bool × (List Int)) × Unit) :=
  (fulcrumref01_Norm.F (a1, ())).bind fun y1 =>
  bif a0 then (let v2 := (List.length y1.1 : Int)
  let v3 := decide (v2 > (0 : Int))
  some ((v3, y1.1), ()))
  else (some ((false, y1.1), ()))
theorem fulcrumref02_made.eval (k : Nat) (a0 : Bool) (a1 : (List Int)) : evalF fulcrumref02_made.spec fulcrumref02_made.cals T Tryd.f20 k (a0, a1, ()) = fulcrumref02_made.e  a0 a1 := by kernel_rfl
theorem fulcrumref02_made.F_eq (a0 : Bool) (a1 : (List Int)) : fulcrumref02_made.F (a0, a1, ()) = limF fulcrumref02_made.spec fulcrumref02_made.cals T Tryd.f20 (a0, a1, ()) := by kernel_rfl
theorem fulcrumref02_made.of (k : Nat) (a0 : Bool) (a1 : (List Int)) {y : (Bool × (List Int)) × Unit} (h : fulcrumref02_made.e  a0 a1 = some y) : fulcrumref02_made.F (a0, a1, ()) = some y := (fulcrumref02_made.F_eq a0 a1).trans (limF_of (q := fulcrumref02_made.spec) (C := fulcrumref02_made.cals) (T := T) (f := Tryd.f20) (x := (a0, a1, ())) (y := y) k ((fulcrumref02_made.eval k a0 a1).trans h))

/-! ### fulcrum/fulcrumref02.Parse -/
def fulcrumref02_Parse.spec : Spec := ⟨[(false, .str)], [(true, (.prod .bool (.sl 50 (.int .u32)))), (false, (.int .i64))], .own, fun j => match j with | 8 => [(2, .box 25 [.v true, .v true]), (4, .lf (.v true)), (5, .lf (.v true)), (6, .lf (.v true))] | _ => []⟩
noncomputable def fulcrumref02_Parse.cals : Cals := (Cals.cons 19 fulcrumref01_Parse.sig (Cals.cons 20 fulcrumref02_made.sig (Cals.base tabs)))
noncomputable def fulcrumref02_Parse.sig : Sig := fulcrumref02_Parse.spec.sig fulcrumref02_Parse.cals T Tryd.f8
noncomputable def fulcrumref02_Parse.F (x : ByteArray × Unit) : Option ((Bool × (List Int)) × Int × Unit) := limF fulcrumref02_Parse.spec fulcrumref02_Parse.cals T Tryd.f8 x
theorem fulcrumref02_Parse.ck : CalsOk Tryd.prog fulcrumref02_Parse.cals := (CalsOk.cons fulcrumref01_Parse.cal (CalsOk.cons fulcrumref02_made.cal (CalsOk.base tabsOk)))
theorem fulcrumref02_Parse.cal : CalOk Tryd.prog tabs 8 fulcrumref02_Parse.sig := calOk_lim' tabOk fulcrumref02_Parse.ck mix Tryd.func8 (by kernel_rfl) (by kernel_rfl) (by kernel_rfl) (by kernel_rfl)
def fulcrumref02_Parse.m8 (x2_0 : Bool) (x4 : Int) (x5 : ByteArray) (x6 : Int) : S := ⟨[(2, .box 0 0), (4, .one (.lf (.val true (.int .i64) x4))), (5, .one (.lf (.val true .str x5))), (6, .one (.lf (.val true (.int .i64) x6)))], ⟨[], [some ⟨25, [.val true .bool x2_0, .nil]⟩]⟩⟩
noncomputable def fulcrumref02_Parse.b8 (f8 : Bool → Int → ByteArray → Int → Option ((Bool × (List Int)) × Int × Unit)) (x2_0 : Bool) (x4 : Int) (x5 : ByteArray) (x6 : Int) : Option ((Bool × (List Int)) × Int × Unit) :=
  let v1 := (ByteArray.size x5 : Int)
  let v2 := decide (x6 < v1)
  bif v2 then (bif decide (0 ≤ x6) && decide (x6 < (ByteArray.size x5 : Int)) then (let v3 := btI x5 x6
  let v4 := decide (v3 < (48 : Int))
  bif v4 then (some ((false, ([] : List Int)), (15 : Int), ()))
  else (bif decide (0 ≤ x6) && decide (x6 < (ByteArray.size x5 : Int)) then (let v5 := btI x5 x6
  let v6 := decide (v5 > (57 : Int))
  bif v6 then (some ((false, ([] : List Int)), (15 : Int), ()))
  else (let v7 := IntKind.i64.wrap (x6 + (1 : Int))
  f8 x2_0 x4 x5 v7))
  else none))
  else none)
  else ((fulcrumref01_Parse.F (x5, (10 : Int), ())).bind fun y8 =>
  let v9 := (x4 == (1 : Int))
  (fulcrumref02_made.F (v9, y8.1, ())).bind fun y10 =>
  some ((y10.1.1, y10.1.2), (0 : Int), ()))
noncomputable def fulcrumref02_Parse.e (f8 : Bool → Int → ByteArray → Int → Option ((Bool × (List Int)) × Int × Unit)) (a0 : ByteArray) : Option ((Bool × (List Int)) × Int × Unit) :=
  let v1 := (ByteArray.size a0 : Int)
  let v2 := decide (v1 > (0 : Int))
  bif v2 then (bif decide (0 ≤ (0 : Int)) && decide ((0 : Int) < (ByteArray.size a0 : Int)) then (let v3 := btI a0 (0 : Int)
  let v4 := (v3 == (45 : Int))
  bif v4 then (bif decide (0 ≤ (1 : Int)) && (decide ((1 : Int) ≤ (ByteArray.size a0 : Int)) && decide ((ByteArray.size a0 : Int) ≤ (ByteArray.size a0 : Int))) then (let v5 := ByteArray.extract a0 (Int.toNat (1 : Int)) (Int.toNat (ByteArray.size a0 : Int))
  let v6 := (ByteArray.size v5 : Int)
  let v7 := (v6 == (0 : Int))
  bif v7 then (some ((false, ([] : List Int)), (15 : Int), ()))
  else (bif decide (0 ≤ (0 : Int)) && decide ((0 : Int) < (ByteArray.size v5 : Int)) then (let v8 := btI v5 (0 : Int)
  let v9 := (v8 == (48 : Int))
  bif v9 then (let v10 := (ByteArray.size a0 : Int)
  let v11 := decide (v10 > (1 : Int))
  bif v11 then (some ((false, ([] : List Int)), (15 : Int), ()))
  else (f8 false (1 : Int) v5 (0 : Int)))
  else (f8 false (1 : Int) v5 (0 : Int)))
  else none))
  else none)
  else (bif decide (0 ≤ (0 : Int)) && (decide ((0 : Int) ≤ (ByteArray.size a0 : Int)) && decide ((ByteArray.size a0 : Int) ≤ (ByteArray.size a0 : Int))) then (let v12 := ByteArray.extract a0 (Int.toNat (0 : Int)) (Int.toNat (ByteArray.size a0 : Int))
  let v13 := (ByteArray.size v12 : Int)
  let v14 := (v13 == (0 : Int))
  bif v14 then (some ((false, ([] : List Int)), (15 : Int), ()))
  else (bif decide (0 ≤ (0 : Int)) && decide ((0 : Int) < (ByteArray.size v12 : Int)) then (let v15 := btI v12 (0 : Int)
  let v16 := (v15 == (48 : Int))
  bif v16 then (let v17 := (ByteArray.size a0 : Int)
  let v18 := decide (v17 > (1 : Int))
  bif v18 then (some ((false, ([] : List Int)), (15 : Int), ()))
  else (f8 false (0 : Int) v12 (0 : Int)))
  else (f8 false (0 : Int) v12 (0 : Int)))
  else none))
  else none))
  else none)
  else (bif decide (0 ≤ (0 : Int)) && (decide ((0 : Int) ≤ (ByteArray.size a0 : Int)) && decide ((ByteArray.size a0 : Int) ≤ (ByteArray.size a0 : Int))) then (let v19 := ByteArray.extract a0 (Int.toNat (0 : Int)) (Int.toNat (ByteArray.size a0 : Int))
  let v20 := (ByteArray.size v19 : Int)
  let v21 := (v20 == (0 : Int))
  bif v21 then (some ((false, ([] : List Int)), (15 : Int), ()))
  else (bif decide (0 ≤ (0 : Int)) && decide ((0 : Int) < (ByteArray.size v19 : Int)) then (let v22 := btI v19 (0 : Int)
  let v23 := (v22 == (48 : Int))
  bif v23 then (let v24 := (ByteArray.size a0 : Int)
  let v25 := decide (v24 > (1 : Int))
  bif v25 then (some ((false, ([] : List Int)), (15 : Int), ()))
  else (f8 false (0 : Int) v19 (0 : Int)))
  else (f8 false (0 : Int) v19 (0 : Int)))
  else none))
  else none)
noncomputable def fulcrumref02_Parse.L8 (k : Nat) (x2_0 : Bool) (x4 : Int) (x5 : ByteArray) (x6 : Int) : Option ((Bool × (List Int)) × Int × Unit) := heads (fulcrumref02_Parse.spec.env fulcrumref02_Parse.cals T Tryd.f8) (Func.pts Tryd.f8) k 8 (fulcrumref02_Parse.m8 x2_0 x4 x5 x6)
theorem fulcrumref02_Parse.L8_succ (k : Nat) (x2_0 : Bool) (x4 : Int) (x5 : ByteArray) (x6 : Int) : fulcrumref02_Parse.L8 (k + 1) x2_0 x4 x5 x6 = fulcrumref02_Parse.b8 (fulcrumref02_Parse.L8 k) x2_0 x4 x5 x6 := by kernel_rfl
theorem fulcrumref02_Parse.L8_zero (x2_0 : Bool) (x4 : Int) (x5 : ByteArray) (x6 : Int) : fulcrumref02_Parse.L8 0 x2_0 x4 x5 x6 = none := by kernel_rfl
theorem fulcrumref02_Parse.eval (k : Nat) (a0 : ByteArray) : evalF fulcrumref02_Parse.spec fulcrumref02_Parse.cals T Tryd.f8 k (a0, ()) = fulcrumref02_Parse.e (fulcrumref02_Parse.L8 k) a0 := by kernel_rfl
theorem fulcrumref02_Parse.F_eq (a0 : ByteArray) : fulcrumref02_Parse.F (a0, ()) = limF fulcrumref02_Parse.spec fulcrumref02_Parse.cals T Tryd.f8 (a0, ()) := by kernel_rfl
theorem fulcrumref02_Parse.of (k : Nat) (a0 : ByteArray) {y : (Bool × (List Int)) × Int × Unit} (h : fulcrumref02_Parse.e (fulcrumref02_Parse.L8 k) a0 = some y) : fulcrumref02_Parse.F (a0, ()) = some y := (fulcrumref02_Parse.F_eq a0).trans (limF_of (q := fulcrumref02_Parse.spec) (C := fulcrumref02_Parse.cals) (T := T) (f := Tryd.f8) (x := (a0, ())) (y := y) k ((fulcrumref02_Parse.eval k a0).trans h))

/-! ### fulcrum/fulcrummem.SameNat -/
def fulcrummem_SameNat.spec : Spec := ⟨[(false, (.sl 50 (.int .u32))), (false, (.sl 50 (.int .u32)))], [(false, .bool)], .own, fun j => match j with | 4 => [(0, .lf (.z 50 (.int .u32) false)), (1, .lf (.z 50 (.int .u32) false)), (5, .lf (.v true))] | _ => []⟩
noncomputable def fulcrummem_SameNat.cals : Cals := (Cals.base tabs)
noncomputable def fulcrummem_SameNat.sig : Sig := fulcrummem_SameNat.spec.sig fulcrummem_SameNat.cals T Tryd.f35
noncomputable def fulcrummem_SameNat.F (x : (List Int) × (List Int) × Unit) : Option (Bool × Unit) := limF fulcrummem_SameNat.spec fulcrummem_SameNat.cals T Tryd.f35 x
theorem fulcrummem_SameNat.ck : CalsOk Tryd.prog fulcrummem_SameNat.cals := (CalsOk.base tabsOk)
theorem fulcrummem_SameNat.cal : CalOk Tryd.prog tabs 35 fulcrummem_SameNat.sig := calOk_lim' tabOk fulcrummem_SameNat.ck mix Tryd.func35 (by kernel_rfl) (by kernel_rfl) (by kernel_rfl) (by kernel_rfl)
def fulcrummem_SameNat.m4 (x0 : (List Int)) (x1 : (List Int)) (x5 : Int) : S := ⟨[(0, .one (.lf (.val false (.sl 50 (.int .u32)) x0))), (1, .one (.lf (.val false (.sl 50 (.int .u32)) x1))), (5, .one (.lf (.val true (.int .i64) x5)))], ⟨[], []⟩⟩
noncomputable def fulcrummem_SameNat.b4 (f4 : (List Int) → (List Int) → Int → Option (Bool × Unit)) (x0 : (List Int)) (x1 : (List Int)) (x5 : Int) : Option (Bool × Unit) :=
  let v1 := (List.length x0 : Int)
  let v2 := decide (x5 < v1)
  bif v2 then (bif decide (0 ≤ x5) && decide (x5 < (List.length x0 : Int)) then (let v3 := List.getD x0 (Int.toNat x5) (0 : Int)
  bif decide (0 ≤ x5) && decide (x5 < (List.length x1 : Int)) then (let v4 := List.getD x1 (Int.toNat x5) (0 : Int)
  let v5 := (v3 != v4)
  bif v5 then (some (false, ()))
  else (let v6 := IntKind.i64.wrap (x5 + (1 : Int))
  f4 x0 x1 v6))
  else none)
  else none)
  else (some (true, ()))
noncomputable def fulcrummem_SameNat.e (f4 : (List Int) → (List Int) → Int → Option (Bool × Unit)) (a0 : (List Int)) (a1 : (List Int)) : Option (Bool × Unit) :=
  let v1 := (List.length a0 : Int)
  let v2 := (List.length a1 : Int)
  let v3 := (v1 != v2)
  bif v3 then (some (false, ()))
  else (f4 a0 a1 (0 : Int))
noncomputable def fulcrummem_SameNat.L4 (k : Nat) (x0 : (List Int)) (x1 : (List Int)) (x5 : Int) : Option (Bool × Unit) := heads (fulcrummem_SameNat.spec.env fulcrummem_SameNat.cals T Tryd.f35) (Func.pts Tryd.f35) k 4 (fulcrummem_SameNat.m4 x0 x1 x5)
theorem fulcrummem_SameNat.L4_succ (k : Nat) (x0 : (List Int)) (x1 : (List Int)) (x5 : Int) : fulcrummem_SameNat.L4 (k + 1) x0 x1 x5 = fulcrummem_SameNat.b4 (fulcrummem_SameNat.L4 k) x0 x1 x5 := by kernel_rfl
theorem fulcrummem_SameNat.L4_zero (x0 : (List Int)) (x1 : (List Int)) (x5 : Int) : fulcrummem_SameNat.L4 0 x0 x1 x5 = none := by kernel_rfl
theorem fulcrummem_SameNat.eval (k : Nat) (a0 : (List Int)) (a1 : (List Int)) : evalF fulcrummem_SameNat.spec fulcrummem_SameNat.cals T Tryd.f35 k (a0, a1, ()) = fulcrummem_SameNat.e (fulcrummem_SameNat.L4 k) a0 a1 := by kernel_rfl
theorem fulcrummem_SameNat.F_eq (a0 : (List Int)) (a1 : (List Int)) : fulcrummem_SameNat.F (a0, a1, ()) = limF fulcrummem_SameNat.spec fulcrummem_SameNat.cals T Tryd.f35 (a0, a1, ()) := by kernel_rfl
theorem fulcrummem_SameNat.of (k : Nat) (a0 : (List Int)) (a1 : (List Int)) {y : Bool × Unit} (h : fulcrummem_SameNat.e (fulcrummem_SameNat.L4 k) a0 a1 = some y) : fulcrummem_SameNat.F (a0, a1, ()) = some y := (fulcrummem_SameNat.F_eq a0 a1).trans (limF_of (q := fulcrummem_SameNat.spec) (C := fulcrummem_SameNat.cals) (T := T) (f := Tryd.f35) (x := (a0, a1, ())) (y := y) k ((fulcrummem_SameNat.eval k a0 a1).trans h))

/-! ### fulcrum/fulcrummem.SameInt -/
def fulcrummem_SameInt.spec : Spec := ⟨[(true, (.prod .bool (.sl 50 (.int .u32)))), (true, (.prod .bool (.sl 50 (.int .u32))))], [(false, .bool)], .own, fun j => match j with  | _ => []⟩
noncomputable def fulcrummem_SameInt.cals : Cals := (Cals.cons 35 fulcrummem_SameNat.sig (Cals.base tabs))
noncomputable def fulcrummem_SameInt.sig : Sig := fulcrummem_SameInt.spec.sig fulcrummem_SameInt.cals T Tryd.f21
noncomputable def fulcrummem_SameInt.F (x : (Bool × (List Int)) × (Bool × (List Int)) × Unit) : Option (Bool × Unit) := limF fulcrummem_SameInt.spec fulcrummem_SameInt.cals T Tryd.f21 x
theorem fulcrummem_SameInt.ck : CalsOk Tryd.prog fulcrummem_SameInt.cals := (CalsOk.cons fulcrummem_SameNat.cal (CalsOk.base tabsOk))
theorem fulcrummem_SameInt.cal : CalOk Tryd.prog tabs 21 fulcrummem_SameInt.sig := calOk_lim' tabOk fulcrummem_SameInt.ck mix Tryd.func21 (by kernel_rfl) (by kernel_rfl) (by kernel_rfl) (by kernel_rfl)
noncomputable def fulcrummem_SameInt.e  (a0 : (Bool × (List Int))) (a1 : (Bool × (List Int))) : Option (Bool × Unit) :=
  let v1 := (a0.1 == a1.1)
  bif v1 then ((fulcrummem_SameNat.F (a0.2, a1.2, ())).bind fun y2 =>
  some (y2.1, ()))
  else (some (false, ()))
theorem fulcrummem_SameInt.eval (k : Nat) (a0 : (Bool × (List Int))) (a1 : (Bool × (List Int))) : evalF fulcrummem_SameInt.spec fulcrummem_SameInt.cals T Tryd.f21 k (a0, a1, ()) = fulcrummem_SameInt.e  a0 a1 := by kernel_rfl
theorem fulcrummem_SameInt.F_eq (a0 : (Bool × (List Int))) (a1 : (Bool × (List Int))) : fulcrummem_SameInt.F (a0, a1, ()) = limF fulcrummem_SameInt.spec fulcrummem_SameInt.cals T Tryd.f21 (a0, a1, ()) := by kernel_rfl
theorem fulcrummem_SameInt.of (k : Nat) (a0 : (Bool × (List Int))) (a1 : (Bool × (List Int))) {y : Bool × Unit} (h : fulcrummem_SameInt.e  a0 a1 = some y) : fulcrummem_SameInt.F (a0, a1, ()) = some y := (fulcrummem_SameInt.F_eq a0 a1).trans (limF_of (q := fulcrummem_SameInt.spec) (C := fulcrummem_SameInt.cals) (T := T) (f := Tryd.f21) (x := (a0, a1, ())) (y := y) k ((fulcrummem_SameInt.eval k a0 a1).trans h))

/-! ### fulcrum/fulcrumlaw02.same -/
def fulcrumlaw02_same.spec : Spec := ⟨[(true, (.prod .bool (.sl 50 (.int .u32)))), (true, (.prod .bool (.sl 50 (.int .u32))))], [(false, .bool)], .own, fun j => match j with  | _ => []⟩
noncomputable def fulcrumlaw02_same.cals : Cals := (Cals.cons 21 fulcrummem_SameInt.sig (Cals.base tabs))
noncomputable def fulcrumlaw02_same.sig : Sig := fulcrumlaw02_same.spec.sig fulcrumlaw02_same.cals T Tryd.f9
noncomputable def fulcrumlaw02_same.F (x : (Bool × (List Int)) × (Bool × (List Int)) × Unit) : Option (Bool × Unit) := limF fulcrumlaw02_same.spec fulcrumlaw02_same.cals T Tryd.f9 x
theorem fulcrumlaw02_same.ck : CalsOk Tryd.prog fulcrumlaw02_same.cals := (CalsOk.cons fulcrummem_SameInt.cal (CalsOk.base tabsOk))
theorem fulcrumlaw02_same.cal : CalOk Tryd.prog tabs 9 fulcrumlaw02_same.sig := calOk_lim' tabOk fulcrumlaw02_same.ck mix Tryd.func9 (by kernel_rfl) (by kernel_rfl) (by kernel_rfl) (by kernel_rfl)
noncomputable def fulcrumlaw02_same.e  (a0 : (Bool × (List Int))) (a1 : (Bool × (List Int))) : Option (Bool × Unit) :=
  (fulcrummem_SameInt.F ((a0.1, a0.2), (a1.1, a1.2), ())).bind fun y1 =>
  some (y1.1, ())
theorem fulcrumlaw02_same.eval (k : Nat) (a0 : (Bool × (List Int))) (a1 : (Bool × (List Int))) : evalF fulcrumlaw02_same.spec fulcrumlaw02_same.cals T Tryd.f9 k (a0, a1, ()) = fulcrumlaw02_same.e  a0 a1 := by kernel_rfl
theorem fulcrumlaw02_same.F_eq (a0 : (Bool × (List Int))) (a1 : (Bool × (List Int))) : fulcrumlaw02_same.F (a0, a1, ()) = limF fulcrumlaw02_same.spec fulcrumlaw02_same.cals T Tryd.f9 (a0, a1, ()) := by kernel_rfl
theorem fulcrumlaw02_same.of (k : Nat) (a0 : (Bool × (List Int))) (a1 : (Bool × (List Int))) {y : Bool × Unit} (h : fulcrumlaw02_same.e  a0 a1 = some y) : fulcrumlaw02_same.F (a0, a1, ()) = some y := (fulcrumlaw02_same.F_eq a0 a1).trans (limF_of (q := fulcrumlaw02_same.spec) (C := fulcrumlaw02_same.cals) (T := T) (f := Tryd.f9) (x := (a0, a1, ())) (y := y) k ((fulcrumlaw02_same.eval k a0 a1).trans h))

/-! ### math/bits.Div32 -/
def bits_Div32.spec : Spec := ⟨[(false, (.int .u32)), (false, (.int .u32)), (false, (.int .u32))], [(false, (.int .u32)), (false, (.int .u32))], .own, fun j => match j with  | _ => []⟩
noncomputable def bits_Div32.cals : Cals := (Cals.base tabs)
noncomputable def bits_Div32.sig : Sig := bits_Div32.spec.sig bits_Div32.cals T Tryd.f46
noncomputable def bits_Div32.F (x : Int × Int × Int × Unit) : Option (Int × Int × Unit) := limF bits_Div32.spec bits_Div32.cals T Tryd.f46 x
theorem bits_Div32.ck : CalsOk Tryd.prog bits_Div32.cals := (CalsOk.base tabsOk)
theorem bits_Div32.cal : CalOk Tryd.prog tabs 46 bits_Div32.sig := calOk_lim' tabOk bits_Div32.ck mix Tryd.func46 (by kernel_rfl) (by kernel_rfl) (by kernel_rfl) (by kernel_rfl)
noncomputable def bits_Div32.e  (a0 : Int) (a1 : Int) (a2 : Int) : Option (Int × Int × Unit) :=
  let v1 := (a2 != (0 : Int))
  bif v1 then (let v2 := decide (a2 ≤ a0)
  bif v2 then (none)
  else (let v3 := IntKind.u64.wrap a0
  bif decide ((32 : Int) < 0) then none
  else (let v4 := shlI .u64 v3 (32 : Int)
  let v5 := IntKind.u64.wrap a1
  let v6 := bitsOp .or .u64 v4 v5
  let v7 := IntKind.u64.wrap a2
  bif decide (v7 = 0) then none
  else (let v8 := IntKind.u64.wrap (Int.tdiv v6 v7)
  let v9 := IntKind.u32.wrap v8
  let v10 := IntKind.u64.wrap a2
  bif decide (v10 = 0) then none
  else (let v11 := Int.tmod v6 v10
  let v12 := IntKind.u32.wrap v11
  some (v9, v12, ()))))))
  else (let v13 := IntKind.u64.wrap a0
  bif decide ((32 : Int) < 0) then none
  else (let v14 := shlI .u64 v13 (32 : Int)
  let v15 := IntKind.u64.wrap a1
  let v16 := bitsOp .or .u64 v14 v15
  let v17 := IntKind.u64.wrap a2
  bif decide (v17 = 0) then none
  else (let v18 := IntKind.u64.wrap (Int.tdiv v16 v17)
  let v19 := IntKind.u32.wrap v18
  let v20 := IntKind.u64.wrap a2
  bif decide (v20 = 0) then none
  else (let v21 := Int.tmod v16 v20
  let v22 := IntKind.u32.wrap v21
  some (v19, v22, ())))))
theorem bits_Div32.eval (k : Nat) (a0 : Int) (a1 : Int) (a2 : Int) : evalF bits_Div32.spec bits_Div32.cals T Tryd.f46 k (a0, a1, a2, ()) = bits_Div32.e  a0 a1 a2 := by kernel_rfl
theorem bits_Div32.F_eq (a0 : Int) (a1 : Int) (a2 : Int) : bits_Div32.F (a0, a1, a2, ()) = limF bits_Div32.spec bits_Div32.cals T Tryd.f46 (a0, a1, a2, ()) := by kernel_rfl
theorem bits_Div32.of (k : Nat) (a0 : Int) (a1 : Int) (a2 : Int) {y : Int × Int × Unit} (h : bits_Div32.e  a0 a1 a2 = some y) : bits_Div32.F (a0, a1, a2, ()) = some y := (bits_Div32.F_eq a0 a1 a2).trans (limF_of (q := bits_Div32.spec) (C := bits_Div32.cals) (T := T) (f := Tryd.f46) (x := (a0, a1, a2, ())) (y := y) k ((bits_Div32.eval k a0 a1 a2).trans h))

/-! ### fulcrum/nat.short -/
def nat_short.spec : Spec := ⟨[(false, (.sl 50 (.int .u32))), (false, (.int .u32))], [(false, (.sl 50 (.int .u32))), (false, (.int .u32))], .own, fun j => match j with | 4 => [(0, .lf (.z 50 (.int .u32) false)), (1, .lf (.v false)), (6, .lf (.o 50 (.int .u32) true)), (7, .lf (.v true)), (8, .lf (.v true))] | _ => []⟩
noncomputable def nat_short.cals : Cals := (Cals.cons 46 bits_Div32.sig (Cals.base tabs))
noncomputable def nat_short.sig : Sig := nat_short.spec.sig nat_short.cals T Tryd.f36
noncomputable def nat_short.F (x : (List Int) × Int × Unit) : Option ((List Int) × Int × Unit) := limF nat_short.spec nat_short.cals T Tryd.f36 x
theorem nat_short.ck : CalsOk Tryd.prog nat_short.cals := (CalsOk.cons bits_Div32.cal (CalsOk.base tabsOk))
theorem nat_short.cal : CalOk Tryd.prog tabs 36 nat_short.sig := calOk_lim' tabOk nat_short.ck mix Tryd.func36 (by kernel_rfl) (by kernel_rfl) (by kernel_rfl) (by kernel_rfl)
def nat_short.m4 (x0 : (List Int)) (x1 : Int) (x6 : (List Int)) (x7 : Int) (x8 : Int) : S := ⟨[(0, .one (.lf (.val false (.sl 50 (.int .u32)) x0))), (1, .one (.lf (.val false (.int .u32) x1))), (6, .one (.lf (.own 0))), (7, .one (.lf (.val true (.int .u32) x7))), (8, .one (.lf (.val true (.int .i64) x8)))], ⟨[some ⟨50, (.int .u32), true, true, x6⟩], []⟩⟩
noncomputable def nat_short.b4 (f4 : (List Int) → Int → (List Int) → Int → Int → Option ((List Int) × Int × Unit)) (x0 : (List Int)) (x1 : Int) (x6 : (List Int)) (x7 : Int) (x8 : Int) : Option ((List Int) × Int × Unit) :=
  let v1 := decide (x8 ≥ (0 : Int))
  bif v1 then (bif decide (0 ≤ x8) && decide (x8 < (List.length x0 : Int)) then (let v2 := List.getD x0 (Int.toNat x8) (0 : Int)
  (bits_Div32.F (x7, v2, x1, ())).bind fun y3 =>
  bif decide (0 ≤ x8) && decide (x8 < (List.length x6 : Int)) then (let v4 := List.set x6 (Int.toNat x8) y3.1
  let v5 := IntKind.i64.wrap (x8 - (1 : Int))
  f4 x0 x1 v4 y3.2.1 v5)
  else none)
  else none)
  else (some (x6, x7, ()))
noncomputable def nat_short.e (f4 : (List Int) → Int → (List Int) → Int → Int → Option ((List Int) × Int × Unit)) (a0 : (List Int)) (a1 : Int) : Option ((List Int) × Int × Unit) :=
  let v1 := (List.length a0 : Int)
  bif decide (0 ≤ v1) && (decide (v1 ≤ v1) && (decide (Int.toNat v1 * 4 ≤ 281474976710656) && Nat.blt 0 4)) then (let v2 := List.replicate (Int.toNat v1) (0 : Int)
  let v3 := (List.length a0 : Int)
  let v4 := IntKind.i64.wrap (v3 - (1 : Int))
  f4 a0 a1 v2 (0 : Int) v4)
  else none
noncomputable def nat_short.L4 (k : Nat) (x0 : (List Int)) (x1 : Int) (x6 : (List Int)) (x7 : Int) (x8 : Int) : Option ((List Int) × Int × Unit) := heads (nat_short.spec.env nat_short.cals T Tryd.f36) (Func.pts Tryd.f36) k 4 (nat_short.m4 x0 x1 x6 x7 x8)
theorem nat_short.L4_succ (k : Nat) (x0 : (List Int)) (x1 : Int) (x6 : (List Int)) (x7 : Int) (x8 : Int) : nat_short.L4 (k + 1) x0 x1 x6 x7 x8 = nat_short.b4 (nat_short.L4 k) x0 x1 x6 x7 x8 := by kernel_rfl
theorem nat_short.L4_zero (x0 : (List Int)) (x1 : Int) (x6 : (List Int)) (x7 : Int) (x8 : Int) : nat_short.L4 0 x0 x1 x6 x7 x8 = none := by kernel_rfl
theorem nat_short.eval (k : Nat) (a0 : (List Int)) (a1 : Int) : evalF nat_short.spec nat_short.cals T Tryd.f36 k (a0, a1, ()) = nat_short.e (nat_short.L4 k) a0 a1 := by kernel_rfl
theorem nat_short.F_eq (a0 : (List Int)) (a1 : Int) : nat_short.F (a0, a1, ()) = limF nat_short.spec nat_short.cals T Tryd.f36 (a0, a1, ()) := by kernel_rfl
theorem nat_short.of (k : Nat) (a0 : (List Int)) (a1 : Int) {y : (List Int) × Int × Unit} (h : nat_short.e (nat_short.L4 k) a0 a1 = some y) : nat_short.F (a0, a1, ()) = some y := (nat_short.F_eq a0 a1).trans (limF_of (q := nat_short.spec) (C := nat_short.cals) (T := T) (f := Tryd.f36) (x := (a0, a1, ())) (y := y) k ((nat_short.eval k a0 a1).trans h))

/-! ### fulcrum/nat.Text -/
def nat_Text.spec : Spec := ⟨[(false, (.sl 50 (.int .u32))), (false, (.int .i64))], [(false, .str), (false, (.int .i64))], .own, fun j => match j with | 5 => [(1, .lf (.v false)), (6, .lf (.o 5 (.int .u8) true)), (7, .lf (.z 50 (.int .u32) true))] | 14 => [(6, .lf (.o 5 (.int .u8) true)), (9, .lf (.o 5 (.int .u8) true)), (43, .lf (.v true)), (44, .lf (.v true))] | _ => []⟩
noncomputable def nat_Text.cals : Cals := (Cals.cons 30 nat_own.sig (Cals.cons 36 nat_short.sig (Cals.cons 37 nat_trim.sig (Cals.base tabs))))
noncomputable def nat_Text.sig : Sig := nat_Text.spec.sig nat_Text.cals T Tryd.f22
noncomputable def nat_Text.F (x : (List Int) × Int × Unit) : Option (ByteArray × Int × Unit) := limF nat_Text.spec nat_Text.cals T Tryd.f22 x
theorem nat_Text.ck : CalsOk Tryd.prog nat_Text.cals := (CalsOk.cons nat_own.cal (CalsOk.cons nat_short.cal (CalsOk.cons nat_trim.cal (CalsOk.base tabsOk))))
theorem nat_Text.cal : CalOk Tryd.prog tabs 22 nat_Text.sig := calOk_lim' tabOk nat_Text.ck mix Tryd.func22 (by kernel_rfl) (by kernel_rfl) (by kernel_rfl) (by kernel_rfl)
def nat_Text.m5 (x1 : Int) (x6 : (List Int)) (x7 : (List Int)) : S := ⟨[(1, .one (.lf (.val false (.int .i64) x1))), (6, .one (.lf (.own 0))), (7, .one (.lf (.val true (.sl 50 (.int .u32)) x7)))], ⟨[some ⟨5, (.int .u8), true, true, x6⟩], []⟩⟩
def nat_Text.m14 (x6 : (List Int)) (x9 : (List Int)) (x43 : Int) (x44 : Int) : S := ⟨[(6, .one (.lf (.own 0))), (9, .one (.lf (.own 1))), (43, .one (.lf (.val true (.int .i64) x43))), (44, .one (.lf (.val true (.int .i64) x44)))], ⟨[some ⟨5, (.int .u8), true, true, x6⟩, some ⟨5, (.int .u8), true, true, x9⟩], []⟩⟩
noncomputable def nat_Text.b5 (f5 : Int → (List Int) → (List Int) → Option (ByteArray × Int × Unit)) (f14 : (List Int) → (List Int) → Int → Int → Option (ByteArray × Int × Unit)) (x1 : Int) (x6 : (List Int)) (x7 : (List Int)) : Option (ByteArray × Int × Unit) :=
  let v1 := (List.length x7 : Int)
  let v2 := decide (v1 > (0 : Int))
  bif v2 then (let v3 := IntKind.u32.wrap x1
  (nat_short.F (x7, v3, ())).bind fun y4 =>
  (nat_trim.F (y4.1, ())).bind fun y5 =>
  bif decide (0 ≤ y4.2.1) && decide (y4.2.1 < (ByteArray.size (⟨#[48, 49, 50, 51, 52, 53, 54, 55, 56, 57, 97, 98, 99, 100, 101, 102]⟩ : ByteArray) : Int)) then (let v6 := btI (⟨#[48, 49, 50, 51, 52, 53, 54, 55, 56, 57, 97, 98, 99, 100, 101, 102]⟩ : ByteArray) y4.2.1
  let v7 := ([v6] : List Int)
  bif decide (List.length x6 + List.length v7 < 140737488355328) then (let v8 := List.append x6 v7
  f5 x1 v8 y5.1)
  else none)
  else none)
  else (let v9 := (List.length x6 : Int)
  let v10 := (v9 == (0 : Int))
  bif v10 then (some ((⟨#[48]⟩ : ByteArray), (0 : Int), ()))
  else (let v11 := (List.length x6 : Int)
  bif decide (0 ≤ v11) && (decide (v11 ≤ v11) && (decide (Int.toNat v11 * 1 ≤ 281474976710656) && Nat.blt 0 1)) then (let v12 := List.replicate (Int.toNat v11) (0 : Int)
  let v13 := (List.length x6 : Int)
  f14 x6 v12 v13 (0 : Int))
  else none))
noncomputable def nat_Text.b14 (f5 : Int → (List Int) → (List Int) → Option (ByteArray × Int × Unit)) (f14 : (List Int) → (List Int) → Int → Int → Option (ByteArray × Int × Unit)) (x6 : (List Int)) (x9 : (List Int)) (x43 : Int) (x44 : Int) : Option (ByteArray × Int × Unit) :=
  let v1 := decide (x44 < x43)
  bif v1 then (let v2 := (List.length x6 : Int)
  let v3 := IntKind.i64.wrap (v2 - (1 : Int))
  let v4 := IntKind.i64.wrap (v3 - x44)
  bif decide (0 ≤ x44) && decide (x44 < (List.length x6 : Int)) then (let v5 := List.getD x6 (Int.toNat x44) (0 : Int)
  bif decide (0 ≤ v4) && decide (v4 < (List.length x9 : Int)) then (let v6 := List.set x9 (Int.toNat v4) v5
  let v7 := IntKind.i64.wrap (x44 + (1 : Int))
  f14 x6 v6 x43 v7)
  else none)
  else none)
  else (let v8 := strOfNums x9
  some (v8, (0 : Int), ()))
noncomputable def nat_Text.e (f5 : Int → (List Int) → (List Int) → Option (ByteArray × Int × Unit)) (f14 : (List Int) → (List Int) → Int → Int → Option (ByteArray × Int × Unit)) (a0 : (List Int)) (a1 : Int) : Option (ByteArray × Int × Unit) :=
  let v1 := decide (a1 < (2 : Int))
  bif v1 then (some ((⟨#[]⟩ : ByteArray), (14 : Int), ()))
  else (let v2 := decide (a1 > (16 : Int))
  bif v2 then (some ((⟨#[]⟩ : ByteArray), (14 : Int), ()))
  else ((nat_own.F (a0, ())).bind fun y3 =>
  f5 a1 ([] : List Int) y3.1))
noncomputable def nat_Text.L5 (k : Nat) (x1 : Int) (x6 : (List Int)) (x7 : (List Int)) : Option (ByteArray × Int × Unit) := heads (nat_Text.spec.env nat_Text.cals T Tryd.f22) (Func.pts Tryd.f22) k 5 (nat_Text.m5 x1 x6 x7)
noncomputable def nat_Text.L14 (k : Nat) (x6 : (List Int)) (x9 : (List Int)) (x43 : Int) (x44 : Int) : Option (ByteArray × Int × Unit) := heads (nat_Text.spec.env nat_Text.cals T Tryd.f22) (Func.pts Tryd.f22) k 14 (nat_Text.m14 x6 x9 x43 x44)
theorem nat_Text.L5_succ (k : Nat) (x1 : Int) (x6 : (List Int)) (x7 : (List Int)) : nat_Text.L5 (k + 1) x1 x6 x7 = nat_Text.b5 (nat_Text.L5 k) (nat_Text.L14 k) x1 x6 x7 := by kernel_rfl
theorem nat_Text.L5_zero (x1 : Int) (x6 : (List Int)) (x7 : (List Int)) : nat_Text.L5 0 x1 x6 x7 = none := by kernel_rfl
theorem nat_Text.L14_succ (k : Nat) (x6 : (List Int)) (x9 : (List Int)) (x43 : Int) (x44 : Int) : nat_Text.L14 (k + 1) x6 x9 x43 x44 = nat_Text.b14 (nat_Text.L5 k) (nat_Text.L14 k) x6 x9 x43 x44 := by kernel_rfl
theorem nat_Text.L14_zero (x6 : (List Int)) (x9 : (List Int)) (x43 : Int) (x44 : Int) : nat_Text.L14 0 x6 x9 x43 x44 = none := by kernel_rfl
theorem nat_Text.eval (k : Nat) (a0 : (List Int)) (a1 : Int) : evalF nat_Text.spec nat_Text.cals T Tryd.f22 k (a0, a1, ()) = nat_Text.e (nat_Text.L5 k) (nat_Text.L14 k) a0 a1 := by kernel_rfl
theorem nat_Text.F_eq (a0 : (List Int)) (a1 : Int) : nat_Text.F (a0, a1, ()) = limF nat_Text.spec nat_Text.cals T Tryd.f22 (a0, a1, ()) := by kernel_rfl
theorem nat_Text.of (k : Nat) (a0 : (List Int)) (a1 : Int) {y : ByteArray × Int × Unit} (h : nat_Text.e (nat_Text.L5 k) (nat_Text.L14 k) a0 a1 = some y) : nat_Text.F (a0, a1, ()) = some y := (nat_Text.F_eq a0 a1).trans (limF_of (q := nat_Text.spec) (C := nat_Text.cals) (T := T) (f := Tryd.f22) (x := (a0, a1, ())) (y := y) k ((nat_Text.eval k a0 a1).trans h))

/-! ### fulcrum/whole.core -/
def whole_core.spec : Spec := ⟨[(false, (.sl 50 (.int .u32)))], [(false, (.sl 50 (.int .u32)))], .shared, fun j => match j with | 2 => [(0, .lf (.z 50 (.int .u32) true)), (3, .lf (.v true))] | _ => []⟩
noncomputable def whole_core.cals : Cals := (Cals.base tabs)
noncomputable def whole_core.sig : Sig := whole_core.spec.sig whole_core.cals T Tryd.f38
noncomputable def whole_core.F (x : (List Int) × Unit) : Option ((List Int) × Unit) := limF whole_core.spec whole_core.cals T Tryd.f38 x
theorem whole_core.ck : CalsOk Tryd.prog whole_core.cals := (CalsOk.base tabsOk)
theorem whole_core.cal : CalOk Tryd.prog tabs 38 whole_core.sig := calOk_lim' tabOk whole_core.ck mix Tryd.func38 (by kernel_rfl) (by kernel_rfl) (by kernel_rfl) (by kernel_rfl)
def whole_core.m2 (x0 : (List Int)) (x3 : Int) : S := ⟨[(0, .one (.lf (.val true (.sl 50 (.int .u32)) x0))), (3, .one (.lf (.val true (.int .i64) x3)))], ⟨[], []⟩⟩
noncomputable def whole_core.b2 (f2 : (List Int) → Int → Option ((List Int) × Unit)) (x0 : (List Int)) (x3 : Int) : Option ((List Int) × Unit) :=
  let v1 := decide (x3 > (0 : Int))
  bif v1 then (let v2 := IntKind.i64.wrap (x3 - (1 : Int))
  bif decide (0 ≤ v2) && decide (v2 < (List.length x0 : Int)) then (let v3 := List.getD x0 (Int.toNat v2) (0 : Int)
  let v4 := (v3 == (0 : Int))
  bif v4 then (let v5 := IntKind.i64.wrap (x3 - (1 : Int))
  f2 x0 v5)
  else (bif decide (0 ≤ x3) && (decide (x3 ≤ x3) && decide (x3 ≤ (List.length x0 : Int))) then (let v6 := List.take (Int.toNat x3) x0
  some (v6, ()))
  else none))
  else none)
  else (bif decide (0 ≤ x3) && (decide (x3 ≤ x3) && decide (x3 ≤ (List.length x0 : Int))) then (let v7 := List.take (Int.toNat x3) x0
  some (v7, ()))
  else none)
noncomputable def whole_core.e (f2 : (List Int) → Int → Option ((List Int) × Unit)) (a0 : (List Int)) : Option ((List Int) × Unit) :=
  let v1 := (List.length a0 : Int)
  f2 a0 v1
noncomputable def whole_core.L2 (k : Nat) (x0 : (List Int)) (x3 : Int) : Option ((List Int) × Unit) := heads (whole_core.spec.env whole_core.cals T Tryd.f38) (Func.pts Tryd.f38) k 2 (whole_core.m2 x0 x3)
theorem whole_core.L2_succ (k : Nat) (x0 : (List Int)) (x3 : Int) : whole_core.L2 (k + 1) x0 x3 = whole_core.b2 (whole_core.L2 k) x0 x3 := by kernel_rfl
theorem whole_core.L2_zero (x0 : (List Int)) (x3 : Int) : whole_core.L2 0 x0 x3 = none := by kernel_rfl
theorem whole_core.eval (k : Nat) (a0 : (List Int)) : evalF whole_core.spec whole_core.cals T Tryd.f38 k (a0, ()) = whole_core.e (whole_core.L2 k) a0 := by kernel_rfl
theorem whole_core.F_eq (a0 : (List Int)) : whole_core.F (a0, ()) = limF whole_core.spec whole_core.cals T Tryd.f38 (a0, ()) := by kernel_rfl
theorem whole_core.of (k : Nat) (a0 : (List Int)) {y : (List Int) × Unit} (h : whole_core.e (whole_core.L2 k) a0 = some y) : whole_core.F (a0, ()) = some y := (whole_core.F_eq a0).trans (limF_of (q := whole_core.spec) (C := whole_core.cals) (T := T) (f := Tryd.f38) (x := (a0, ())) (y := y) k ((whole_core.eval k a0).trans h))

/-! ### fulcrum/whole.Sign -/
def whole_Sign.spec : Spec := ⟨[(true, (.prod .bool (.sl 50 (.int .u32))))], [(false, (.int .i64))], .own, fun j => match j with  | _ => []⟩
noncomputable def whole_Sign.cals : Cals := (Cals.cons 38 whole_core.sig (Cals.base tabs))
noncomputable def whole_Sign.sig : Sig := whole_Sign.spec.sig whole_Sign.cals T Tryd.f23
noncomputable def whole_Sign.F (x : (Bool × (List Int)) × Unit) : Option (Int × Unit) := limF whole_Sign.spec whole_Sign.cals T Tryd.f23 x
theorem whole_Sign.ck : CalsOk Tryd.prog whole_Sign.cals := (CalsOk.cons whole_core.cal (CalsOk.base tabsOk))
theorem whole_Sign.cal : CalOk Tryd.prog tabs 23 whole_Sign.sig := calOk_lim' tabOk whole_Sign.ck mix Tryd.func23 (by kernel_rfl) (by kernel_rfl) (by kernel_rfl) (by kernel_rfl)
noncomputable def whole_Sign.e  (a0 : (Bool × (List Int))) : Option (Int × Unit) :=
  (whole_core.F (a0.2, ())).bind fun y1 =>
  let v2 := (List.length y1.1 : Int)
  let v3 := (v2 == (0 : Int))
  bif v3 then (some ((0 : Int), ()))
  else (bif a0.1 then (some ((-1 : Int), ()))
  else (some ((1 : Int), ())))
theorem whole_Sign.eval (k : Nat) (a0 : (Bool × (List Int))) : evalF whole_Sign.spec whole_Sign.cals T Tryd.f23 k (a0, ()) = whole_Sign.e  a0 := by kernel_rfl
theorem whole_Sign.F_eq (a0 : (Bool × (List Int))) : whole_Sign.F (a0, ()) = limF whole_Sign.spec whole_Sign.cals T Tryd.f23 (a0, ()) := by kernel_rfl
theorem whole_Sign.of (k : Nat) (a0 : (Bool × (List Int))) {y : Int × Unit} (h : whole_Sign.e  a0 = some y) : whole_Sign.F (a0, ()) = some y := (whole_Sign.F_eq a0).trans (limF_of (q := whole_Sign.spec) (C := whole_Sign.cals) (T := T) (f := Tryd.f23) (x := (a0, ())) (y := y) k ((whole_Sign.eval k a0).trans h))

/-! ### fulcrum/whole.Text -/
def whole_Text.spec : Spec := ⟨[(true, (.prod .bool (.sl 50 (.int .u32))))], [(false, .str)], .own, fun j => match j with  | _ => []⟩
noncomputable def whole_Text.cals : Cals := (Cals.cons 22 nat_Text.sig (Cals.cons 23 whole_Sign.sig (Cals.base tabs)))
noncomputable def whole_Text.sig : Sig := whole_Text.spec.sig whole_Text.cals T Tryd.f10
noncomputable def whole_Text.F (x : (Bool × (List Int)) × Unit) : Option (ByteArray × Unit) := limF whole_Text.spec whole_Text.cals T Tryd.f10 x
theorem whole_Text.ck : CalsOk Tryd.prog whole_Text.cals := (CalsOk.cons nat_Text.cal (CalsOk.cons whole_Sign.cal (CalsOk.base tabsOk)))
theorem whole_Text.cal : CalOk Tryd.prog tabs 10 whole_Text.sig := calOk_lim' tabOk whole_Text.ck mix Tryd.func10 (by kernel_rfl) (by kernel_rfl) (by kernel_rfl) (by kernel_rfl)
noncomputable def whole_Text.e  (a0 : (Bool × (List Int))) : Option (ByteArray × Unit) :=
  (nat_Text.F (a0.2, (10 : Int), ())).bind fun y1 =>
  (whole_Sign.F ((a0.1, a0.2), ())).bind fun y2 =>
  let v3 := decide (y2.1 < (0 : Int))
  bif v3 then (bif decide ((⟨#[45]⟩ : ByteArray).size + y1.1.size ≤ 9223372036854775807) then (let v4 := (⟨#[45]⟩ : ByteArray) ++ y1.1
  some (v4, ()))
  else none)
  else (some (y1.1, ()))
theorem whole_Text.eval (k : Nat) (a0 : (Bool × (List Int))) : evalF whole_Text.spec whole_Text.cals T Tryd.f10 k (a0, ()) = whole_Text.e  a0 := by kernel_rfl
theorem whole_Text.F_eq (a0 : (Bool × (List Int))) : whole_Text.F (a0, ()) = limF whole_Text.spec whole_Text.cals T Tryd.f10 (a0, ()) := by kernel_rfl
theorem whole_Text.of (k : Nat) (a0 : (Bool × (List Int))) {y : ByteArray × Unit} (h : whole_Text.e  a0 = some y) : whole_Text.F (a0, ()) = some y := (whole_Text.F_eq a0).trans (limF_of (q := whole_Text.spec) (C := whole_Text.cals) (T := T) (f := Tryd.f10) (x := (a0, ())) (y := y) k ((whole_Text.eval k a0).trans h))

/-! ### fulcrum/fulcrumref01.tenth -/
def fulcrumref01_tenth.spec : Spec := ⟨[(false, (.sl 50 (.int .u32))), (false, (.int .i64))], [(false, (.sl 50 (.int .u32))), (false, (.int .i64))], .own, fun j => match j with | 4 => [(0, .lf (.z 50 (.int .u32) false)), (1, .lf (.v false)), (6, .lf (.o 50 (.int .u32) true)), (7, .lf (.v true)), (8, .lf (.v true))] | _ => []⟩
noncomputable def fulcrumref01_tenth.cals : Cals := (Cals.cons 25 fulcrumref01_Norm.sig (Cals.base tabs))
noncomputable def fulcrumref01_tenth.sig : Sig := fulcrumref01_tenth.spec.sig fulcrumref01_tenth.cals T Tryd.f39
noncomputable def fulcrumref01_tenth.F (x : (List Int) × Int × Unit) : Option ((List Int) × Int × Unit) := limF fulcrumref01_tenth.spec fulcrumref01_tenth.cals T Tryd.f39 x
theorem fulcrumref01_tenth.ck : CalsOk Tryd.prog fulcrumref01_tenth.cals := (CalsOk.cons fulcrumref01_Norm.cal (CalsOk.base tabsOk))
theorem fulcrumref01_tenth.cal : CalOk Tryd.prog tabs 39 fulcrumref01_tenth.sig := calOk_lim' tabOk fulcrumref01_tenth.ck mix Tryd.func39 (by kernel_rfl) (by kernel_rfl) (by kernel_rfl) (by kernel_rfl)
def fulcrumref01_tenth.m4 (x0 : (List Int)) (x1 : Int) (x6 : (List Int)) (x7 : Int) (x8 : Int) : S := ⟨[(0, .one (.lf (.val false (.sl 50 (.int .u32)) x0))), (1, .one (.lf (.val false (.int .i64) x1))), (6, .one (.lf (.own 0))), (7, .one (.lf (.val true (.int .u64) x7))), (8, .one (.lf (.val true (.int .i64) x8)))], ⟨[some ⟨50, (.int .u32), true, true, x6⟩], []⟩⟩
noncomputable def fulcrumref01_tenth.b4 (f4 : (List Int) → Int → (List Int) → Int → Int → Option ((List Int) × Int × Unit)) (x0 : (List Int)) (x1 : Int) (x6 : (List Int)) (x7 : Int) (x8 : Int) : Option ((List Int) × Int × Unit) :=
  let v1 := decide (x8 ≥ (0 : Int))
  bif v1 then (bif decide ((32 : Int) < 0) then none
  else (let v2 := shlI .u64 x7 (32 : Int)
  bif decide (0 ≤ x8) && decide (x8 < (List.length x0 : Int)) then (let v3 := List.getD x0 (Int.toNat x8) (0 : Int)
  let v4 := IntKind.u64.wrap v3
  let v5 := bitsOp .or .u64 v2 v4
  let v6 := IntKind.u64.wrap x1
  bif decide (v6 = 0) then none
  else (let v7 := IntKind.u64.wrap (Int.tdiv v5 v6)
  let v8 := IntKind.u32.wrap v7
  bif decide (0 ≤ x8) && decide (x8 < (List.length x6 : Int)) then (let v9 := List.set x6 (Int.toNat x8) v8
  let v10 := IntKind.u64.wrap x1
  bif decide (v10 = 0) then none
  else (let v11 := Int.tmod v5 v10
  let v12 := IntKind.i64.wrap (x8 - (1 : Int))
  f4 x0 x1 v9 v11 v12))
  else none))
  else none))
  else ((fulcrumref01_Norm.F (x6, ())).bind fun y13 =>
  let v14 := IntKind.i64.wrap x7
  some (y13.1, v14, ()))
noncomputable def fulcrumref01_tenth.e (f4 : (List Int) → Int → (List Int) → Int → Int → Option ((List Int) × Int × Unit)) (a0 : (List Int)) (a1 : Int) : Option ((List Int) × Int × Unit) :=
  let v1 := (List.length a0 : Int)
  bif decide (0 ≤ v1) && (decide (v1 ≤ v1) && (decide (Int.toNat v1 * 4 ≤ 281474976710656) && Nat.blt 0 4)) then (let v2 := List.replicate (Int.toNat v1) (0 : Int)
  let v3 := (List.length a0 : Int)
  let v4 := IntKind.i64.wrap (v3 - (1 : Int))
  f4 a0 a1 v2 (0 : Int) v4)
  else none
noncomputable def fulcrumref01_tenth.L4 (k : Nat) (x0 : (List Int)) (x1 : Int) (x6 : (List Int)) (x7 : Int) (x8 : Int) : Option ((List Int) × Int × Unit) := heads (fulcrumref01_tenth.spec.env fulcrumref01_tenth.cals T Tryd.f39) (Func.pts Tryd.f39) k 4 (fulcrumref01_tenth.m4 x0 x1 x6 x7 x8)
theorem fulcrumref01_tenth.L4_succ (k : Nat) (x0 : (List Int)) (x1 : Int) (x6 : (List Int)) (x7 : Int) (x8 : Int) : fulcrumref01_tenth.L4 (k + 1) x0 x1 x6 x7 x8 = fulcrumref01_tenth.b4 (fulcrumref01_tenth.L4 k) x0 x1 x6 x7 x8 := by kernel_rfl
theorem fulcrumref01_tenth.L4_zero (x0 : (List Int)) (x1 : Int) (x6 : (List Int)) (x7 : Int) (x8 : Int) : fulcrumref01_tenth.L4 0 x0 x1 x6 x7 x8 = none := by kernel_rfl
theorem fulcrumref01_tenth.eval (k : Nat) (a0 : (List Int)) (a1 : Int) : evalF fulcrumref01_tenth.spec fulcrumref01_tenth.cals T Tryd.f39 k (a0, a1, ()) = fulcrumref01_tenth.e (fulcrumref01_tenth.L4 k) a0 a1 := by kernel_rfl
theorem fulcrumref01_tenth.F_eq (a0 : (List Int)) (a1 : Int) : fulcrumref01_tenth.F (a0, a1, ()) = limF fulcrumref01_tenth.spec fulcrumref01_tenth.cals T Tryd.f39 (a0, a1, ()) := by kernel_rfl
theorem fulcrumref01_tenth.of (k : Nat) (a0 : (List Int)) (a1 : Int) {y : (List Int) × Int × Unit} (h : fulcrumref01_tenth.e (fulcrumref01_tenth.L4 k) a0 a1 = some y) : fulcrumref01_tenth.F (a0, a1, ()) = some y := (fulcrumref01_tenth.F_eq a0 a1).trans (limF_of (q := fulcrumref01_tenth.spec) (C := fulcrumref01_tenth.cals) (T := T) (f := Tryd.f39) (x := (a0, a1, ())) (y := y) k ((fulcrumref01_tenth.eval k a0 a1).trans h))

/-! ### fulcrum/fulcrumref01.Text -/
def fulcrumref01_Text.spec : Spec := ⟨[(false, (.sl 50 (.int .u32))), (false, (.int .i64))], [(false, .str), (false, (.int .i64))], .own, fun j => match j with | 5 => [(0, .lf (.o 50 (.int .u32) true)), (1, .lf (.v false)), (6, .lf (.o 5 (.int .u8) true))] | 13 => [(6, .lf (.o 5 (.int .u8) true)), (8, .lf (.o 5 (.int .u8) true)), (9, .lf (.v true))] | _ => []⟩
noncomputable def fulcrumref01_Text.cals : Cals := (Cals.cons 25 fulcrumref01_Norm.sig (Cals.cons 39 fulcrumref01_tenth.sig (Cals.base tabs)))
noncomputable def fulcrumref01_Text.sig : Sig := fulcrumref01_Text.spec.sig fulcrumref01_Text.cals T Tryd.f24
noncomputable def fulcrumref01_Text.F (x : (List Int) × Int × Unit) : Option (ByteArray × Int × Unit) := limF fulcrumref01_Text.spec fulcrumref01_Text.cals T Tryd.f24 x
theorem fulcrumref01_Text.ck : CalsOk Tryd.prog fulcrumref01_Text.cals := (CalsOk.cons fulcrumref01_Norm.cal (CalsOk.cons fulcrumref01_tenth.cal (CalsOk.base tabsOk)))
theorem fulcrumref01_Text.cal : CalOk Tryd.prog tabs 24 fulcrumref01_Text.sig := calOk_lim' tabOk fulcrumref01_Text.ck mix Tryd.func24 (by kernel_rfl) (by kernel_rfl) (by kernel_rfl) (by kernel_rfl)
def fulcrumref01_Text.m5 (x0 : (List Int)) (x1 : Int) (x6 : (List Int)) : S := ⟨[(0, .one (.lf (.own 0))), (1, .one (.lf (.val false (.int .i64) x1))), (6, .one (.lf (.own 1)))], ⟨[some ⟨50, (.int .u32), true, true, x0⟩, some ⟨5, (.int .u8), true, true, x6⟩], []⟩⟩
def fulcrumref01_Text.m13 (x6 : (List Int)) (x8 : (List Int)) (x9 : Int) : S := ⟨[(6, .one (.lf (.own 0))), (8, .one (.lf (.own 1))), (9, .one (.lf (.val true (.int .i64) x9)))], ⟨[some ⟨5, (.int .u8), true, true, x6⟩, some ⟨5, (.int .u8), true, true, x8⟩], []⟩⟩
noncomputable def fulcrumref01_Text.b5 (f5 : (List Int) → Int → (List Int) → Option (ByteArray × Int × Unit)) (f13 : (List Int) → (List Int) → Int → Option (ByteArray × Int × Unit)) (x0 : (List Int)) (x1 : Int) (x6 : (List Int)) : Option (ByteArray × Int × Unit) :=
  let v1 := (List.length x0 : Int)
  let v2 := decide (v1 > (0 : Int))
  bif v2 then ((fulcrumref01_tenth.F (x0, x1, ())).bind fun y3 =>
  bif decide (0 ≤ y3.2.1) && decide (y3.2.1 < (ByteArray.size (⟨#[48, 49, 50, 51, 52, 53, 54, 55, 56, 57, 97, 98, 99, 100, 101, 102]⟩ : ByteArray) : Int)) then (let v4 := btI (⟨#[48, 49, 50, 51, 52, 53, 54, 55, 56, 57, 97, 98, 99, 100, 101, 102]⟩ : ByteArray) y3.2.1
  let v5 := ([v4] : List Int)
  bif decide (List.length x6 + List.length v5 < 140737488355328) then (let v6 := List.append x6 v5
  f5 y3.1 x1 v6)
  else none)
  else none)
  else (let v7 := (List.length x6 : Int)
  let v8 := (v7 == (0 : Int))
  bif v8 then (some ((⟨#[48]⟩ : ByteArray), (0 : Int), ()))
  else (let v9 := (List.length x6 : Int)
  bif decide (0 ≤ v9) && (decide (v9 ≤ v9) && (decide (Int.toNat v9 * 1 ≤ 281474976710656) && Nat.blt 0 1)) then (let v10 := List.replicate (Int.toNat v9) (0 : Int)
  f13 x6 v10 (0 : Int))
  else none))
noncomputable def fulcrumref01_Text.b13 (f5 : (List Int) → Int → (List Int) → Option (ByteArray × Int × Unit)) (f13 : (List Int) → (List Int) → Int → Option (ByteArray × Int × Unit)) (x6 : (List Int)) (x8 : (List Int)) (x9 : Int) : Option (ByteArray × Int × Unit) :=
  let v1 := (List.length x6 : Int)
  let v2 := decide (x9 < v1)
  bif v2 then (let v3 := (List.length x6 : Int)
  let v4 := IntKind.i64.wrap (v3 - (1 : Int))
  let v5 := IntKind.i64.wrap (v4 - x9)
  bif decide (0 ≤ x9) && decide (x9 < (List.length x6 : Int)) then (let v6 := List.getD x6 (Int.toNat x9) (0 : Int)
  bif decide (0 ≤ v5) && decide (v5 < (List.length x8 : Int)) then (let v7 := List.set x8 (Int.toNat v5) v6
  let v8 := IntKind.i64.wrap (x9 + (1 : Int))
  f13 x6 v7 v8)
  else none)
  else none)
  else (let v9 := strOfNums x8
  some (v9, (0 : Int), ()))
noncomputable def fulcrumref01_Text.e (f5 : (List Int) → Int → (List Int) → Option (ByteArray × Int × Unit)) (f13 : (List Int) → (List Int) → Int → Option (ByteArray × Int × Unit)) (a0 : (List Int)) (a1 : Int) : Option (ByteArray × Int × Unit) :=
  let v1 := decide (a1 < (2 : Int))
  bif v1 then (some ((⟨#[]⟩ : ByteArray), (14 : Int), ()))
  else (let v2 := decide (a1 > (16 : Int))
  bif v2 then (some ((⟨#[]⟩ : ByteArray), (14 : Int), ()))
  else ((fulcrumref01_Norm.F (a0, ())).bind fun y3 =>
  let v4 := ([] : List Int)
  f5 y3.1 a1 v4))
noncomputable def fulcrumref01_Text.L5 (k : Nat) (x0 : (List Int)) (x1 : Int) (x6 : (List Int)) : Option (ByteArray × Int × Unit) := heads (fulcrumref01_Text.spec.env fulcrumref01_Text.cals T Tryd.f24) (Func.pts Tryd.f24) k 5 (fulcrumref01_Text.m5 x0 x1 x6)
noncomputable def fulcrumref01_Text.L13 (k : Nat) (x6 : (List Int)) (x8 : (List Int)) (x9 : Int) : Option (ByteArray × Int × Unit) := heads (fulcrumref01_Text.spec.env fulcrumref01_Text.cals T Tryd.f24) (Func.pts Tryd.f24) k 13 (fulcrumref01_Text.m13 x6 x8 x9)
theorem fulcrumref01_Text.L5_succ (k : Nat) (x0 : (List Int)) (x1 : Int) (x6 : (List Int)) : fulcrumref01_Text.L5 (k + 1) x0 x1 x6 = fulcrumref01_Text.b5 (fulcrumref01_Text.L5 k) (fulcrumref01_Text.L13 k) x0 x1 x6 := by kernel_rfl
theorem fulcrumref01_Text.L5_zero (x0 : (List Int)) (x1 : Int) (x6 : (List Int)) : fulcrumref01_Text.L5 0 x0 x1 x6 = none := by kernel_rfl
theorem fulcrumref01_Text.L13_succ (k : Nat) (x6 : (List Int)) (x8 : (List Int)) (x9 : Int) : fulcrumref01_Text.L13 (k + 1) x6 x8 x9 = fulcrumref01_Text.b13 (fulcrumref01_Text.L5 k) (fulcrumref01_Text.L13 k) x6 x8 x9 := by kernel_rfl
theorem fulcrumref01_Text.L13_zero (x6 : (List Int)) (x8 : (List Int)) (x9 : Int) : fulcrumref01_Text.L13 0 x6 x8 x9 = none := by kernel_rfl
theorem fulcrumref01_Text.eval (k : Nat) (a0 : (List Int)) (a1 : Int) : evalF fulcrumref01_Text.spec fulcrumref01_Text.cals T Tryd.f24 k (a0, a1, ()) = fulcrumref01_Text.e (fulcrumref01_Text.L5 k) (fulcrumref01_Text.L13 k) a0 a1 := by kernel_rfl
theorem fulcrumref01_Text.F_eq (a0 : (List Int)) (a1 : Int) : fulcrumref01_Text.F (a0, a1, ()) = limF fulcrumref01_Text.spec fulcrumref01_Text.cals T Tryd.f24 (a0, a1, ()) := by kernel_rfl
theorem fulcrumref01_Text.of (k : Nat) (a0 : (List Int)) (a1 : Int) {y : ByteArray × Int × Unit} (h : fulcrumref01_Text.e (fulcrumref01_Text.L5 k) (fulcrumref01_Text.L13 k) a0 a1 = some y) : fulcrumref01_Text.F (a0, a1, ()) = some y := (fulcrumref01_Text.F_eq a0 a1).trans (limF_of (q := fulcrumref01_Text.spec) (C := fulcrumref01_Text.cals) (T := T) (f := Tryd.f24) (x := (a0, a1, ())) (y := y) k ((fulcrumref01_Text.eval k a0 a1).trans h))

/-! ### fulcrum/fulcrumref02.Norm -/
def fulcrumref02_Norm.spec : Spec := ⟨[(true, (.prod .bool (.sl 50 (.int .u32))))], [(true, (.prod .bool (.sl 50 (.int .u32))))], .own, fun j => match j with  | _ => []⟩
noncomputable def fulcrumref02_Norm.cals : Cals := (Cals.cons 20 fulcrumref02_made.sig (Cals.base tabs))
noncomputable def fulcrumref02_Norm.sig : Sig := fulcrumref02_Norm.spec.sig fulcrumref02_Norm.cals T Tryd.f40
noncomputable def fulcrumref02_Norm.F (x : (Bool × (List Int)) × Unit) : Option ((Bool × (List Int)) × Unit) := limF fulcrumref02_Norm.spec fulcrumref02_Norm.cals T Tryd.f40 x
theorem fulcrumref02_Norm.ck : CalsOk Tryd.prog fulcrumref02_Norm.cals := (CalsOk.cons fulcrumref02_made.cal (CalsOk.base tabsOk))
theorem fulcrumref02_Norm.cal : CalOk Tryd.prog tabs 40 fulcrumref02_Norm.sig := calOk_lim' tabOk fulcrumref02_Norm.ck mix Tryd.func40 (by kernel_rfl) (by kernel_rfl) (by kernel_rfl) (by kernel_rfl)
noncomputable def fulcrumref02_Norm.e  (a0 : (Bool × (List Int))) : Option ((Bool × (List Int)) × Unit) :=
  (fulcrumref02_made.F (a0.1, a0.2, ())).bind fun y1 =>
  some ((y1.1.1, y1.1.2), ())
theorem fulcrumref02_Norm.eval (k : Nat) (a0 : (Bool × (List Int))) : evalF fulcrumref02_Norm.spec fulcrumref02_Norm.cals T Tryd.f40 k (a0, ()) = fulcrumref02_Norm.e  a0 := by kernel_rfl
theorem fulcrumref02_Norm.F_eq (a0 : (Bool × (List Int))) : fulcrumref02_Norm.F (a0, ()) = limF fulcrumref02_Norm.spec fulcrumref02_Norm.cals T Tryd.f40 (a0, ()) := by kernel_rfl
theorem fulcrumref02_Norm.of (k : Nat) (a0 : (Bool × (List Int))) {y : (Bool × (List Int)) × Unit} (h : fulcrumref02_Norm.e  a0 = some y) : fulcrumref02_Norm.F (a0, ()) = some y := (fulcrumref02_Norm.F_eq a0).trans (limF_of (q := fulcrumref02_Norm.spec) (C := fulcrumref02_Norm.cals) (T := T) (f := Tryd.f40) (x := (a0, ())) (y := y) k ((fulcrumref02_Norm.eval k a0).trans h))

/-! ### fulcrum/fulcrumref02.Sign -/
def fulcrumref02_Sign.spec : Spec := ⟨[(true, (.prod .bool (.sl 50 (.int .u32))))], [(false, (.int .i64))], .own, fun j => match j with  | _ => []⟩
noncomputable def fulcrumref02_Sign.cals : Cals := (Cals.cons 40 fulcrumref02_Norm.sig (Cals.base tabs))
noncomputable def fulcrumref02_Sign.sig : Sig := fulcrumref02_Sign.spec.sig fulcrumref02_Sign.cals T Tryd.f26
noncomputable def fulcrumref02_Sign.F (x : (Bool × (List Int)) × Unit) : Option (Int × Unit) := limF fulcrumref02_Sign.spec fulcrumref02_Sign.cals T Tryd.f26 x
theorem fulcrumref02_Sign.ck : CalsOk Tryd.prog fulcrumref02_Sign.cals := (CalsOk.cons fulcrumref02_Norm.cal (CalsOk.base tabsOk))
theorem fulcrumref02_Sign.cal : CalOk Tryd.prog tabs 26 fulcrumref02_Sign.sig := calOk_lim' tabOk fulcrumref02_Sign.ck mix Tryd.func26 (by kernel_rfl) (by kernel_rfl) (by kernel_rfl) (by kernel_rfl)
noncomputable def fulcrumref02_Sign.e  (a0 : (Bool × (List Int))) : Option (Int × Unit) :=
  (fulcrumref02_Norm.F ((a0.1, a0.2), ())).bind fun y1 =>
  bif y1.1.1 then (some ((-1 : Int), ()))
  else (let v2 := (List.length y1.1.2 : Int)
  let v3 := decide (v2 > (0 : Int))
  bif v3 then (some ((1 : Int), ()))
  else (some ((0 : Int), ())))
theorem fulcrumref02_Sign.eval (k : Nat) (a0 : (Bool × (List Int))) : evalF fulcrumref02_Sign.spec fulcrumref02_Sign.cals T Tryd.f26 k (a0, ()) = fulcrumref02_Sign.e  a0 := by kernel_rfl
theorem fulcrumref02_Sign.F_eq (a0 : (Bool × (List Int))) : fulcrumref02_Sign.F (a0, ()) = limF fulcrumref02_Sign.spec fulcrumref02_Sign.cals T Tryd.f26 (a0, ()) := by kernel_rfl
theorem fulcrumref02_Sign.of (k : Nat) (a0 : (Bool × (List Int))) {y : Int × Unit} (h : fulcrumref02_Sign.e  a0 = some y) : fulcrumref02_Sign.F (a0, ()) = some y := (fulcrumref02_Sign.F_eq a0).trans (limF_of (q := fulcrumref02_Sign.spec) (C := fulcrumref02_Sign.cals) (T := T) (f := Tryd.f26) (x := (a0, ())) (y := y) k ((fulcrumref02_Sign.eval k a0).trans h))

/-! ### fulcrum/fulcrumref02.Text -/
def fulcrumref02_Text.spec : Spec := ⟨[(true, (.prod .bool (.sl 50 (.int .u32))))], [(false, .str)], .own, fun j => match j with  | _ => []⟩
noncomputable def fulcrumref02_Text.cals : Cals := (Cals.cons 25 fulcrumref01_Norm.sig (Cals.cons 24 fulcrumref01_Text.sig (Cals.cons 26 fulcrumref02_Sign.sig (Cals.base tabs))))
noncomputable def fulcrumref02_Text.sig : Sig := fulcrumref02_Text.spec.sig fulcrumref02_Text.cals T Tryd.f11
noncomputable def fulcrumref02_Text.F (x : (Bool × (List Int)) × Unit) : Option (ByteArray × Unit) := limF fulcrumref02_Text.spec fulcrumref02_Text.cals T Tryd.f11 x
theorem fulcrumref02_Text.ck : CalsOk Tryd.prog fulcrumref02_Text.cals := (CalsOk.cons fulcrumref01_Norm.cal (CalsOk.cons fulcrumref01_Text.cal (CalsOk.cons fulcrumref02_Sign.cal (CalsOk.base tabsOk))))
theorem fulcrumref02_Text.cal : CalOk Tryd.prog tabs 11 fulcrumref02_Text.sig := calOk_lim' tabOk fulcrumref02_Text.ck mix Tryd.func11 (by kernel_rfl) (by kernel_rfl) (by kernel_rfl) (by kernel_rfl)
noncomputable def fulcrumref02_Text.e  (a0 : (Bool × (List Int))) : Option (ByteArray × Unit) :=
  (fulcrumref01_Norm.F (a0.2, ())).bind fun y1 =>
  (fulcrumref01_Text.F (y1.1, (10 : Int), ())).bind fun y2 =>
  (fulcrumref02_Sign.F ((a0.1, a0.2), ())).bind fun y3 =>
  let v4 := decide (y3.1 < (0 : Int))
  bif v4 then (bif decide ((⟨#[45]⟩ : ByteArray).size + y2.1.size ≤ 9223372036854775807) then (let v5 := (⟨#[45]⟩ : ByteArray) ++ y2.1
  some (v5, ()))
  else none)
  else (some (y2.1, ()))
theorem fulcrumref02_Text.eval (k : Nat) (a0 : (Bool × (List Int))) : evalF fulcrumref02_Text.spec fulcrumref02_Text.cals T Tryd.f11 k (a0, ()) = fulcrumref02_Text.e  a0 := by kernel_rfl
theorem fulcrumref02_Text.F_eq (a0 : (Bool × (List Int))) : fulcrumref02_Text.F (a0, ()) = limF fulcrumref02_Text.spec fulcrumref02_Text.cals T Tryd.f11 (a0, ()) := by kernel_rfl
theorem fulcrumref02_Text.of (k : Nat) (a0 : (Bool × (List Int))) {y : ByteArray × Unit} (h : fulcrumref02_Text.e  a0 = some y) : fulcrumref02_Text.F (a0, ()) = some y := (fulcrumref02_Text.F_eq a0).trans (limF_of (q := fulcrumref02_Text.spec) (C := fulcrumref02_Text.cals) (T := T) (f := Tryd.f11) (x := (a0, ())) (y := y) k ((fulcrumref02_Text.eval k a0).trans h))

/-! ### fulcrum/fulcrumlaw02.WholeTexts -/
def fulcrumlaw02_WholeTexts.spec : Spec := ⟨[(true, (.prod .bool (.sl 50 (.int .u32)))), (false, .str)], [(false, .bool)], .own, fun j => match j with  | _ => []⟩
noncomputable def fulcrumlaw02_WholeTexts.cals : Cals := (Cals.cons 6 fulcrumlaw02_endless.sig (Cals.cons 7 whole_Parse.sig (Cals.cons 8 fulcrumref02_Parse.sig (Cals.cons 9 fulcrumlaw02_same.sig (Cals.cons 10 whole_Text.sig (Cals.cons 11 fulcrumref02_Text.sig (Cals.base tabs)))))))
noncomputable def fulcrumlaw02_WholeTexts.sig : Sig := fulcrumlaw02_WholeTexts.spec.sig fulcrumlaw02_WholeTexts.cals T Tryd.f3
noncomputable def fulcrumlaw02_WholeTexts.F (x : (Bool × (List Int)) × ByteArray × Unit) : Option (Bool × Unit) := limF fulcrumlaw02_WholeTexts.spec fulcrumlaw02_WholeTexts.cals T Tryd.f3 x
theorem fulcrumlaw02_WholeTexts.ck : CalsOk Tryd.prog fulcrumlaw02_WholeTexts.cals := (CalsOk.cons fulcrumlaw02_endless.cal (CalsOk.cons whole_Parse.cal (CalsOk.cons fulcrumref02_Parse.cal (CalsOk.cons fulcrumlaw02_same.cal (CalsOk.cons whole_Text.cal (CalsOk.cons fulcrumref02_Text.cal (CalsOk.base tabsOk)))))))
theorem fulcrumlaw02_WholeTexts.cal : CalOk Tryd.prog tabs 3 fulcrumlaw02_WholeTexts.sig := calOk_lim' tabOk fulcrumlaw02_WholeTexts.ck mix Tryd.func3 (by kernel_rfl) (by kernel_rfl) (by kernel_rfl) (by kernel_rfl)
noncomputable def fulcrumlaw02_WholeTexts.e  (a0 : (Bool × (List Int))) (a1 : ByteArray) : Option (Bool × Unit) :=
  (fulcrumlaw02_endless.F ((a0.1, a0.2), ())).bind fun y1 =>
  bif y1.1 then (some (true, ()))
  else ((whole_Parse.F (a1, ())).bind fun y2 =>
  (fulcrumref02_Parse.F (a1, ())).bind fun y3 =>
  let v4 := (y2.2.1 == y3.2.1)
  bif v4 then ((fulcrumlaw02_same.F ((y2.1.1, y2.1.2), (y3.1.1, y3.1.2), ())).bind fun y5 =>
  bif y5.1 then ((whole_Text.F ((a0.1, a0.2), ())).bind fun y6 =>
  (fulcrumref02_Text.F ((a0.1, a0.2), ())).bind fun y7 =>
  let v8 := (y6.1.toList == y7.1.toList)
  some (v8, ()))
  else (some (false, ())))
  else (some (false, ())))
theorem fulcrumlaw02_WholeTexts.eval (k : Nat) (a0 : (Bool × (List Int))) (a1 : ByteArray) : evalF fulcrumlaw02_WholeTexts.spec fulcrumlaw02_WholeTexts.cals T Tryd.f3 k (a0, a1, ()) = fulcrumlaw02_WholeTexts.e  a0 a1 := by kernel_rfl
theorem fulcrumlaw02_WholeTexts.F_eq (a0 : (Bool × (List Int))) (a1 : ByteArray) : fulcrumlaw02_WholeTexts.F (a0, a1, ()) = limF fulcrumlaw02_WholeTexts.spec fulcrumlaw02_WholeTexts.cals T Tryd.f3 (a0, a1, ()) := by kernel_rfl
theorem fulcrumlaw02_WholeTexts.of (k : Nat) (a0 : (Bool × (List Int))) (a1 : ByteArray) {y : Bool × Unit} (h : fulcrumlaw02_WholeTexts.e  a0 a1 = some y) : fulcrumlaw02_WholeTexts.F (a0, a1, ()) = some y := (fulcrumlaw02_WholeTexts.F_eq a0 a1).trans (limF_of (q := fulcrumlaw02_WholeTexts.spec) (C := fulcrumlaw02_WholeTexts.cals) (T := T) (f := Tryd.f3) (x := (a0, a1, ())) (y := y) k ((fulcrumlaw02_WholeTexts.eval k a0 a1).trans h))

/-! ### fulcrum/nat.Of -/
def nat_Of.spec : Spec := ⟨[(false, (.int .u64))], [(false, (.sl 50 (.int .u32)))], .own, fun j => match j with  | _ => []⟩
noncomputable def nat_Of.cals : Cals := (Cals.cons 30 nat_own.sig (Cals.base tabs))
noncomputable def nat_Of.sig : Sig := nat_Of.spec.sig nat_Of.cals T Tryd.f41
noncomputable def nat_Of.F (x : Int × Unit) : Option ((List Int) × Unit) := limF nat_Of.spec nat_Of.cals T Tryd.f41 x
theorem nat_Of.ck : CalsOk Tryd.prog nat_Of.cals := (CalsOk.cons nat_own.cal (CalsOk.base tabsOk))
theorem nat_Of.cal : CalOk Tryd.prog tabs 41 nat_Of.sig := calOk_lim' tabOk nat_Of.ck mix Tryd.func41 (by kernel_rfl) (by kernel_rfl) (by kernel_rfl) (by kernel_rfl)
noncomputable def nat_Of.e  (a0 : Int) : Option ((List Int) × Unit) :=
  let v1 := IntKind.u32.wrap a0
  bif decide ((32 : Int) < 0) then none
  else (let v2 := shrI .u64 a0 (32 : Int)
  let v3 := IntKind.u32.wrap v2
  let v4 := ([v1, v3] : List Int)
  (nat_own.F (v4, ())).bind fun y5 =>
  some (y5.1, ()))
theorem nat_Of.eval (k : Nat) (a0 : Int) : evalF nat_Of.spec nat_Of.cals T Tryd.f41 k (a0, ()) = nat_Of.e  a0 := by kernel_rfl
theorem nat_Of.F_eq (a0 : Int) : nat_Of.F (a0, ()) = limF nat_Of.spec nat_Of.cals T Tryd.f41 (a0, ()) := by kernel_rfl
theorem nat_Of.of (k : Nat) (a0 : Int) {y : (List Int) × Unit} (h : nat_Of.e  a0 = some y) : nat_Of.F (a0, ()) = some y := (nat_Of.F_eq a0).trans (limF_of (q := nat_Of.spec) (C := nat_Of.cals) (T := T) (f := Tryd.f41) (x := (a0, ())) (y := y) k ((nat_Of.eval k a0).trans h))

/-! ### fulcrum/whole.Of -/
def whole_Of.spec : Spec := ⟨[(false, (.int .i64))], [(true, (.prod .bool (.sl 50 (.int .u32))))], .own, fun j => match j with  | _ => []⟩
noncomputable def whole_Of.cals : Cals := (Cals.cons 41 nat_Of.sig (Cals.cons 18 whole_signed.sig (Cals.base tabs)))
noncomputable def whole_Of.sig : Sig := whole_Of.spec.sig whole_Of.cals T Tryd.f27
noncomputable def whole_Of.F (x : Int × Unit) : Option ((Bool × (List Int)) × Unit) := limF whole_Of.spec whole_Of.cals T Tryd.f27 x
theorem whole_Of.ck : CalsOk Tryd.prog whole_Of.cals := (CalsOk.cons nat_Of.cal (CalsOk.cons whole_signed.cal (CalsOk.base tabsOk)))
theorem whole_Of.cal : CalOk Tryd.prog tabs 27 whole_Of.sig := calOk_lim' tabOk whole_Of.ck mix Tryd.func27 (by kernel_rfl) (by kernel_rfl) (by kernel_rfl) (by kernel_rfl)
noncomputable def whole_Of.e  (a0 : Int) : Option ((Bool × (List Int)) × Unit) :=
  let v1 := decide (a0 < (0 : Int))
  bif v1 then (let v2 := IntKind.u64.wrap a0
  let v3 := negI .u64 v2
  (nat_Of.F (v3, ())).bind fun y4 =>
  let v5 := ([(-1 : Int)] : List Int)
  (whole_signed.F (y4.1, v5, ())).bind fun y6 =>
  some ((y6.1.1, y6.1.2), ()))
  else (let v7 := IntKind.u64.wrap a0
  (nat_Of.F (v7, ())).bind fun y8 =>
  (whole_signed.F (y8.1, ([] : List Int), ())).bind fun y9 =>
  some ((y9.1.1, y9.1.2), ()))
theorem whole_Of.eval (k : Nat) (a0 : Int) : evalF whole_Of.spec whole_Of.cals T Tryd.f27 k (a0, ()) = whole_Of.e  a0 := by kernel_rfl
theorem whole_Of.F_eq (a0 : Int) : whole_Of.F (a0, ()) = limF whole_Of.spec whole_Of.cals T Tryd.f27 (a0, ()) := by kernel_rfl
theorem whole_Of.of (k : Nat) (a0 : Int) {y : (Bool × (List Int)) × Unit} (h : whole_Of.e  a0 = some y) : whole_Of.F (a0, ()) = some y := (whole_Of.F_eq a0).trans (limF_of (q := whole_Of.spec) (C := whole_Of.cals) (T := T) (f := Tryd.f27) (x := (a0, ())) (y := y) k ((whole_Of.eval k a0).trans h))

/-! ### fulcrum/fulcrumlaw02.one -/
def fulcrumlaw02_one.spec : Spec := ⟨[], [(true, (.prod .bool (.sl 50 (.int .u32))))], .own, fun j => match j with  | _ => []⟩
noncomputable def fulcrumlaw02_one.cals : Cals := (Cals.cons 27 whole_Of.sig (Cals.base tabs))
noncomputable def fulcrumlaw02_one.sig : Sig := fulcrumlaw02_one.spec.sig fulcrumlaw02_one.cals T Tryd.f12
noncomputable def fulcrumlaw02_one.F (x : Unit) : Option ((Bool × (List Int)) × Unit) := limF fulcrumlaw02_one.spec fulcrumlaw02_one.cals T Tryd.f12 x
theorem fulcrumlaw02_one.ck : CalsOk Tryd.prog fulcrumlaw02_one.cals := (CalsOk.cons whole_Of.cal (CalsOk.base tabsOk))
theorem fulcrumlaw02_one.cal : CalOk Tryd.prog tabs 12 fulcrumlaw02_one.sig := calOk_lim' tabOk fulcrumlaw02_one.ck mix Tryd.func12 (by kernel_rfl) (by kernel_rfl) (by kernel_rfl) (by kernel_rfl)
noncomputable def fulcrumlaw02_one.e   : Option ((Bool × (List Int)) × Unit) :=
  (whole_Of.F ((1 : Int), ())).bind fun y1 =>
  some ((y1.1.1, y1.1.2), ())
theorem fulcrumlaw02_one.eval (k : Nat)  : evalF fulcrumlaw02_one.spec fulcrumlaw02_one.cals T Tryd.f12 k () = fulcrumlaw02_one.e   := by kernel_rfl
theorem fulcrumlaw02_one.F_eq  : fulcrumlaw02_one.F () = limF fulcrumlaw02_one.spec fulcrumlaw02_one.cals T Tryd.f12 () := by kernel_rfl
theorem fulcrumlaw02_one.of (k : Nat)  {y : (Bool × (List Int)) × Unit} (h : fulcrumlaw02_one.e   = some y) : fulcrumlaw02_one.F () = some y := (fulcrumlaw02_one.F_eq ).trans (limF_of (q := fulcrumlaw02_one.spec) (C := fulcrumlaw02_one.cals) (T := T) (f := Tryd.f12) (x := ()) (y := y) k ((fulcrumlaw02_one.eval k ).trans h))

/-! ### fulcrum/fulcrumlaw02.WholeOneText -/
def fulcrumlaw02_WholeOneText.spec : Spec := ⟨[(false, .str)], [(false, .bool)], .own, fun j => match j with  | _ => []⟩
noncomputable def fulcrumlaw02_WholeOneText.cals : Cals := (Cals.cons 7 whole_Parse.sig (Cals.cons 12 fulcrumlaw02_one.sig (Cals.cons 10 whole_Text.sig (Cals.base tabs))))
noncomputable def fulcrumlaw02_WholeOneText.sig : Sig := fulcrumlaw02_WholeOneText.spec.sig fulcrumlaw02_WholeOneText.cals T Tryd.f4
noncomputable def fulcrumlaw02_WholeOneText.F (x : ByteArray × Unit) : Option (Bool × Unit) := limF fulcrumlaw02_WholeOneText.spec fulcrumlaw02_WholeOneText.cals T Tryd.f4 x
theorem fulcrumlaw02_WholeOneText.ck : CalsOk Tryd.prog fulcrumlaw02_WholeOneText.cals := (CalsOk.cons whole_Parse.cal (CalsOk.cons fulcrumlaw02_one.cal (CalsOk.cons whole_Text.cal (CalsOk.base tabsOk))))
theorem fulcrumlaw02_WholeOneText.cal : CalOk Tryd.prog tabs 4 fulcrumlaw02_WholeOneText.sig := calOk_lim' tabOk fulcrumlaw02_WholeOneText.ck mix Tryd.func4 (by kernel_rfl) (by kernel_rfl) (by kernel_rfl) (by kernel_rfl)
noncomputable def fulcrumlaw02_WholeOneText.e  (a0 : ByteArray) : Option (Bool × Unit) :=
  (whole_Parse.F (a0, ())).bind fun y1 =>
  let v2 := (y1.2.1 != (0 : Int))
  bif v2 then (let v3 := (y1.2.1 == (15 : Int))
  bif v3 then (let v4 := (List.length y1.1.2 : Int)
  let v5 := (v4 == (0 : Int))
  bif v5 then (let v6 := not y1.1.1
  bif v6 then ((fulcrumlaw02_one.F ()).bind fun y7 =>
  (whole_Text.F ((y7.1.1, y7.1.2), ())).bind fun y8 =>
  let v9 := (y8.1.toList == (⟨#[49]⟩ : ByteArray).toList)
  some (v9, ()))
  else (some (false, ())))
  else (some (false, ())))
  else (some (false, ())))
  else ((whole_Text.F ((y1.1.1, y1.1.2), ())).bind fun y10 =>
  let v11 := (y10.1.toList == a0.toList)
  some (v11, ()))
theorem fulcrumlaw02_WholeOneText.eval (k : Nat) (a0 : ByteArray) : evalF fulcrumlaw02_WholeOneText.spec fulcrumlaw02_WholeOneText.cals T Tryd.f4 k (a0, ()) = fulcrumlaw02_WholeOneText.e  a0 := by kernel_rfl
theorem fulcrumlaw02_WholeOneText.F_eq (a0 : ByteArray) : fulcrumlaw02_WholeOneText.F (a0, ()) = limF fulcrumlaw02_WholeOneText.spec fulcrumlaw02_WholeOneText.cals T Tryd.f4 (a0, ()) := by kernel_rfl
theorem fulcrumlaw02_WholeOneText.of (k : Nat) (a0 : ByteArray) {y : Bool × Unit} (h : fulcrumlaw02_WholeOneText.e  a0 = some y) : fulcrumlaw02_WholeOneText.F (a0, ()) = some y := (fulcrumlaw02_WholeOneText.F_eq a0).trans (limF_of (q := fulcrumlaw02_WholeOneText.spec) (C := fulcrumlaw02_WholeOneText.cals) (T := T) (f := Tryd.f4) (x := (a0, ())) (y := y) k ((fulcrumlaw02_WholeOneText.eval k a0).trans h))

/-! ### fulcrum/whole.Norm -/
def whole_Norm.spec : Spec := ⟨[(true, (.prod .bool (.sl 50 (.int .u32))))], [(true, (.prod .bool (.sl 50 (.int .u32))))], .own, fun j => match j with  | _ => []⟩
noncomputable def whole_Norm.cals : Cals := (Cals.cons 23 whole_Sign.sig (Cals.cons 18 whole_signed.sig (Cals.base tabs)))
noncomputable def whole_Norm.sig : Sig := whole_Norm.spec.sig whole_Norm.cals T Tryd.f13
noncomputable def whole_Norm.F (x : (Bool × (List Int)) × Unit) : Option ((Bool × (List Int)) × Unit) := limF whole_Norm.spec whole_Norm.cals T Tryd.f13 x
theorem whole_Norm.ck : CalsOk Tryd.prog whole_Norm.cals := (CalsOk.cons whole_Sign.cal (CalsOk.cons whole_signed.cal (CalsOk.base tabsOk)))
theorem whole_Norm.cal : CalOk Tryd.prog tabs 13 whole_Norm.sig := calOk_lim' tabOk whole_Norm.ck mix Tryd.func13 (by kernel_rfl) (by kernel_rfl) (by kernel_rfl) (by kernel_rfl)
noncomputable def whole_Norm.e  (a0 : (Bool × (List Int))) : Option ((Bool × (List Int)) × Unit) :=
  (whole_Sign.F ((a0.1, a0.2), ())).bind fun y1 =>
  let v2 := ([y1.1] : List Int)
  (whole_signed.F (a0.2, v2, ())).bind fun y3 =>
  some ((y3.1.1, y3.1.2), ())
theorem whole_Norm.eval (k : Nat) (a0 : (Bool × (List Int))) : evalF whole_Norm.spec whole_Norm.cals T Tryd.f13 k (a0, ()) = whole_Norm.e  a0 := by kernel_rfl
theorem whole_Norm.F_eq (a0 : (Bool × (List Int))) : whole_Norm.F (a0, ()) = limF whole_Norm.spec whole_Norm.cals T Tryd.f13 (a0, ()) := by kernel_rfl
theorem whole_Norm.of (k : Nat) (a0 : (Bool × (List Int))) {y : (Bool × (List Int)) × Unit} (h : whole_Norm.e  a0 = some y) : whole_Norm.F (a0, ()) = some y := (whole_Norm.F_eq a0).trans (limF_of (q := whole_Norm.spec) (C := whole_Norm.cals) (T := T) (f := Tryd.f13) (x := (a0, ())) (y := y) k ((whole_Norm.eval k a0).trans h))

/-! ### math/bits.Add32 -/
def bits_Add32.spec : Spec := ⟨[(false, (.int .u32)), (false, (.int .u32)), (false, (.int .u32))], [(false, (.int .u32)), (false, (.int .u32))], .own, fun j => match j with  | _ => []⟩
noncomputable def bits_Add32.cals : Cals := (Cals.base tabs)
noncomputable def bits_Add32.sig : Sig := bits_Add32.spec.sig bits_Add32.cals T Tryd.f50
noncomputable def bits_Add32.F (x : Int × Int × Int × Unit) : Option (Int × Int × Unit) := limF bits_Add32.spec bits_Add32.cals T Tryd.f50 x
theorem bits_Add32.ck : CalsOk Tryd.prog bits_Add32.cals := (CalsOk.base tabsOk)
theorem bits_Add32.cal : CalOk Tryd.prog tabs 50 bits_Add32.sig := calOk_lim' tabOk bits_Add32.ck mix Tryd.func50 (by kernel_rfl) (by kernel_rfl) (by kernel_rfl) (by kernel_rfl)
noncomputable def bits_Add32.e  (a0 : Int) (a1 : Int) (a2 : Int) : Option (Int × Int × Unit) :=
  let v1 := IntKind.u64.wrap a0
  let v2 := IntKind.u64.wrap a1
  let v3 := IntKind.u64.wrap (v1 + v2)
  let v4 := IntKind.u64.wrap a2
  let v5 := IntKind.u64.wrap (v3 + v4)
  let v6 := IntKind.u32.wrap v5
  bif decide ((32 : Int) < 0) then none
  else (let v7 := shrI .u64 v5 (32 : Int)
  let v8 := IntKind.u32.wrap v7
  some (v6, v8, ()))
theorem bits_Add32.eval (k : Nat) (a0 : Int) (a1 : Int) (a2 : Int) : evalF bits_Add32.spec bits_Add32.cals T Tryd.f50 k (a0, a1, a2, ()) = bits_Add32.e  a0 a1 a2 := by kernel_rfl
theorem bits_Add32.F_eq (a0 : Int) (a1 : Int) (a2 : Int) : bits_Add32.F (a0, a1, a2, ()) = limF bits_Add32.spec bits_Add32.cals T Tryd.f50 (a0, a1, a2, ()) := by kernel_rfl
theorem bits_Add32.of (k : Nat) (a0 : Int) (a1 : Int) (a2 : Int) {y : Int × Int × Unit} (h : bits_Add32.e  a0 a1 a2 = some y) : bits_Add32.F (a0, a1, a2, ()) = some y := (bits_Add32.F_eq a0 a1 a2).trans (limF_of (q := bits_Add32.spec) (C := bits_Add32.cals) (T := T) (f := Tryd.f50) (x := (a0, a1, a2, ())) (y := y) k ((bits_Add32.eval k a0 a1 a2).trans h))

/-! ### fulcrum/nat.Add -/
def nat_Add.spec : Spec := ⟨[(false, (.sl 50 (.int .u32))), (false, (.sl 50 (.int .u32)))], [(false, (.sl 50 (.int .u32)))], .own, fun j => match j with | 6 => [(0, .lf (.z 50 (.int .u32) false)), (1, .lf (.z 50 (.int .u32) false)), (5, .lf (.o 50 (.int .u32) true)), (6, .lf (.v true)), (21, .lf (.v true)), (22, .lf (.v true))] | _ => []⟩
noncomputable def nat_Add.cals : Cals := (Cals.cons 50 bits_Add32.sig (Cals.cons 30 nat_own.sig (Cals.base tabs)))
noncomputable def nat_Add.sig : Sig := nat_Add.spec.sig nat_Add.cals T Tryd.f47
noncomputable def nat_Add.F (x : (List Int) × (List Int) × Unit) : Option ((List Int) × Unit) := limF nat_Add.spec nat_Add.cals T Tryd.f47 x
theorem nat_Add.ck : CalsOk Tryd.prog nat_Add.cals := (CalsOk.cons bits_Add32.cal (CalsOk.cons nat_own.cal (CalsOk.base tabsOk)))
theorem nat_Add.cal : CalOk Tryd.prog tabs 47 nat_Add.sig := calOk_lim' tabOk nat_Add.ck mix Tryd.func47 (by kernel_rfl) (by kernel_rfl) (by kernel_rfl) (by kernel_rfl)
def nat_Add.m6 (x0 : (List Int)) (x1 : (List Int)) (x5 : (List Int)) (x6 : Int) (x21 : Int) (x22 : Int) : S := ⟨[(0, .one (.lf (.val false (.sl 50 (.int .u32)) x0))), (1, .one (.lf (.val false (.sl 50 (.int .u32)) x1))), (5, .one (.lf (.own 0))), (6, .one (.lf (.val true (.int .u32) x6))), (21, .one (.lf (.val true (.int .i64) x21))), (22, .one (.lf (.val true (.int .i64) x22)))], ⟨[some ⟨50, (.int .u32), true, true, x5⟩], []⟩⟩
noncomputable def nat_Add.b6 (f6 : (List Int) → (List Int) → (List Int) → Int → Int → Int → Option ((List Int) × Unit)) (x0 : (List Int)) (x1 : (List Int)) (x5 : (List Int)) (x6 : Int) (x21 : Int) (x22 : Int) : Option ((List Int) × Unit) :=
  let v1 := decide (x22 < x21)
  bif v1 then (let v2 := (List.length x1 : Int)
  let v3 := decide (x22 < v2)
  bif v3 then (bif decide (0 ≤ x22) && decide (x22 < (List.length x1 : Int)) then (let v4 := List.getD x1 (Int.toNat x22) (0 : Int)
  bif decide (0 ≤ x22) && decide (x22 < (List.length x0 : Int)) then (let v5 := List.getD x0 (Int.toNat x22) (0 : Int)
  (bits_Add32.F (v5, v4, x6, ())).bind fun y6 =>
  bif decide (0 ≤ x22) && decide (x22 < (List.length x5 : Int)) then (let v7 := List.set x5 (Int.toNat x22) y6.1
  let v8 := IntKind.i64.wrap (x22 + (1 : Int))
  f6 x0 x1 v7 y6.2.1 x21 v8)
  else none)
  else none)
  else none)
  else (bif decide (0 ≤ x22) && decide (x22 < (List.length x0 : Int)) then (let v9 := List.getD x0 (Int.toNat x22) (0 : Int)
  (bits_Add32.F (v9, (0 : Int), x6, ())).bind fun y10 =>
  bif decide (0 ≤ x22) && decide (x22 < (List.length x5 : Int)) then (let v11 := List.set x5 (Int.toNat x22) y10.1
  let v12 := IntKind.i64.wrap (x22 + (1 : Int))
  f6 x0 x1 v11 y10.2.1 x21 v12)
  else none)
  else none))
  else (let v13 := (List.length x0 : Int)
  bif decide (0 ≤ v13) && decide (v13 < (List.length x5 : Int)) then (let v14 := List.set x5 (Int.toNat v13) x6
  (nat_own.F (v14, ())).bind fun y15 =>
  some (y15.1, ()))
  else none)
noncomputable def nat_Add.e (f6 : (List Int) → (List Int) → (List Int) → Int → Int → Int → Option ((List Int) × Unit)) (a0 : (List Int)) (a1 : (List Int)) : Option ((List Int) × Unit) :=
  let v1 := (List.length a0 : Int)
  let v2 := (List.length a1 : Int)
  let v3 := decide (v1 < v2)
  bif v3 then (let v4 := (List.length a1 : Int)
  let v5 := IntKind.i64.wrap (v4 + (1 : Int))
  bif decide (0 ≤ v5) && (decide (v5 ≤ v5) && (decide (Int.toNat v5 * 4 ≤ 281474976710656) && Nat.blt 0 4)) then (let v6 := List.replicate (Int.toNat v5) (0 : Int)
  let v7 := (List.length a1 : Int)
  f6 a1 a0 v6 (0 : Int) v7 (0 : Int))
  else none)
  else (let v8 := (List.length a0 : Int)
  let v9 := IntKind.i64.wrap (v8 + (1 : Int))
  bif decide (0 ≤ v9) && (decide (v9 ≤ v9) && (decide (Int.toNat v9 * 4 ≤ 281474976710656) && Nat.blt 0 4)) then (let v10 := List.replicate (Int.toNat v9) (0 : Int)
  let v11 := (List.length a0 : Int)
  f6 a0 a1 v10 (0 : Int) v11 (0 : Int))
  else none)
noncomputable def nat_Add.L6 (k : Nat) (x0 : (List Int)) (x1 : (List Int)) (x5 : (List Int)) (x6 : Int) (x21 : Int) (x22 : Int) : Option ((List Int) × Unit) := heads (nat_Add.spec.env nat_Add.cals T Tryd.f47) (Func.pts Tryd.f47) k 6 (nat_Add.m6 x0 x1 x5 x6 x21 x22)
theorem nat_Add.L6_succ (k : Nat) (x0 : (List Int)) (x1 : (List Int)) (x5 : (List Int)) (x6 : Int) (x21 : Int) (x22 : Int) : nat_Add.L6 (k + 1) x0 x1 x5 x6 x21 x22 = nat_Add.b6 (nat_Add.L6 k) x0 x1 x5 x6 x21 x22 := by kernel_rfl
theorem nat_Add.L6_zero (x0 : (List Int)) (x1 : (List Int)) (x5 : (List Int)) (x6 : Int) (x21 : Int) (x22 : Int) : nat_Add.L6 0 x0 x1 x5 x6 x21 x22 = none := by kernel_rfl
theorem nat_Add.eval (k : Nat) (a0 : (List Int)) (a1 : (List Int)) : evalF nat_Add.spec nat_Add.cals T Tryd.f47 k (a0, a1, ()) = nat_Add.e (nat_Add.L6 k) a0 a1 := by kernel_rfl
theorem nat_Add.F_eq (a0 : (List Int)) (a1 : (List Int)) : nat_Add.F (a0, a1, ()) = limF nat_Add.spec nat_Add.cals T Tryd.f47 (a0, a1, ()) := by kernel_rfl
theorem nat_Add.of (k : Nat) (a0 : (List Int)) (a1 : (List Int)) {y : (List Int) × Unit} (h : nat_Add.e (nat_Add.L6 k) a0 a1 = some y) : nat_Add.F (a0, a1, ()) = some y := (nat_Add.F_eq a0 a1).trans (limF_of (q := nat_Add.spec) (C := nat_Add.cals) (T := T) (f := Tryd.f47) (x := (a0, a1, ())) (y := y) k ((nat_Add.eval k a0 a1).trans h))

/-! ### fulcrum/nat.Cmp -/
def nat_Cmp.spec : Spec := ⟨[(false, (.sl 50 (.int .u32))), (false, (.sl 50 (.int .u32)))], [(false, (.int .i64))], .own, fun j => match j with | 7 => [(0, .lf (.z 50 (.int .u32) false)), (1, .lf (.z 50 (.int .u32) false)), (5, .lf (.v true))] | _ => []⟩
noncomputable def nat_Cmp.cals : Cals := (Cals.cons 37 nat_trim.sig (Cals.base tabs))
noncomputable def nat_Cmp.sig : Sig := nat_Cmp.spec.sig nat_Cmp.cals T Tryd.f48
noncomputable def nat_Cmp.F (x : (List Int) × (List Int) × Unit) : Option (Int × Unit) := limF nat_Cmp.spec nat_Cmp.cals T Tryd.f48 x
theorem nat_Cmp.ck : CalsOk Tryd.prog nat_Cmp.cals := (CalsOk.cons nat_trim.cal (CalsOk.base tabsOk))
theorem nat_Cmp.cal : CalOk Tryd.prog tabs 48 nat_Cmp.sig := calOk_lim' tabOk nat_Cmp.ck mix Tryd.func48 (by kernel_rfl) (by kernel_rfl) (by kernel_rfl) (by kernel_rfl)
def nat_Cmp.m7 (x0 : (List Int)) (x1 : (List Int)) (x5 : Int) : S := ⟨[(0, .one (.lf (.val false (.sl 50 (.int .u32)) x0))), (1, .one (.lf (.val false (.sl 50 (.int .u32)) x1))), (5, .one (.lf (.val true (.int .i64) x5)))], ⟨[], []⟩⟩
noncomputable def nat_Cmp.b7 (f7 : (List Int) → (List Int) → Int → Option (Int × Unit)) (x0 : (List Int)) (x1 : (List Int)) (x5 : Int) : Option (Int × Unit) :=
  let v1 := decide (x5 ≥ (0 : Int))
  bif v1 then (bif decide (0 ≤ x5) && decide (x5 < (List.length x0 : Int)) then (let v2 := List.getD x0 (Int.toNat x5) (0 : Int)
  bif decide (0 ≤ x5) && decide (x5 < (List.length x1 : Int)) then (let v3 := List.getD x1 (Int.toNat x5) (0 : Int)
  let v4 := (v2 != v3)
  bif v4 then (bif decide (0 ≤ x5) && decide (x5 < (List.length x0 : Int)) then (let v5 := List.getD x0 (Int.toNat x5) (0 : Int)
  bif decide (0 ≤ x5) && decide (x5 < (List.length x1 : Int)) then (let v6 := List.getD x1 (Int.toNat x5) (0 : Int)
  let v7 := decide (v5 < v6)
  bif v7 then (some ((-1 : Int), ()))
  else (some ((1 : Int), ())))
  else none)
  else none)
  else (let v8 := IntKind.i64.wrap (x5 - (1 : Int))
  f7 x0 x1 v8))
  else none)
  else none)
  else (some ((0 : Int), ()))
noncomputable def nat_Cmp.e (f7 : (List Int) → (List Int) → Int → Option (Int × Unit)) (a0 : (List Int)) (a1 : (List Int)) : Option (Int × Unit) :=
  (nat_trim.F (a0, ())).bind fun y1 =>
  (nat_trim.F (a1, ())).bind fun y2 =>
  let v3 := (List.length y1.1 : Int)
  let v4 := (List.length y2.1 : Int)
  let v5 := (v3 != v4)
  bif v5 then (let v6 := (List.length y1.1 : Int)
  let v7 := (List.length y2.1 : Int)
  let v8 := decide (v6 < v7)
  bif v8 then (some ((-1 : Int), ()))
  else (some ((1 : Int), ())))
  else (let v9 := (List.length y1.1 : Int)
  let v10 := IntKind.i64.wrap (v9 - (1 : Int))
  f7 y1.1 y2.1 v10)
noncomputable def nat_Cmp.L7 (k : Nat) (x0 : (List Int)) (x1 : (List Int)) (x5 : Int) : Option (Int × Unit) := heads (nat_Cmp.spec.env nat_Cmp.cals T Tryd.f48) (Func.pts Tryd.f48) k 7 (nat_Cmp.m7 x0 x1 x5)
theorem nat_Cmp.L7_succ (k : Nat) (x0 : (List Int)) (x1 : (List Int)) (x5 : Int) : nat_Cmp.L7 (k + 1) x0 x1 x5 = nat_Cmp.b7 (nat_Cmp.L7 k) x0 x1 x5 := by kernel_rfl
theorem nat_Cmp.L7_zero (x0 : (List Int)) (x1 : (List Int)) (x5 : Int) : nat_Cmp.L7 0 x0 x1 x5 = none := by kernel_rfl
theorem nat_Cmp.eval (k : Nat) (a0 : (List Int)) (a1 : (List Int)) : evalF nat_Cmp.spec nat_Cmp.cals T Tryd.f48 k (a0, a1, ()) = nat_Cmp.e (nat_Cmp.L7 k) a0 a1 := by kernel_rfl
theorem nat_Cmp.F_eq (a0 : (List Int)) (a1 : (List Int)) : nat_Cmp.F (a0, a1, ()) = limF nat_Cmp.spec nat_Cmp.cals T Tryd.f48 (a0, a1, ()) := by kernel_rfl
theorem nat_Cmp.of (k : Nat) (a0 : (List Int)) (a1 : (List Int)) {y : Int × Unit} (h : nat_Cmp.e (nat_Cmp.L7 k) a0 a1 = some y) : nat_Cmp.F (a0, a1, ()) = some y := (nat_Cmp.F_eq a0 a1).trans (limF_of (q := nat_Cmp.spec) (C := nat_Cmp.cals) (T := T) (f := Tryd.f48) (x := (a0, a1, ())) (y := y) k ((nat_Cmp.eval k a0 a1).trans h))

/-! ### math/bits.Sub32 -/
def bits_Sub32.spec : Spec := ⟨[(false, (.int .u32)), (false, (.int .u32)), (false, (.int .u32))], [(false, (.int .u32)), (false, (.int .u32))], .own, fun j => match j with  | _ => []⟩
noncomputable def bits_Sub32.cals : Cals := (Cals.base tabs)
noncomputable def bits_Sub32.sig : Sig := bits_Sub32.spec.sig bits_Sub32.cals T Tryd.f51
noncomputable def bits_Sub32.F (x : Int × Int × Int × Unit) : Option (Int × Int × Unit) := limF bits_Sub32.spec bits_Sub32.cals T Tryd.f51 x
theorem bits_Sub32.ck : CalsOk Tryd.prog bits_Sub32.cals := (CalsOk.base tabsOk)
theorem bits_Sub32.cal : CalOk Tryd.prog tabs 51 bits_Sub32.sig := calOk_lim' tabOk bits_Sub32.ck mix Tryd.func51 (by kernel_rfl) (by kernel_rfl) (by kernel_rfl) (by kernel_rfl)
noncomputable def bits_Sub32.e  (a0 : Int) (a1 : Int) (a2 : Int) : Option (Int × Int × Unit) :=
  let v1 := IntKind.u32.wrap (a0 - a1)
  let v2 := IntKind.u32.wrap (v1 - a2)
  let v3 := bitsOp .xor .u32 (if IntKind.u32.signed then -1 else IntKind.u32.max) a0
  let v4 := bitsOp .and .u32 v3 a1
  let v5 := bitsOp .xor .u32 a0 a1
  let v6 := bitsOp .xor .u32 (if IntKind.u32.signed then -1 else IntKind.u32.max) v5
  let v7 := bitsOp .and .u32 v6 v2
  let v8 := bitsOp .or .u32 v4 v7
  bif decide ((31 : Int) < 0) then none
  else (let v9 := shrI .u32 v8 (31 : Int)
  some (v2, v9, ()))
theorem bits_Sub32.eval (k : Nat) (a0 : Int) (a1 : Int) (a2 : Int) : evalF bits_Sub32.spec bits_Sub32.cals T Tryd.f51 k (a0, a1, a2, ()) = bits_Sub32.e  a0 a1 a2 := by kernel_rfl
theorem bits_Sub32.F_eq (a0 : Int) (a1 : Int) (a2 : Int) : bits_Sub32.F (a0, a1, a2, ()) = limF bits_Sub32.spec bits_Sub32.cals T Tryd.f51 (a0, a1, a2, ()) := by kernel_rfl
theorem bits_Sub32.of (k : Nat) (a0 : Int) (a1 : Int) (a2 : Int) {y : Int × Int × Unit} (h : bits_Sub32.e  a0 a1 a2 = some y) : bits_Sub32.F (a0, a1, a2, ()) = some y := (bits_Sub32.F_eq a0 a1 a2).trans (limF_of (q := bits_Sub32.spec) (C := bits_Sub32.cals) (T := T) (f := Tryd.f51) (x := (a0, a1, a2, ())) (y := y) k ((bits_Sub32.eval k a0 a1 a2).trans h))

/-! ### fulcrum/nat.Sub -/
def nat_Sub.spec : Spec := ⟨[(false, (.sl 50 (.int .u32))), (false, (.sl 50 (.int .u32)))], [(false, (.sl 50 (.int .u32))), (false, (.int .i64))], .own, fun j => match j with | 7 => [(0, .lf (.z 50 (.int .u32) false)), (1, .lf (.z 50 (.int .u32) false)), (6, .lf (.o 50 (.int .u32) true)), (7, .lf (.v true)), (20, .lf (.v true)), (21, .lf (.v true))] | _ => []⟩
noncomputable def nat_Sub.cals : Cals := (Cals.cons 48 nat_Cmp.sig (Cals.cons 37 nat_trim.sig (Cals.cons 51 bits_Sub32.sig (Cals.cons 30 nat_own.sig (Cals.base tabs)))))
noncomputable def nat_Sub.sig : Sig := nat_Sub.spec.sig nat_Sub.cals T Tryd.f49
noncomputable def nat_Sub.F (x : (List Int) × (List Int) × Unit) : Option ((List Int) × Int × Unit) := limF nat_Sub.spec nat_Sub.cals T Tryd.f49 x
theorem nat_Sub.ck : CalsOk Tryd.prog nat_Sub.cals := (CalsOk.cons nat_Cmp.cal (CalsOk.cons nat_trim.cal (CalsOk.cons bits_Sub32.cal (CalsOk.cons nat_own.cal (CalsOk.base tabsOk)))))
theorem nat_Sub.cal : CalOk Tryd.prog tabs 49 nat_Sub.sig := calOk_lim' tabOk nat_Sub.ck mix Tryd.func49 (by kernel_rfl) (by kernel_rfl) (by kernel_rfl) (by kernel_rfl)
def nat_Sub.m7 (x0 : (List Int)) (x1 : (List Int)) (x6 : (List Int)) (x7 : Int) (x20 : Int) (x21 : Int) : S := ⟨[(0, .one (.lf (.val false (.sl 50 (.int .u32)) x0))), (1, .one (.lf (.val false (.sl 50 (.int .u32)) x1))), (6, .one (.lf (.own 0))), (7, .one (.lf (.val true (.int .u32) x7))), (20, .one (.lf (.val true (.int .i64) x20))), (21, .one (.lf (.val true (.int .i64) x21)))], ⟨[some ⟨50, (.int .u32), true, true, x6⟩], []⟩⟩
noncomputable def nat_Sub.b7 (f7 : (List Int) → (List Int) → (List Int) → Int → Int → Int → Option ((List Int) × Int × Unit)) (x0 : (List Int)) (x1 : (List Int)) (x6 : (List Int)) (x7 : Int) (x20 : Int) (x21 : Int) : Option ((List Int) × Int × Unit) :=
  let v1 := decide (x21 < x20)
  bif v1 then (let v2 := (List.length x1 : Int)
  let v3 := decide (x21 < v2)
  bif v3 then (bif decide (0 ≤ x21) && decide (x21 < (List.length x1 : Int)) then (let v4 := List.getD x1 (Int.toNat x21) (0 : Int)
  bif decide (0 ≤ x21) && decide (x21 < (List.length x0 : Int)) then (let v5 := List.getD x0 (Int.toNat x21) (0 : Int)
  (bits_Sub32.F (v5, v4, x7, ())).bind fun y6 =>
  bif decide (0 ≤ x21) && decide (x21 < (List.length x6 : Int)) then (let v7 := List.set x6 (Int.toNat x21) y6.1
  let v8 := IntKind.i64.wrap (x21 + (1 : Int))
  f7 x0 x1 v7 y6.2.1 x20 v8)
  else none)
  else none)
  else none)
  else (bif decide (0 ≤ x21) && decide (x21 < (List.length x0 : Int)) then (let v9 := List.getD x0 (Int.toNat x21) (0 : Int)
  (bits_Sub32.F (v9, (0 : Int), x7, ())).bind fun y10 =>
  bif decide (0 ≤ x21) && decide (x21 < (List.length x6 : Int)) then (let v11 := List.set x6 (Int.toNat x21) y10.1
  let v12 := IntKind.i64.wrap (x21 + (1 : Int))
  f7 x0 x1 v11 y10.2.1 x20 v12)
  else none)
  else none))
  else ((nat_own.F (x6, ())).bind fun y13 =>
  some (y13.1, (0 : Int), ()))
noncomputable def nat_Sub.e (f7 : (List Int) → (List Int) → (List Int) → Int → Int → Int → Option ((List Int) × Int × Unit)) (a0 : (List Int)) (a1 : (List Int)) : Option ((List Int) × Int × Unit) :=
  (nat_Cmp.F (a0, a1, ())).bind fun y1 =>
  let v2 := decide (y1.1 < (0 : Int))
  bif v2 then (some (([] : List Int), (10 : Int), ()))
  else ((nat_trim.F (a1, ())).bind fun y3 =>
  let v4 := (List.length a0 : Int)
  bif decide (0 ≤ v4) && (decide (v4 ≤ v4) && (decide (Int.toNat v4 * 4 ≤ 281474976710656) && Nat.blt 0 4)) then (let v5 := List.replicate (Int.toNat v4) (0 : Int)
  let v6 := (List.length a0 : Int)
  f7 a0 y3.1 v5 (0 : Int) v6 (0 : Int))
  else none)
noncomputable def nat_Sub.L7 (k : Nat) (x0 : (List Int)) (x1 : (List Int)) (x6 : (List Int)) (x7 : Int) (x20 : Int) (x21 : Int) : Option ((List Int) × Int × Unit) := heads (nat_Sub.spec.env nat_Sub.cals T Tryd.f49) (Func.pts Tryd.f49) k 7 (nat_Sub.m7 x0 x1 x6 x7 x20 x21)
theorem nat_Sub.L7_succ (k : Nat) (x0 : (List Int)) (x1 : (List Int)) (x6 : (List Int)) (x7 : Int) (x20 : Int) (x21 : Int) : nat_Sub.L7 (k + 1) x0 x1 x6 x7 x20 x21 = nat_Sub.b7 (nat_Sub.L7 k) x0 x1 x6 x7 x20 x21 := by kernel_rfl
theorem nat_Sub.L7_zero (x0 : (List Int)) (x1 : (List Int)) (x6 : (List Int)) (x7 : Int) (x20 : Int) (x21 : Int) : nat_Sub.L7 0 x0 x1 x6 x7 x20 x21 = none := by kernel_rfl
theorem nat_Sub.eval (k : Nat) (a0 : (List Int)) (a1 : (List Int)) : evalF nat_Sub.spec nat_Sub.cals T Tryd.f49 k (a0, a1, ()) = nat_Sub.e (nat_Sub.L7 k) a0 a1 := by kernel_rfl
theorem nat_Sub.F_eq (a0 : (List Int)) (a1 : (List Int)) : nat_Sub.F (a0, a1, ()) = limF nat_Sub.spec nat_Sub.cals T Tryd.f49 (a0, a1, ()) := by kernel_rfl
theorem nat_Sub.of (k : Nat) (a0 : (List Int)) (a1 : (List Int)) {y : (List Int) × Int × Unit} (h : nat_Sub.e (nat_Sub.L7 k) a0 a1 = some y) : nat_Sub.F (a0, a1, ()) = some y := (nat_Sub.F_eq a0 a1).trans (limF_of (q := nat_Sub.spec) (C := nat_Sub.cals) (T := T) (f := Tryd.f49) (x := (a0, a1, ())) (y := y) k ((nat_Sub.eval k a0 a1).trans h))

/-! ### fulcrum/whole.Add -/
def whole_Add.spec : Spec := ⟨[(true, (.prod .bool (.sl 50 (.int .u32)))), (true, (.prod .bool (.sl 50 (.int .u32))))], [(true, (.prod .bool (.sl 50 (.int .u32))))], .own, fun j => match j with  | _ => []⟩
noncomputable def whole_Add.cals : Cals := (Cals.cons 23 whole_Sign.sig (Cals.cons 47 nat_Add.sig (Cals.cons 18 whole_signed.sig (Cals.cons 48 nat_Cmp.sig (Cals.cons 49 nat_Sub.sig (Cals.base tabs))))))
noncomputable def whole_Add.sig : Sig := whole_Add.spec.sig whole_Add.cals T Tryd.f42
noncomputable def whole_Add.F (x : (Bool × (List Int)) × (Bool × (List Int)) × Unit) : Option ((Bool × (List Int)) × Unit) := limF whole_Add.spec whole_Add.cals T Tryd.f42 x
theorem whole_Add.ck : CalsOk Tryd.prog whole_Add.cals := (CalsOk.cons whole_Sign.cal (CalsOk.cons nat_Add.cal (CalsOk.cons whole_signed.cal (CalsOk.cons nat_Cmp.cal (CalsOk.cons nat_Sub.cal (CalsOk.base tabsOk))))))
theorem whole_Add.cal : CalOk Tryd.prog tabs 42 whole_Add.sig := calOk_lim' tabOk whole_Add.ck mix Tryd.func42 (by kernel_rfl) (by kernel_rfl) (by kernel_rfl) (by kernel_rfl)
noncomputable def whole_Add.e  (a0 : (Bool × (List Int))) (a1 : (Bool × (List Int))) : Option ((Bool × (List Int)) × Unit) :=
  (whole_Sign.F ((a0.1, a0.2), ())).bind fun y1 =>
  (whole_Sign.F ((a1.1, a1.2), ())).bind fun y2 =>
  let v3 := IntKind.i64.wrap (y1.1 * y2.1)
  let v4 := decide (v3 ≥ (0 : Int))
  bif v4 then ((nat_Add.F (a0.2, a1.2, ())).bind fun y5 =>
  let v6 := bitsOp .or .i64 y1.1 y2.1
  let v7 := bitsOp .or .i64 v6 (1 : Int)
  let v8 := ([v7] : List Int)
  (whole_signed.F (y5.1, v8, ())).bind fun y9 =>
  some ((y9.1.1, y9.1.2), ()))
  else ((nat_Cmp.F (a0.2, a1.2, ())).bind fun y10 =>
  let v11 := decide (y10.1 ≥ (0 : Int))
  bif v11 then ((nat_Sub.F (a0.2, a1.2, ())).bind fun y12 =>
  let v13 := ([y1.1] : List Int)
  (whole_signed.F (y12.1, v13, ())).bind fun y14 =>
  some ((y14.1.1, y14.1.2), ()))
  else ((nat_Sub.F (a1.2, a0.2, ())).bind fun y15 =>
  let v16 := ([y2.1] : List Int)
  (whole_signed.F (y15.1, v16, ())).bind fun y17 =>
  some ((y17.1.1, y17.1.2), ())))
theorem whole_Add.eval (k : Nat) (a0 : (Bool × (List Int))) (a1 : (Bool × (List Int))) : evalF whole_Add.spec whole_Add.cals T Tryd.f42 k (a0, a1, ()) = whole_Add.e  a0 a1 := by kernel_rfl
theorem whole_Add.F_eq (a0 : (Bool × (List Int))) (a1 : (Bool × (List Int))) : whole_Add.F (a0, a1, ()) = limF whole_Add.spec whole_Add.cals T Tryd.f42 (a0, a1, ()) := by kernel_rfl
theorem whole_Add.of (k : Nat) (a0 : (Bool × (List Int))) (a1 : (Bool × (List Int))) {y : (Bool × (List Int)) × Unit} (h : whole_Add.e  a0 a1 = some y) : whole_Add.F (a0, a1, ()) = some y := (whole_Add.F_eq a0 a1).trans (limF_of (q := whole_Add.spec) (C := whole_Add.cals) (T := T) (f := Tryd.f42) (x := (a0, a1, ())) (y := y) k ((whole_Add.eval k a0 a1).trans h))

/-! ### fulcrum/whole.Neg -/
def whole_Neg.spec : Spec := ⟨[(true, (.prod .bool (.sl 50 (.int .u32))))], [(true, (.prod .bool (.sl 50 (.int .u32))))], .own, fun j => match j with  | _ => []⟩
noncomputable def whole_Neg.cals : Cals := (Cals.cons 23 whole_Sign.sig (Cals.cons 18 whole_signed.sig (Cals.base tabs)))
noncomputable def whole_Neg.sig : Sig := whole_Neg.spec.sig whole_Neg.cals T Tryd.f43
noncomputable def whole_Neg.F (x : (Bool × (List Int)) × Unit) : Option ((Bool × (List Int)) × Unit) := limF whole_Neg.spec whole_Neg.cals T Tryd.f43 x
theorem whole_Neg.ck : CalsOk Tryd.prog whole_Neg.cals := (CalsOk.cons whole_Sign.cal (CalsOk.cons whole_signed.cal (CalsOk.base tabsOk)))
theorem whole_Neg.cal : CalOk Tryd.prog tabs 43 whole_Neg.sig := calOk_lim' tabOk whole_Neg.ck mix Tryd.func43 (by kernel_rfl) (by kernel_rfl) (by kernel_rfl) (by kernel_rfl)
noncomputable def whole_Neg.e  (a0 : (Bool × (List Int))) : Option ((Bool × (List Int)) × Unit) :=
  (whole_Sign.F ((a0.1, a0.2), ())).bind fun y1 =>
  let v2 := ([(-1 : Int), y1.1] : List Int)
  (whole_signed.F (a0.2, v2, ())).bind fun y3 =>
  some ((y3.1.1, y3.1.2), ())
theorem whole_Neg.eval (k : Nat) (a0 : (Bool × (List Int))) : evalF whole_Neg.spec whole_Neg.cals T Tryd.f43 k (a0, ()) = whole_Neg.e  a0 := by kernel_rfl
theorem whole_Neg.F_eq (a0 : (Bool × (List Int))) : whole_Neg.F (a0, ()) = limF whole_Neg.spec whole_Neg.cals T Tryd.f43 (a0, ()) := by kernel_rfl
theorem whole_Neg.of (k : Nat) (a0 : (Bool × (List Int))) {y : (Bool × (List Int)) × Unit} (h : whole_Neg.e  a0 = some y) : whole_Neg.F (a0, ()) = some y := (whole_Neg.F_eq a0).trans (limF_of (q := whole_Neg.spec) (C := whole_Neg.cals) (T := T) (f := Tryd.f43) (x := (a0, ())) (y := y) k ((whole_Neg.eval k a0).trans h))

/-! ### fulcrum/whole.Sub -/
def whole_Sub.spec : Spec := ⟨[(true, (.prod .bool (.sl 50 (.int .u32)))), (true, (.prod .bool (.sl 50 (.int .u32))))], [(true, (.prod .bool (.sl 50 (.int .u32))))], .own, fun j => match j with  | _ => []⟩
noncomputable def whole_Sub.cals : Cals := (Cals.cons 43 whole_Neg.sig (Cals.cons 42 whole_Add.sig (Cals.base tabs)))
noncomputable def whole_Sub.sig : Sig := whole_Sub.spec.sig whole_Sub.cals T Tryd.f28
noncomputable def whole_Sub.F (x : (Bool × (List Int)) × (Bool × (List Int)) × Unit) : Option ((Bool × (List Int)) × Unit) := limF whole_Sub.spec whole_Sub.cals T Tryd.f28 x
theorem whole_Sub.ck : CalsOk Tryd.prog whole_Sub.cals := (CalsOk.cons whole_Neg.cal (CalsOk.cons whole_Add.cal (CalsOk.base tabsOk)))
theorem whole_Sub.cal : CalOk Tryd.prog tabs 28 whole_Sub.sig := calOk_lim' tabOk whole_Sub.ck mix Tryd.func28 (by kernel_rfl) (by kernel_rfl) (by kernel_rfl) (by kernel_rfl)
noncomputable def whole_Sub.e  (a0 : (Bool × (List Int))) (a1 : (Bool × (List Int))) : Option ((Bool × (List Int)) × Unit) :=
  (whole_Neg.F ((a1.1, a1.2), ())).bind fun y1 =>
  (whole_Add.F ((a0.1, a0.2), (y1.1.1, y1.1.2), ())).bind fun y2 =>
  some ((y2.1.1, y2.1.2), ())
theorem whole_Sub.eval (k : Nat) (a0 : (Bool × (List Int))) (a1 : (Bool × (List Int))) : evalF whole_Sub.spec whole_Sub.cals T Tryd.f28 k (a0, a1, ()) = whole_Sub.e  a0 a1 := by kernel_rfl
theorem whole_Sub.F_eq (a0 : (Bool × (List Int))) (a1 : (Bool × (List Int))) : whole_Sub.F (a0, a1, ()) = limF whole_Sub.spec whole_Sub.cals T Tryd.f28 (a0, a1, ()) := by kernel_rfl
theorem whole_Sub.of (k : Nat) (a0 : (Bool × (List Int))) (a1 : (Bool × (List Int))) {y : (Bool × (List Int)) × Unit} (h : whole_Sub.e  a0 a1 = some y) : whole_Sub.F (a0, a1, ()) = some y := (whole_Sub.F_eq a0 a1).trans (limF_of (q := whole_Sub.spec) (C := whole_Sub.cals) (T := T) (f := Tryd.f28) (x := (a0, a1, ())) (y := y) k ((whole_Sub.eval k a0 a1).trans h))

/-! ### fulcrum/whole.Cmp -/
def whole_Cmp.spec : Spec := ⟨[(true, (.prod .bool (.sl 50 (.int .u32)))), (true, (.prod .bool (.sl 50 (.int .u32))))], [(false, (.int .i64))], .own, fun j => match j with  | _ => []⟩
noncomputable def whole_Cmp.cals : Cals := (Cals.cons 28 whole_Sub.sig (Cals.cons 23 whole_Sign.sig (Cals.base tabs)))
noncomputable def whole_Cmp.sig : Sig := whole_Cmp.spec.sig whole_Cmp.cals T Tryd.f14
noncomputable def whole_Cmp.F (x : (Bool × (List Int)) × (Bool × (List Int)) × Unit) : Option (Int × Unit) := limF whole_Cmp.spec whole_Cmp.cals T Tryd.f14 x
theorem whole_Cmp.ck : CalsOk Tryd.prog whole_Cmp.cals := (CalsOk.cons whole_Sub.cal (CalsOk.cons whole_Sign.cal (CalsOk.base tabsOk)))
theorem whole_Cmp.cal : CalOk Tryd.prog tabs 14 whole_Cmp.sig := calOk_lim' tabOk whole_Cmp.ck mix Tryd.func14 (by kernel_rfl) (by kernel_rfl) (by kernel_rfl) (by kernel_rfl)
noncomputable def whole_Cmp.e  (a0 : (Bool × (List Int))) (a1 : (Bool × (List Int))) : Option (Int × Unit) :=
  (whole_Sub.F ((a0.1, a0.2), (a1.1, a1.2), ())).bind fun y1 =>
  (whole_Sign.F ((y1.1.1, y1.1.2), ())).bind fun y2 =>
  some (y2.1, ())
theorem whole_Cmp.eval (k : Nat) (a0 : (Bool × (List Int))) (a1 : (Bool × (List Int))) : evalF whole_Cmp.spec whole_Cmp.cals T Tryd.f14 k (a0, a1, ()) = whole_Cmp.e  a0 a1 := by kernel_rfl
theorem whole_Cmp.F_eq (a0 : (Bool × (List Int))) (a1 : (Bool × (List Int))) : whole_Cmp.F (a0, a1, ()) = limF whole_Cmp.spec whole_Cmp.cals T Tryd.f14 (a0, a1, ()) := by kernel_rfl
theorem whole_Cmp.of (k : Nat) (a0 : (Bool × (List Int))) (a1 : (Bool × (List Int))) {y : Int × Unit} (h : whole_Cmp.e  a0 a1 = some y) : whole_Cmp.F (a0, a1, ()) = some y := (whole_Cmp.F_eq a0 a1).trans (limF_of (q := whole_Cmp.spec) (C := whole_Cmp.cals) (T := T) (f := Tryd.f14) (x := (a0, a1, ())) (y := y) k ((whole_Cmp.eval k a0 a1).trans h))

/-! ### fulcrum/fulcrumlaw02.awake -/
def fulcrumlaw02_awake.spec : Spec := ⟨[], [(false, .bool)], .own, fun j => match j with  | _ => []⟩
noncomputable def fulcrumlaw02_awake.cals : Cals := (Cals.cons 27 whole_Of.sig (Cals.cons 12 fulcrumlaw02_one.sig (Cals.cons 14 whole_Cmp.sig (Cals.cons 23 whole_Sign.sig (Cals.base tabs)))))
noncomputable def fulcrumlaw02_awake.sig : Sig := fulcrumlaw02_awake.spec.sig fulcrumlaw02_awake.cals T Tryd.f15
noncomputable def fulcrumlaw02_awake.F (x : Unit) : Option (Bool × Unit) := limF fulcrumlaw02_awake.spec fulcrumlaw02_awake.cals T Tryd.f15 x
theorem fulcrumlaw02_awake.ck : CalsOk Tryd.prog fulcrumlaw02_awake.cals := (CalsOk.cons whole_Of.cal (CalsOk.cons fulcrumlaw02_one.cal (CalsOk.cons whole_Cmp.cal (CalsOk.cons whole_Sign.cal (CalsOk.base tabsOk)))))
theorem fulcrumlaw02_awake.cal : CalOk Tryd.prog tabs 15 fulcrumlaw02_awake.sig := calOk_lim' tabOk fulcrumlaw02_awake.ck mix Tryd.func15 (by kernel_rfl) (by kernel_rfl) (by kernel_rfl) (by kernel_rfl)
noncomputable def fulcrumlaw02_awake.e   : Option (Bool × Unit) :=
  (whole_Of.F ((2 : Int), ())).bind fun y1 =>
  (fulcrumlaw02_one.F ()).bind fun y2 =>
  (whole_Cmp.F ((y1.1.1, y1.1.2), (y2.1.1, y2.1.2), ())).bind fun y3 =>
  let v4 := (y3.1 == (1 : Int))
  bif v4 then ((fulcrumlaw02_one.F ()).bind fun y5 =>
  (whole_Sign.F ((y5.1.1, y5.1.2), ())).bind fun y6 =>
  let v7 := (y6.1 == (1 : Int))
  bif v7 then ((whole_Of.F ((0 : Int), ())).bind fun y8 =>
  (whole_Sign.F ((y8.1.1, y8.1.2), ())).bind fun y9 =>
  let v10 := (y9.1 == (0 : Int))
  some (v10, ()))
  else (some (false, ())))
  else (some (false, ()))
theorem fulcrumlaw02_awake.eval (k : Nat)  : evalF fulcrumlaw02_awake.spec fulcrumlaw02_awake.cals T Tryd.f15 k () = fulcrumlaw02_awake.e   := by kernel_rfl
theorem fulcrumlaw02_awake.F_eq  : fulcrumlaw02_awake.F () = limF fulcrumlaw02_awake.spec fulcrumlaw02_awake.cals T Tryd.f15 () := by kernel_rfl
theorem fulcrumlaw02_awake.of (k : Nat)  {y : Bool × Unit} (h : fulcrumlaw02_awake.e   = some y) : fulcrumlaw02_awake.F () = some y := (fulcrumlaw02_awake.F_eq ).trans (limF_of (q := fulcrumlaw02_awake.spec) (C := fulcrumlaw02_awake.cals) (T := T) (f := Tryd.f15) (x := ()) (y := y) k ((fulcrumlaw02_awake.eval k ).trans h))

/-! ### fulcrum/fulcrumlaw02.WholeBack -/
def fulcrumlaw02_WholeBack.spec : Spec := ⟨[(true, (.prod .bool (.sl 50 (.int .u32)))), (true, (.prod .bool (.sl 50 (.int .u32))))], [(false, .bool)], .own, fun j => match j with  | _ => []⟩
noncomputable def fulcrumlaw02_WholeBack.cals : Cals := (Cals.cons 6 fulcrumlaw02_endless.sig (Cals.cons 10 whole_Text.sig (Cals.cons 7 whole_Parse.sig (Cals.cons 13 whole_Norm.sig (Cals.cons 9 fulcrumlaw02_same.sig (Cals.cons 14 whole_Cmp.sig (Cals.cons 15 fulcrumlaw02_awake.sig (Cals.base tabs))))))))
noncomputable def fulcrumlaw02_WholeBack.sig : Sig := fulcrumlaw02_WholeBack.spec.sig fulcrumlaw02_WholeBack.cals T Tryd.f5
noncomputable def fulcrumlaw02_WholeBack.F (x : (Bool × (List Int)) × (Bool × (List Int)) × Unit) : Option (Bool × Unit) := limF fulcrumlaw02_WholeBack.spec fulcrumlaw02_WholeBack.cals T Tryd.f5 x
theorem fulcrumlaw02_WholeBack.ck : CalsOk Tryd.prog fulcrumlaw02_WholeBack.cals := (CalsOk.cons fulcrumlaw02_endless.cal (CalsOk.cons whole_Text.cal (CalsOk.cons whole_Parse.cal (CalsOk.cons whole_Norm.cal (CalsOk.cons fulcrumlaw02_same.cal (CalsOk.cons whole_Cmp.cal (CalsOk.cons fulcrumlaw02_awake.cal (CalsOk.base tabsOk))))))))
theorem fulcrumlaw02_WholeBack.cal : CalOk Tryd.prog tabs 5 fulcrumlaw02_WholeBack.sig := calOk_lim' tabOk fulcrumlaw02_WholeBack.ck mix Tryd.func5 (by kernel_rfl) (by kernel_rfl) (by kernel_rfl) (by kernel_rfl)
noncomputable def fulcrumlaw02_WholeBack.e  (a0 : (Bool × (List Int))) (a1 : (Bool × (List Int))) : Option (Bool × Unit) :=
  (fulcrumlaw02_endless.F ((a0.1, a0.2), ())).bind fun y1 =>
  bif y1.1 then (some (true, ()))
  else ((fulcrumlaw02_endless.F ((a1.1, a1.2), ())).bind fun y2 =>
  bif y2.1 then (some (true, ()))
  else ((whole_Text.F ((a0.1, a0.2), ())).bind fun y3 =>
  (whole_Parse.F (y3.1, ())).bind fun y4 =>
  let v5 := (y4.2.1 != (0 : Int))
  bif v5 then (some (false, ()))
  else ((whole_Norm.F ((a0.1, a0.2), ())).bind fun y6 =>
  (fulcrumlaw02_same.F ((y4.1.1, y4.1.2), (y6.1.1, y6.1.2), ())).bind fun y7 =>
  let v8 := not y7.1
  bif v8 then (some (false, ()))
  else (let v9 := (ByteArray.size y3.1 : Int)
  let v10 := (v9 == (0 : Int))
  bif v10 then (some (false, ()))
  else ((whole_Cmp.F ((a0.1, a0.2), (a1.1, a1.2), ())).bind fun y11 =>
  let v12 := (y11.1 == (0 : Int))
  (whole_Text.F ((a1.1, a1.2), ())).bind fun y13 =>
  let v14 := (y3.1.toList == y13.1.toList)
  let v15 := (v12 == v14)
  bif v15 then ((whole_Norm.F ((a0.1, a0.2), ())).bind fun y16 =>
  (whole_Norm.F ((a1.1, a1.2), ())).bind fun y17 =>
  (fulcrumlaw02_same.F ((y16.1.1, y16.1.2), (y17.1.1, y17.1.2), ())).bind fun y18 =>
  let v19 := (v12 == y18.1)
  bif v19 then ((fulcrumlaw02_awake.F ()).bind fun y20 =>
  some (y20.1, ()))
  else (some (false, ())))
  else (some (false, ())))))))
theorem fulcrumlaw02_WholeBack.eval (k : Nat) (a0 : (Bool × (List Int))) (a1 : (Bool × (List Int))) : evalF fulcrumlaw02_WholeBack.spec fulcrumlaw02_WholeBack.cals T Tryd.f5 k (a0, a1, ()) = fulcrumlaw02_WholeBack.e  a0 a1 := by kernel_rfl
theorem fulcrumlaw02_WholeBack.F_eq (a0 : (Bool × (List Int))) (a1 : (Bool × (List Int))) : fulcrumlaw02_WholeBack.F (a0, a1, ()) = limF fulcrumlaw02_WholeBack.spec fulcrumlaw02_WholeBack.cals T Tryd.f5 (a0, a1, ()) := by kernel_rfl
theorem fulcrumlaw02_WholeBack.of (k : Nat) (a0 : (Bool × (List Int))) (a1 : (Bool × (List Int))) {y : Bool × Unit} (h : fulcrumlaw02_WholeBack.e  a0 a1 = some y) : fulcrumlaw02_WholeBack.F (a0, a1, ()) = some y := (fulcrumlaw02_WholeBack.F_eq a0 a1).trans (limF_of (q := fulcrumlaw02_WholeBack.spec) (C := fulcrumlaw02_WholeBack.cals) (T := T) (f := Tryd.f5) (x := (a0, a1, ())) (y := y) k ((fulcrumlaw02_WholeBack.eval k a0 a1).trans h))

end Go.Fx.Tryd
