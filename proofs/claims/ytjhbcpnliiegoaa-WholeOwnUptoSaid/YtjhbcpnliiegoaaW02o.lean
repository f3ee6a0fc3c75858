import Derived.Test.YtjhbcpnliiegoaaEv30
import Derived.Test.YtjhbcpnliiegoaaProg
namespace Go.Fx.Try
open Go Go.Proofs Go.Fx
set_option linter.unusedVariables false
set_option maxRecDepth 100000
def ti70 : TI := ⟨.int .u32, (.int .u32), false, 4⟩
def T70 : Tab := Tab.cons 70 ti70 Tab.nil
theorem tab70 : TabOk Try.prog T70 := TabOk.cons (by kernel_rfl) { info := ⟨Try.t70, by kernel_rfl, by kernel_rfl, by kernel_rfl, (.int .u32 0), by kernel_rfl, by kernel_rfl⟩, agg := ⟨_, Try.underlying70, rfl⟩, desc := ⟨Try.underlying70, rfl⟩ } TabOk.nil
def ti23 : TI := ⟨.sl 70, (.sl 70 (.int .u32)), false, 24⟩
def T23 : Tab := Tab.cons 23 ti23 T70
theorem tab23 : TabOk Try.prog T23 := TabOk.cons (by kernel_rfl) { info := ⟨Try.t23, by kernel_rfl, by kernel_rfl, by kernel_rfl, (.slice none 0 0), by kernel_rfl, by kernel_rfl⟩, agg := ⟨_, Try.underlying23, rfl⟩, desc := ⟨Try.underlying23, ti70, by kernel_rfl, rfl, by decide⟩ } tab70
def ti4 : TI := ⟨.bool, .bool, false, 1⟩
def T4 : Tab := Tab.cons 4 ti4 T23
theorem tab4 : TabOk Try.prog T4 := TabOk.cons (by kernel_rfl) { info := ⟨Try.t4, by kernel_rfl, by kernel_rfl, by kernel_rfl, (.bool false), by kernel_rfl, by kernel_rfl⟩, agg := ⟨_, Try.underlying4, rfl⟩, desc := ⟨Try.underlying4, rfl⟩ } tab23
def ti25 : TI := ⟨.struct [(0, 4), (1, 23)], (.prod .bool (.sl 70 (.int .u32))), true, 32⟩
def T25 : Tab := Tab.cons 25 ti25 T4
theorem tab25 : TabOk Try.prog T25 := TabOk.cons (by kernel_rfl) { info := ⟨Try.t25, by kernel_rfl, by kernel_rfl, by kernel_rfl, (.agg #[.bool false, .slice none 0 0]), by kernel_rfl, by kernel_rfl⟩, agg := ⟨_, Try.underlying25, rfl⟩, desc := ⟨_, Try.underlying25, rfl, fun i o ft h => match i, h with | 0, h => by simp at h; obtain ⟨rfl, rfl⟩ := h; exact ⟨_, rfl, rfl, rfl, ti4, by kernel_rfl, by decide⟩ | 1, h => by simp at h; obtain ⟨rfl, rfl⟩ := h; exact ⟨_, rfl, rfl, rfl, ti23, by kernel_rfl, by decide⟩ | n + 2, h => by simp at h⟩ } tab4
def ti3 : TI := ⟨.int .i64, (.int .i64), false, 8⟩
def T3 : Tab := Tab.cons 3 ti3 T25
theorem tab3 : TabOk Try.prog T3 := TabOk.cons (by kernel_rfl) { info := ⟨Try.t3, by kernel_rfl, by kernel_rfl, by kernel_rfl, (.int .i64 0), by kernel_rfl, by kernel_rfl⟩, agg := ⟨_, Try.underlying3, rfl⟩, desc := ⟨Try.underlying3, rfl⟩ } tab25
def ti83 : TI := ⟨.sl 3, (.sl 3 (.int .i64)), false, 24⟩
def T83 : Tab := Tab.cons 83 ti83 T3
theorem tab83 : TabOk Try.prog T83 := TabOk.cons (by kernel_rfl) { info := ⟨Try.t83, by kernel_rfl, by kernel_rfl, by kernel_rfl, (.slice none 0 0), by kernel_rfl, by kernel_rfl⟩, agg := ⟨_, Try.underlying83, rfl⟩, desc := ⟨Try.underlying83, ti3, by kernel_rfl, rfl, by decide⟩ } tab3
def ti64 : TI := ⟨.int .u64, (.int .u64), false, 8⟩
def T64 : Tab := Tab.cons 64 ti64 T83
theorem tab64 : TabOk Try.prog T64 := TabOk.cons (by kernel_rfl) { info := ⟨Try.t64, by kernel_rfl, by kernel_rfl, by kernel_rfl, (.int .u64 0), by kernel_rfl, by kernel_rfl⟩, agg := ⟨_, Try.underlying64, rfl⟩, desc := ⟨Try.underlying64, rfl⟩ } tab83
def ti2 : TI := ⟨.int .i64, (.int .i64), false, 8⟩
def T2 : Tab := Tab.cons 2 ti2 T64
theorem tab2 : TabOk Try.prog T2 := TabOk.cons (by kernel_rfl) { info := ⟨Try.t2, by kernel_rfl, by kernel_rfl, by kernel_rfl, (.int .i64 0), by kernel_rfl, by kernel_rfl⟩, agg := ⟨_, Try.underlying2, rfl⟩, desc := ⟨Try.underlying2, rfl⟩ } tab64
def ti40 : TI := ⟨.int .i64, (.int .i64), false, 8⟩
def T40 : Tab := Tab.cons 40 ti40 T2
theorem tab40 : TabOk Try.prog T40 := TabOk.cons (by kernel_rfl) { info := ⟨Try.t40, by kernel_rfl, by kernel_rfl, by kernel_rfl, (.int .i64 0), by kernel_rfl, by kernel_rfl⟩, agg := ⟨_, Try.underlying40, rfl⟩, desc := ⟨Try.underlying40, rfl⟩ } tab2
def ti5 : TI := ⟨.int .u8, (.int .u8), false, 1⟩
def T5 : Tab := Tab.cons 5 ti5 T40
theorem tab5 : TabOk Try.prog T5 := TabOk.cons (by kernel_rfl) { info := ⟨Try.t5, by kernel_rfl, by kernel_rfl, by kernel_rfl, (.int .u8 0), by kernel_rfl, by kernel_rfl⟩, agg := ⟨_, Try.underlying5, rfl⟩, desc := ⟨Try.underlying5, rfl⟩ } tab40
def ti9 : TI := ⟨.str, .str, false, 16⟩
def T9 : Tab := Tab.cons 9 ti9 T5
theorem tab9 : TabOk Try.prog T9 := TabOk.cons (by kernel_rfl) { info := ⟨Try.t9, by kernel_rfl, by kernel_rfl, by kernel_rfl, (.string ByteArray.empty), by kernel_rfl, by kernel_rfl⟩, agg := ⟨_, Try.underlying9, rfl⟩, desc := ⟨Try.underlying9, rfl⟩ } tab5
def ti56 : TI := ⟨.sl 25, (.sl 25 (.prod .bool (.sl 70 (.int .u32)))), false, 24⟩
def T56 : Tab := Tab.cons 56 ti56 T9
theorem tab56 : TabOk Try.prog T56 := TabOk.cons (by kernel_rfl) { info := ⟨Try.t56, by kernel_rfl, by kernel_rfl, by kernel_rfl, (.slice none 0 0), by kernel_rfl, by kernel_rfl⟩, agg := ⟨_, Try.underlying56, rfl⟩, desc := ⟨Try.underlying56, ti25, by kernel_rfl, rfl, by decide⟩ } tab9
def ti22 : TI := ⟨.sl 70, (.sl 70 (.int .u32)), false, 24⟩
def T22 : Tab := Tab.cons 22 ti22 T56
theorem tab22 : TabOk Try.prog T22 := TabOk.cons (by kernel_rfl) { info := ⟨Try.t22, by kernel_rfl, by kernel_rfl, by kernel_rfl, (.slice none 0 0), by kernel_rfl, by kernel_rfl⟩, agg := ⟨_, Try.underlying22, rfl⟩, desc := ⟨Try.underlying22, ti70, by kernel_rfl, rfl, by decide⟩ } tab56
def T : Tab := T22
theorem tabOk : TabOk Try.prog T := tab22
theorem mix : Try.prog.follows .mixedOrders = true := by kernel_rfl
def tabs : Nat → Option Tbl := noTabs
theorem tabsOk : ∀ g tb, tabs g = some tb → TblOk Try.prog tb := noTabs_ok
abbrev Kt83 : K := (.sl 3 (.int .i64))
abbrev Dt83 : Type := (List Int)
abbrev zt83 : Dt83 := ([] : List Int)
abbrev Kt23 : K := (.sl 70 (.int .u32))
abbrev Dt23 : Type := Dt83
abbrev zt23 : Dt23 := zt83
abbrev Kt25 : K := (.prod .bool Kt23)
abbrev Dt25 : Type := (Bool × Dt23)
abbrev zt25 : Dt25 := (false, zt23)
abbrev Kt56 : K := (.sl 25 Kt25)
abbrev Dt56 : Type := (List Dt25)
abbrev zt56 : Dt56 := ([] : List (Bool × (List Int)))
def fulcrummem_SameNat.spec : Spec := ⟨[(false, Kt23), (false, Kt23)], [(false, .bool)], .own, fun j => match j with | 4 => [(0, .lf (.z 70 (.int .u32) false)), (1, .lf (.z 70 (.int .u32) false)), (5, .lf (.v true))] | _ => []⟩
noncomputable def fulcrummem_SameNat.cals : Cals := (Cals.base tabs)
noncomputable def fulcrummem_SameNat.sig : Sig := fulcrummem_SameNat.spec.sig fulcrummem_SameNat.cals T Try.f26
noncomputable def fulcrummem_SameNat.F (x : Dt23 × Dt23 × Unit) : Option (Bool × Unit) := limF fulcrummem_SameNat.spec fulcrummem_SameNat.cals T Try.f26 x
theorem fulcrummem_SameNat.ck : CalsOk Try.prog fulcrummem_SameNat.cals := (CalsOk.base tabsOk)
theorem fulcrummem_SameNat.cal : CalOk Try.prog tabs 26 fulcrummem_SameNat.sig := calOk_lim' tabOk fulcrummem_SameNat.ck mix Try.func26 (by kernel_rfl) (by kernel_rfl) (by kernel_rfl) (by kernel_rfl)
def fulcrummem_SameNat.m4 (x0 : Dt23) (x1 : Dt23) (x5 : Int) : S := ⟨[(0, .one (.lf (.val false Kt23 x0))), (1, .one (.lf (.val false Kt23 x1))), (5, .one (.lf (.val true (.int .i64) x5)))], ⟨[], []⟩⟩
noncomputable def fulcrummem_SameNat.b4 (f4 : Dt23 → Dt23 → Int → Option (Bool × Unit)) (x0 : Dt23) (x1 : Dt23) (x5 : Int) : Option (Bool × Unit) :=
  let v1 := (List.length x0 : Int)
  let v2 := decide (x5 < v1)
  bif v2 then (bif decide (0 ≤ x5) && decide (x5 < (List.length x0 : Int)) then (let v3 := List.getD x0 (Int.toNat x5) (0 : Int)
  bif decide (0 ≤ x5) && decide (x5 < (List.length x1 : Int)) then (let v4 := List.getD x1 (Int.toNat x5) (0 : Int)
  let v5 := (v3 != v4)
  bif v5 then (some (false, ()))
  else (let v6 := IntKind.i64.wrap (x5 + (1 : Int))
  f4 x0 x1 v6))
  else none)
  else none)
  else (some (true, ()))
noncomputable def fulcrummem_SameNat.e (f4 : Dt23 → Dt23 → Int → Option (Bool × Unit)) (a0 : Dt23) (a1 : Dt23) : Option (Bool × Unit) :=
  let v1 := (List.length a0 : Int)
  let v2 := (List.length a1 : Int)
  let v3 := (v1 != v2)
  bif v3 then (some (false, ()))
  else (f4 a0 a1 (0 : Int))
noncomputable def fulcrummem_SameNat.L4 (k : Nat) (x0 : Dt23) (x1 : Dt23) (x5 : Int) : Option (Bool × Unit) := heads (fulcrummem_SameNat.spec.env fulcrummem_SameNat.cals T Try.f26) (Func.pts Try.f26) k 4 (fulcrummem_SameNat.m4 x0 x1 x5)
theorem fulcrummem_SameNat.L4_succ (k : Nat) (x0 : Dt23) (x1 : Dt23) (x5 : Int) : fulcrummem_SameNat.L4 (k + 1) x0 x1 x5 = fulcrummem_SameNat.b4 (fulcrummem_SameNat.L4 k) x0 x1 x5 := by kernel_rfl
theorem fulcrummem_SameNat.eval (k : Nat) (a0 : Dt23) (a1 : Dt23) : evalF fulcrummem_SameNat.spec fulcrummem_SameNat.cals T Try.f26 k (a0, a1, ()) = fulcrummem_SameNat.e (fulcrummem_SameNat.L4 k) a0 a1 := by kernel_rfl
theorem fulcrummem_SameNat.F_eq (a0 : Dt23) (a1 : Dt23) : fulcrummem_SameNat.F (a0, a1, ()) = limF fulcrummem_SameNat.spec fulcrummem_SameNat.cals T Try.f26 (a0, a1, ()) := by kernel_rfl
theorem fulcrummem_SameNat.of (k : Nat) (a0 : Dt23) (a1 : Dt23) {y : Bool × Unit} (h : fulcrummem_SameNat.e (fulcrummem_SameNat.L4 k) a0 a1 = some y) : fulcrummem_SameNat.F (a0, a1, ()) = some y := (fulcrummem_SameNat.F_eq a0 a1).trans (limF_of (q := fulcrummem_SameNat.spec) (C := fulcrummem_SameNat.cals) (T := T) (f := Try.f26) (x := (a0, a1, ())) (y := y) k ((fulcrummem_SameNat.eval k a0 a1).trans h))
def fulcrummem_SameInt.spec : Spec := ⟨[(true, Kt25), (true, Kt25)], [(false, .bool)], .own, fun j => match j with  | _ => []⟩
noncomputable def fulcrummem_SameInt.cals : Cals := (Cals.cons 26 fulcrummem_SameNat.sig (Cals.base tabs))
noncomputable def fulcrummem_SameInt.sig : Sig := fulcrummem_SameInt.spec.sig fulcrummem_SameInt.cals T Try.f71
noncomputable def fulcrummem_SameInt.F (x : Dt25 × Dt25 × Unit) : Option (Bool × Unit) := limF fulcrummem_SameInt.spec fulcrummem_SameInt.cals T Try.f71 x
theorem fulcrummem_SameInt.ck : CalsOk Try.prog fulcrummem_SameInt.cals := (CalsOk.cons fulcrummem_SameNat.cal (CalsOk.base tabsOk))
theorem fulcrummem_SameInt.cal : CalOk Try.prog tabs 71 fulcrummem_SameInt.sig := calOk_lim' tabOk fulcrummem_SameInt.ck mix Try.func71 (by kernel_rfl) (by kernel_rfl) (by kernel_rfl) (by kernel_rfl)
noncomputable def fulcrummem_SameInt.e  (a0 : Dt25) (a1 : Dt25) : Option (Bool × Unit) :=
  let v1 := (a0.1 == a1.1)
  bif v1 then ((fulcrummem_SameNat.F (a0.2, a1.2, ())).bind fun y2 =>
  some (y2.1, ()))
  else (some (false, ()))
theorem fulcrummem_SameInt.eval (k : Nat) (a0 : Dt25) (a1 : Dt25) : evalF fulcrummem_SameInt.spec fulcrummem_SameInt.cals T Try.f71 k (a0, a1, ()) = fulcrummem_SameInt.e  a0 a1 := by kernel_rfl
theorem fulcrummem_SameInt.F_eq (a0 : Dt25) (a1 : Dt25) : fulcrummem_SameInt.F (a0, a1, ()) = limF fulcrummem_SameInt.spec fulcrummem_SameInt.cals T Try.f71 (a0, a1, ()) := by kernel_rfl
theorem fulcrummem_SameInt.of (k : Nat) (a0 : Dt25) (a1 : Dt25) {y : Bool × Unit} (h : fulcrummem_SameInt.e  a0 a1 = some y) : fulcrummem_SameInt.F (a0, a1, ()) = some y := (fulcrummem_SameInt.F_eq a0 a1).trans (limF_of (q := fulcrummem_SameInt.spec) (C := fulcrummem_SameInt.cals) (T := T) (f := Try.f71) (x := (a0, a1, ())) (y := y) k ((fulcrummem_SameInt.eval k a0 a1).trans h))
def fulcrumlaw02_same.spec : Spec := ⟨[(true, Kt25), (true, Kt25)], [(false, .bool)], .own, fun j => match j with  | _ => []⟩
noncomputable def fulcrumlaw02_same.cals : Cals := (Cals.cons 71 fulcrummem_SameInt.sig (Cals.base tabs))
noncomputable def fulcrumlaw02_same.sig : Sig := fulcrumlaw02_same.spec.sig fulcrumlaw02_same.cals T Try.f19
noncomputable def fulcrumlaw02_same.F (x : Dt25 × Dt25 × Unit) : Option (Bool × Unit) := limF fulcrumlaw02_same.spec fulcrumlaw02_same.cals T Try.f19 x
theorem fulcrumlaw02_same.ck : CalsOk Try.prog fulcrumlaw02_same.cals := (CalsOk.cons fulcrummem_SameInt.cal (CalsOk.base tabsOk))
theorem fulcrumlaw02_same.cal : CalOk Try.prog tabs 19 fulcrumlaw02_same.sig := calOk_lim' tabOk fulcrumlaw02_same.ck mix Try.func19 (by kernel_rfl) (by kernel_rfl) (by kernel_rfl) (by kernel_rfl)
noncomputable def fulcrumlaw02_same.e  (a0 : Dt25) (a1 : Dt25) : Option (Bool × Unit) :=
  (fulcrummem_SameInt.F ((a0.1, a0.2), (a1.1, a1.2), ())).bind fun y1 =>
  some (y1.1, ())
theorem fulcrumlaw02_same.eval (k : Nat) (a0 : Dt25) (a1 : Dt25) : evalF fulcrumlaw02_same.spec fulcrumlaw02_same.cals T Try.f19 k (a0, a1, ()) = fulcrumlaw02_same.e  a0 a1 := by kernel_rfl
theorem fulcrumlaw02_same.F_eq (a0 : Dt25) (a1 : Dt25) : fulcrumlaw02_same.F (a0, a1, ()) = limF fulcrumlaw02_same.spec fulcrumlaw02_same.cals T Try.f19 (a0, a1, ()) := by kernel_rfl
theorem fulcrumlaw02_same.of (k : Nat) (a0 : Dt25) (a1 : Dt25) {y : Bool × Unit} (h : fulcrumlaw02_same.e  a0 a1 = some y) : fulcrumlaw02_same.F (a0, a1, ()) = some y := (fulcrumlaw02_same.F_eq a0 a1).trans (limF_of (q := fulcrumlaw02_same.spec) (C := fulcrumlaw02_same.cals) (T := T) (f := Try.f19) (x := (a0, a1, ())) (y := y) k ((fulcrumlaw02_same.eval k a0 a1).trans h))
def nat_trim.spec : Spec := ⟨[(false, Kt23)], [(false, Kt23)], .shared, fun j => match j with | 2 => [(0, .lf (.z 70 (.int .u32) true)), (3, .lf (.v true))] | _ => []⟩
noncomputable def nat_trim.cals : Cals := (Cals.base tabs)
noncomputable def nat_trim.sig : Sig := nat_trim.spec.sig nat_trim.cals T Try.f98
noncomputable def nat_trim.F (x : Dt23 × Unit) : Option (Dt23 × Unit) := limF nat_trim.spec nat_trim.cals T Try.f98 x
theorem nat_trim.ck : CalsOk Try.prog nat_trim.cals := (CalsOk.base tabsOk)
theorem nat_trim.cal : CalOk Try.prog tabs 98 nat_trim.sig := calOk_lim' tabOk nat_trim.ck mix Try.func98 (by kernel_rfl) (by kernel_rfl) (by kernel_rfl) (by kernel_rfl)
def nat_trim.m2 (x0 : Dt23) (x3 : Int) : S := ⟨[(0, .one (.lf (.val true Kt23 x0))), (3, .one (.lf (.val true (.int .i64) x3)))], ⟨[], []⟩⟩
noncomputable def nat_trim.b2 (f2 : Dt23 → Int → Option (Dt23 × Unit)) (x0 : Dt23) (x3 : Int) : Option (Dt23 × Unit) :=
  let v1 := decide (x3 > (0 : Int))
  bif v1 then (let v2 := IntKind.i64.wrap (x3 - (1 : Int))
  bif decide (0 ≤ v2) && decide (v2 < (List.length x0 : Int)) then (let v3 := List.getD x0 (Int.toNat v2) (0 : Int)
  let v4 := (v3 == (0 : Int))
  bif v4 then (let v5 := IntKind.i64.wrap (x3 - (1 : Int))
  f2 x0 v5)
  else (bif decide (0 ≤ x3) && decide (x3 ≤ (List.length x0 : Int)) then (let v6 := List.take (Int.toNat x3) x0
  some (v6, ()))
  else none))
  else none)
  else (bif decide (0 ≤ x3) && decide (x3 ≤ (List.length x0 : Int)) then (let v7 := List.take (Int.toNat x3) x0
  some (v7, ()))
  else none)
noncomputable def nat_trim.e (f2 : Dt23 → Int → Option (Dt23 × Unit)) (a0 : Dt23) : Option (Dt23 × Unit) :=
  let v1 := (List.length a0 : Int)
  f2 a0 v1
noncomputable def nat_trim.L2 (k : Nat) (x0 : Dt23) (x3 : Int) : Option (Dt23 × Unit) := heads (nat_trim.spec.env nat_trim.cals T Try.f98) (Func.pts Try.f98) k 2 (nat_trim.m2 x0 x3)
theorem nat_trim.L2_succ (k : Nat) (x0 : Dt23) (x3 : Int) : nat_trim.L2 (k + 1) x0 x3 = nat_trim.b2 (nat_trim.L2 k) x0 x3 := by kernel_rfl
theorem nat_trim.eval (k : Nat) (a0 : Dt23) : evalF nat_trim.spec nat_trim.cals T Try.f98 k (a0, ()) = nat_trim.e (nat_trim.L2 k) a0 := by kernel_rfl
theorem nat_trim.F_eq (a0 : Dt23) : nat_trim.F (a0, ()) = limF nat_trim.spec nat_trim.cals T Try.f98 (a0, ()) := by kernel_rfl
theorem nat_trim.of (k : Nat) (a0 : Dt23) {y : Dt23 × Unit} (h : nat_trim.e (nat_trim.L2 k) a0 = some y) : nat_trim.F (a0, ()) = some y := (nat_trim.F_eq a0).trans (limF_of (q := nat_trim.spec) (C := nat_trim.cals) (T := T) (f := Try.f98) (x := (a0, ())) (y := y) k ((nat_trim.eval k a0).trans h))
def nat_own.spec : Spec := ⟨[(false, Kt23)], [(false, Kt23)], .own, fun j => match j with  | _ => []⟩
noncomputable def nat_own.cals : Cals := (Cals.cons 98 nat_trim.sig (Cals.base tabs))
noncomputable def nat_own.sig : Sig := nat_own.spec.sig nat_own.cals T Try.f99
noncomputable def nat_own.F (x : Dt23 × Unit) : Option (Dt23 × Unit) := limF nat_own.spec nat_own.cals T Try.f99 x
theorem nat_own.ck : CalsOk Try.prog nat_own.cals := (CalsOk.cons nat_trim.cal (CalsOk.base tabsOk))
theorem nat_own.cal : CalOk Try.prog tabs 99 nat_own.sig := calOk_lim' tabOk nat_own.ck mix Try.func99 (by kernel_rfl) (by kernel_rfl) (by kernel_rfl) (by kernel_rfl)
noncomputable def nat_own.e  (a0 : Dt23) : Option (Dt23 × Unit) :=
  (nat_trim.F (a0, ())).bind fun y1 =>
  let v2 := (List.length y1.1 : Int)
  let v3 := (v2 == (0 : Int))
  bif v3 then (some (zt23, ()))
  else (let v4 := (List.length y1.1 : Int)
  bif decide (0 ≤ v4) && (decide (v4 ≤ v4) && (decide (Int.toNat v4 * 4 ≤ 281474976710656) && Nat.blt 0 4)) then (let v5 := List.replicate (Int.toNat v4) (0 : Int)
  let v6 := List.take (List.length v5) y1.1 ++ List.drop (List.length y1.1) v5
  let v7 := ((Nat.min (List.length y1.1) (List.length v5) : Nat) : Int)
  some (v6, ()))
  else none)
theorem nat_own.eval (k : Nat) (a0 : Dt23) : evalF nat_own.spec nat_own.cals T Try.f99 k (a0, ()) = nat_own.e  a0 := by kernel_rfl
theorem nat_own.F_eq (a0 : Dt23) : nat_own.F (a0, ()) = limF nat_own.spec nat_own.cals T Try.f99 (a0, ()) := by kernel_rfl
theorem nat_own.of (k : Nat) (a0 : Dt23) {y : Dt23 × Unit} (h : nat_own.e  a0 = some y) : nat_own.F (a0, ()) = some y := (nat_own.F_eq a0).trans (limF_of (q := nat_own.spec) (C := nat_own.cals) (T := T) (f := Try.f99) (x := (a0, ())) (y := y) k ((nat_own.eval k a0).trans h))
def nat_Norm.spec : Spec := ⟨[(false, Kt23)], [(false, Kt23)], .own, fun j => match j with  | _ => []⟩
noncomputable def nat_Norm.cals : Cals := (Cals.cons 99 nat_own.sig (Cals.base tabs))
noncomputable def nat_Norm.sig : Sig := nat_Norm.spec.sig nat_Norm.cals T Try.f76
noncomputable def nat_Norm.F (x : Dt23 × Unit) : Option (Dt23 × Unit) := limF nat_Norm.spec nat_Norm.cals T Try.f76 x
theorem nat_Norm.ck : CalsOk Try.prog nat_Norm.cals := (CalsOk.cons nat_own.cal (CalsOk.base tabsOk))
theorem nat_Norm.cal : CalOk Try.prog tabs 76 nat_Norm.sig := calOk_lim' tabOk nat_Norm.ck mix Try.func76 (by kernel_rfl) (by kernel_rfl) (by kernel_rfl) (by kernel_rfl)
noncomputable def nat_Norm.e  (a0 : Dt23) : Option (Dt23 × Unit) :=
  (nat_own.F (a0, ())).bind fun y1 =>
  some (y1.1, ())
theorem nat_Norm.eval (k : Nat) (a0 : Dt23) : evalF nat_Norm.spec nat_Norm.cals T Try.f76 k (a0, ()) = nat_Norm.e  a0 := by kernel_rfl
theorem nat_Norm.F_eq (a0 : Dt23) : nat_Norm.F (a0, ()) = limF nat_Norm.spec nat_Norm.cals T Try.f76 (a0, ()) := by kernel_rfl
theorem nat_Norm.of (k : Nat) (a0 : Dt23) {y : Dt23 × Unit} (h : nat_Norm.e  a0 = some y) : nat_Norm.F (a0, ()) = some y := (nat_Norm.F_eq a0).trans (limF_of (q := nat_Norm.spec) (C := nat_Norm.cals) (T := T) (f := Try.f76) (x := (a0, ())) (y := y) k ((nat_Norm.eval k a0).trans h))
def whole_signed.spec : Spec := ⟨[(false, Kt23), (false, Kt83)], [(true, Kt25)], .own, fun j => match j with | 4 => [(0, .lf (.o 70 (.int .u32) true)), (4, .box 25 [.v true, .v true]), (5, .lf (.v true)), (10, .lf (.z 3 (.int .i64) false)), (11, .lf (.v true)), (12, .lf (.v true))] | _ => []⟩
noncomputable def whole_signed.cals : Cals := (Cals.cons 76 nat_Norm.sig (Cals.base tabs))
noncomputable def whole_signed.sig : Sig := whole_signed.spec.sig whole_signed.cals T Try.f72
noncomputable def whole_signed.F (x : Dt23 × Dt23 × Unit) : Option (Dt25 × Unit) := limF whole_signed.spec whole_signed.cals T Try.f72 x
theorem whole_signed.ck : CalsOk Try.prog whole_signed.cals := (CalsOk.cons nat_Norm.cal (CalsOk.base tabsOk))
theorem whole_signed.cal : CalOk Try.prog tabs 72 whole_signed.sig := calOk_lim' tabOk whole_signed.ck mix Try.func72 (by kernel_rfl) (by kernel_rfl) (by kernel_rfl) (by kernel_rfl)
def whole_signed.m4 (x0 : Dt23) (x4_0 : Bool) (x5 : Int) (x10 : Dt23) (x11 : Int) (x12 : Int) : S := ⟨[(0, .one (.lf (.own 0))), (4, .box 0 0), (5, .one (.lf (.val true (.int .i64) x5))), (10, .one (.lf (.val false Kt83 x10))), (11, .one (.lf (.val true (.int .i64) x11))), (12, .one (.lf (.val true (.int .i64) x12)))], ⟨[some ⟨70, (.int .u32), true, true, x0⟩], [some ⟨25, [.val true .bool x4_0, .nil]⟩]⟩⟩
noncomputable def whole_signed.b4 (f4 : Dt23 → Bool → Int → Dt23 → Int → Int → Option (Dt25 × Unit)) (x0 : Dt23) (x4_0 : Bool) (x5 : Int) (x10 : Dt23) (x11 : Int) (x12 : Int) : Option (Dt25 × Unit) :=
  let v1 := decide (x12 < x11)
  bif v1 then (bif decide (0 ≤ x12) && decide (x12 < (List.length x10 : Int)) then (let v2 := List.getD x10 (Int.toNat x12) (0 : Int)
  let v3 := IntKind.i64.wrap (x5 * v2)
  let v4 := IntKind.i64.wrap (x12 + (1 : Int))
  f4 x0 x4_0 v3 x10 x11 v4)
  else none)
  else (let v5 := decide (x5 < (0 : Int))
  bif v5 then (let v6 := (List.length x0 : Int)
  let v7 := decide (v6 > (0 : Int))
  some ((v7, x0), ()))
  else (some ((false, x0), ())))
noncomputable def whole_signed.e (f4 : Dt23 → Bool → Int → Dt23 → Int → Int → Option (Dt25 × Unit)) (a0 : Dt23) (a1 : Dt23) : Option (Dt25 × Unit) :=
  (nat_Norm.F (a0, ())).bind fun y1 =>
  let v2 := (List.length a1 : Int)
  f4 y1.1 false (1 : Int) a1 v2 (0 : Int)
noncomputable def whole_signed.L4 (k : Nat) (x0 : Dt23) (x4_0 : Bool) (x5 : Int) (x10 : Dt23) (x11 : Int) (x12 : Int) : Option (Dt25 × Unit) := heads (whole_signed.spec.env whole_signed.cals T Try.f72) (Func.pts Try.f72) k 4 (whole_signed.m4 x0 x4_0 x5 x10 x11 x12)
theorem whole_signed.L4_succ (k : Nat) (x0 : Dt23) (x4_0 : Bool) (x5 : Int) (x10 : Dt23) (x11 : Int) (x12 : Int) : whole_signed.L4 (k + 1) x0 x4_0 x5 x10 x11 x12 = whole_signed.b4 (whole_signed.L4 k) x0 x4_0 x5 x10 x11 x12 := by kernel_rfl
theorem whole_signed.eval (k : Nat) (a0 : Dt23) (a1 : Dt23) : evalF whole_signed.spec whole_signed.cals T Try.f72 k (a0, a1, ()) = whole_signed.e (whole_signed.L4 k) a0 a1 := by kernel_rfl
theorem whole_signed.F_eq (a0 : Dt23) (a1 : Dt23) : whole_signed.F (a0, a1, ()) = limF whole_signed.spec whole_signed.cals T Try.f72 (a0, a1, ()) := by kernel_rfl
theorem whole_signed.of (k : Nat) (a0 : Dt23) (a1 : Dt23) {y : Dt25 × Unit} (h : whole_signed.e (whole_signed.L4 k) a0 a1 = some y) : whole_signed.F (a0, a1, ()) = some y := (whole_signed.F_eq a0 a1).trans (limF_of (q := whole_signed.spec) (C := whole_signed.cals) (T := T) (f := Try.f72) (x := (a0, a1, ())) (y := y) k ((whole_signed.eval k a0 a1).trans h))
def nat_Of.spec : Spec := ⟨[(false, (.int .u64))], [(false, Kt23)], .own, fun j => match j with  | _ => []⟩
noncomputable def nat_Of.cals : Cals := (Cals.cons 99 nat_own.sig (Cals.base tabs))
noncomputable def nat_Of.sig : Sig := nat_Of.spec.sig nat_Of.cals T Try.f73
noncomputable def nat_Of.F (x : Int × Unit) : Option (Dt23 × Unit) := limF nat_Of.spec nat_Of.cals T Try.f73 x
theorem nat_Of.ck : CalsOk Try.prog nat_Of.cals := (CalsOk.cons nat_own.cal (CalsOk.base tabsOk))
theorem nat_Of.cal : CalOk Try.prog tabs 73 nat_Of.sig := calOk_lim' tabOk nat_Of.ck mix Try.func73 (by kernel_rfl) (by kernel_rfl) (by kernel_rfl) (by kernel_rfl)
noncomputable def nat_Of.e  (a0 : Int) : Option (Dt23 × Unit) :=
  let v1 := IntKind.u32.wrap a0
  bif decide ((32 : Int) < 0) then none
  else (let v2 := shrI .u64 a0 (32 : Int)
  let v3 := IntKind.u32.wrap v2
  let v4 := ([v1, v3] : List Int)
  (nat_own.F (v4, ())).bind fun y5 =>
  some (y5.1, ()))
theorem nat_Of.eval (k : Nat) (a0 : Int) : evalF nat_Of.spec nat_Of.cals T Try.f73 k (a0, ()) = nat_Of.e  a0 := by kernel_rfl
theorem nat_Of.F_eq (a0 : Int) : nat_Of.F (a0, ()) = limF nat_Of.spec nat_Of.cals T Try.f73 (a0, ()) := by kernel_rfl
theorem nat_Of.of (k : Nat) (a0 : Int) {y : Dt23 × Unit} (h : nat_Of.e  a0 = some y) : nat_Of.F (a0, ()) = some y := (nat_Of.F_eq a0).trans (limF_of (q := nat_Of.spec) (C := nat_Of.cals) (T := T) (f := Try.f73) (x := (a0, ())) (y := y) k ((nat_Of.eval k a0).trans h))
def whole_Of.spec : Spec := ⟨[(false, (.int .i64))], [(true, Kt25)], .own, fun j => match j with  | _ => []⟩
noncomputable def whole_Of.cals : Cals := (Cals.cons 73 nat_Of.sig (Cals.cons 72 whole_signed.sig (Cals.base tabs)))
noncomputable def whole_Of.sig : Sig := whole_Of.spec.sig whole_Of.cals T Try.f20
noncomputable def whole_Of.F (x : Int × Unit) : Option (Dt25 × Unit) := limF whole_Of.spec whole_Of.cals T Try.f20 x
theorem whole_Of.ck : CalsOk Try.prog whole_Of.cals := (CalsOk.cons nat_Of.cal (CalsOk.cons whole_signed.cal (CalsOk.base tabsOk)))
theorem whole_Of.cal : CalOk Try.prog tabs 20 whole_Of.sig := calOk_lim' tabOk whole_Of.ck mix Try.func20 (by kernel_rfl) (by kernel_rfl) (by kernel_rfl) (by kernel_rfl)
noncomputable def whole_Of.e  (a0 : Int) : Option (Dt25 × Unit) :=
  let v1 := decide (a0 < (0 : Int))
  bif v1 then (let v2 := IntKind.u64.wrap a0
  let v3 := negI .u64 v2
  (nat_Of.F (v3, ())).bind fun y4 =>
  let v5 := ([(-1 : Int)] : List Int)
  (whole_signed.F (y4.1, v5, ())).bind fun y6 =>
  some ((y6.1.1, y6.1.2), ()))
  else (let v7 := IntKind.u64.wrap a0
  (nat_Of.F (v7, ())).bind fun y8 =>
  (whole_signed.F (y8.1, zt23, ())).bind fun y9 =>
  some ((y9.1.1, y9.1.2), ()))
theorem whole_Of.eval (k : Nat) (a0 : Int) : evalF whole_Of.spec whole_Of.cals T Try.f20 k (a0, ()) = whole_Of.e  a0 := by kernel_rfl
theorem whole_Of.F_eq (a0 : Int) : whole_Of.F (a0, ()) = limF whole_Of.spec whole_Of.cals T Try.f20 (a0, ()) := by kernel_rfl
theorem whole_Of.of (k : Nat) (a0 : Int) {y : Dt25 × Unit} (h : whole_Of.e  a0 = some y) : whole_Of.F (a0, ()) = some y := (whole_Of.F_eq a0).trans (limF_of (q := whole_Of.spec) (C := whole_Of.cals) (T := T) (f := Try.f20) (x := (a0, ())) (y := y) k ((whole_Of.eval k a0).trans h))
def whole_core.spec : Spec := ⟨[(false, Kt23)], [(false, Kt23)], .shared, fun j => match j with | 2 => [(0, .lf (.z 70 (.int .u32) true)), (3, .lf (.v true))] | _ => []⟩
noncomputable def whole_core.cals : Cals := (Cals.base tabs)
noncomputable def whole_core.sig : Sig := whole_core.spec.sig whole_core.cals T Try.f78
noncomputable def whole_core.F (x : Dt23 × Unit) : Option (Dt23 × Unit) := limF whole_core.spec whole_core.cals T Try.f78 x
theorem whole_core.ck : CalsOk Try.prog whole_core.cals := (CalsOk.base tabsOk)
theorem whole_core.cal : CalOk Try.prog tabs 78 whole_core.sig := calOk_lim' tabOk whole_core.ck mix Try.func78 (by kernel_rfl) (by kernel_rfl) (by kernel_rfl) (by kernel_rfl)
def whole_core.m2 (x0 : Dt23) (x3 : Int) : S := ⟨[(0, .one (.lf (.val true Kt23 x0))), (3, .one (.lf (.val true (.int .i64) x3)))], ⟨[], []⟩⟩
noncomputable def whole_core.b2 (f2 : Dt23 → Int → Option (Dt23 × Unit)) (x0 : Dt23) (x3 : Int) : Option (Dt23 × Unit) :=
  let v1 := decide (x3 > (0 : Int))
  bif v1 then (let v2 := IntKind.i64.wrap (x3 - (1 : Int))
  bif decide (0 ≤ v2) && decide (v2 < (List.length x0 : Int)) then (let v3 := List.getD x0 (Int.toNat v2) (0 : Int)
  let v4 := (v3 == (0 : Int))
  bif v4 then (let v5 := IntKind.i64.wrap (x3 - (1 : Int))
  f2 x0 v5)
  else (bif decide (0 ≤ x3) && (decide (x3 ≤ x3) && decide (x3 ≤ (List.length x0 : Int))) then (let v6 := List.take (Int.toNat x3) x0
  some (v6, ()))
  else none))
  else none)
  else (bif decide (0 ≤ x3) && (decide (x3 ≤ x3) && decide (x3 ≤ (List.length x0 : Int))) then (let v7 := List.take (Int.toNat x3) x0
  some (v7, ()))
  else none)
noncomputable def whole_core.e (f2 : Dt23 → Int → Option (Dt23 × Unit)) (a0 : Dt23) : Option (Dt23 × Unit) :=
  let v1 := (List.length a0 : Int)
  f2 a0 v1
noncomputable def whole_core.L2 (k : Nat) (x0 : Dt23) (x3 : Int) : Option (Dt23 × Unit) := heads (whole_core.spec.env whole_core.cals T Try.f78) (Func.pts Try.f78) k 2 (whole_core.m2 x0 x3)
theorem whole_core.L2_succ (k : Nat) (x0 : Dt23) (x3 : Int) : whole_core.L2 (k + 1) x0 x3 = whole_core.b2 (whole_core.L2 k) x0 x3 := by kernel_rfl
theorem whole_core.eval (k : Nat) (a0 : Dt23) : evalF whole_core.spec whole_core.cals T Try.f78 k (a0, ()) = whole_core.e (whole_core.L2 k) a0 := by kernel_rfl
theorem whole_core.F_eq (a0 : Dt23) : whole_core.F (a0, ()) = limF whole_core.spec whole_core.cals T Try.f78 (a0, ()) := by kernel_rfl
theorem whole_core.of (k : Nat) (a0 : Dt23) {y : Dt23 × Unit} (h : whole_core.e (whole_core.L2 k) a0 = some y) : whole_core.F (a0, ()) = some y := (whole_core.F_eq a0).trans (limF_of (q := whole_core.spec) (C := whole_core.cals) (T := T) (f := Try.f78) (x := (a0, ())) (y := y) k ((whole_core.eval k a0).trans h))
def whole_Sign.spec : Spec := ⟨[(true, Kt25)], [(false, (.int .i64))], .own, fun j => match j with  | _ => []⟩
noncomputable def whole_Sign.cals : Cals := (Cals.cons 78 whole_core.sig (Cals.base tabs))
noncomputable def whole_Sign.sig : Sig := whole_Sign.spec.sig whole_Sign.cals T Try.f29
noncomputable def whole_Sign.F (x : Dt25 × Unit) : Option (Int × Unit) := limF whole_Sign.spec whole_Sign.cals T Try.f29 x
theorem whole_Sign.ck : CalsOk Try.prog whole_Sign.cals := (CalsOk.cons whole_core.cal (CalsOk.base tabsOk))
theorem whole_Sign.cal : CalOk Try.prog tabs 29 whole_Sign.sig := calOk_lim' tabOk whole_Sign.ck mix Try.func29 (by kernel_rfl) (by kernel_rfl) (by kernel_rfl) (by kernel_rfl)
noncomputable def whole_Sign.e  (a0 : Dt25) : Option (Int × Unit) :=
  (whole_core.F (a0.2, ())).bind fun y1 =>
  let v2 := (List.length y1.1 : Int)
  let v3 := (v2 == (0 : Int))
  bif v3 then (some ((0 : Int), ()))
  else (bif a0.1 then (some ((-1 : Int), ()))
  else (some ((1 : Int), ())))
theorem whole_Sign.eval (k : Nat) (a0 : Dt25) : evalF whole_Sign.spec whole_Sign.cals T Try.f29 k (a0, ()) = whole_Sign.e  a0 := by kernel_rfl
theorem whole_Sign.F_eq (a0 : Dt25) : whole_Sign.F (a0, ()) = limF whole_Sign.spec whole_Sign.cals T Try.f29 (a0, ()) := by kernel_rfl
theorem whole_Sign.of (k : Nat) (a0 : Dt25) {y : Int × Unit} (h : whole_Sign.e  a0 = some y) : whole_Sign.F (a0, ()) = some y := (whole_Sign.F_eq a0).trans (limF_of (q := whole_Sign.spec) (C := whole_Sign.cals) (T := T) (f := Try.f29) (x := (a0, ())) (y := y) k ((whole_Sign.eval k a0).trans h))
def whole_Neg.spec : Spec := ⟨[(true, Kt25)], [(true, Kt25)], .own, fun j => match j with  | _ => []⟩
noncomputable def whole_Neg.cals : Cals := (Cals.cons 29 whole_Sign.sig (Cals.cons 72 whole_signed.sig (Cals.base tabs)))
noncomputable def whole_Neg.sig : Sig := whole_Neg.spec.sig whole_Neg.cals T Try.f24
noncomputable def whole_Neg.F (x : Dt25 × Unit) : Option (Dt25 × Unit) := limF whole_Neg.spec whole_Neg.cals T Try.f24 x
theorem whole_Neg.ck : CalsOk Try.prog whole_Neg.cals := (CalsOk.cons whole_Sign.cal (CalsOk.cons whole_signed.cal (CalsOk.base tabsOk)))
theorem whole_Neg.cal : CalOk Try.prog tabs 24 whole_Neg.sig := calOk_lim' tabOk whole_Neg.ck mix Try.func24 (by kernel_rfl) (by kernel_rfl) (by kernel_rfl) (by kernel_rfl)
noncomputable def whole_Neg.e  (a0 : Dt25) : Option (Dt25 × Unit) :=
  (whole_Sign.F ((a0.1, a0.2), ())).bind fun y1 =>
  let v2 := ([(-1 : Int), y1.1] : List Int)
  (whole_signed.F (a0.2, v2, ())).bind fun y3 =>
  some ((y3.1.1, y3.1.2), ())
theorem whole_Neg.eval (k : Nat) (a0 : Dt25) : evalF whole_Neg.spec whole_Neg.cals T Try.f24 k (a0, ()) = whole_Neg.e  a0 := by kernel_rfl
theorem whole_Neg.F_eq (a0 : Dt25) : whole_Neg.F (a0, ()) = limF whole_Neg.spec whole_Neg.cals T Try.f24 (a0, ()) := by kernel_rfl
theorem whole_Neg.of (k : Nat) (a0 : Dt25) {y : Dt25 × Unit} (h : whole_Neg.e  a0 = some y) : whole_Neg.F (a0, ()) = some y := (whole_Neg.F_eq a0).trans (limF_of (q := whole_Neg.spec) (C := whole_Neg.cals) (T := T) (f := Try.f24) (x := (a0, ())) (y := y) k ((whole_Neg.eval k a0).trans h))
def bits_Add32.spec : Spec := ⟨[(false, (.int .u32)), (false, (.int .u32)), (false, (.int .u32))], [(false, (.int .u32)), (false, (.int .u32))], .own, fun j => match j with  | _ => []⟩
noncomputable def bits_Add32.cals : Cals := (Cals.base tabs)
noncomputable def bits_Add32.sig : Sig := bits_Add32.spec.sig bits_Add32.cals T Try.f100
noncomputable def bits_Add32.F (x : Int × Int × Int × Unit) : Option (Int × Int × Unit) := limF bits_Add32.spec bits_Add32.cals T Try.f100 x
theorem bits_Add32.ck : CalsOk Try.prog bits_Add32.cals := (CalsOk.base tabsOk)
theorem bits_Add32.cal : CalOk Try.prog tabs 100 bits_Add32.sig := calOk_lim' tabOk bits_Add32.ck mix Try.func100 (by kernel_rfl) (by kernel_rfl) (by kernel_rfl) (by kernel_rfl)
noncomputable def bits_Add32.e  (a0 : Int) (a1 : Int) (a2 : Int) : Option (Int × Int × Unit) :=
  let v1 := IntKind.u64.wrap a0
  let v2 := IntKind.u64.wrap a1
  let v3 := IntKind.u64.wrap (v1 + v2)
  let v4 := IntKind.u64.wrap a2
  let v5 := IntKind.u64.wrap (v3 + v4)
  let v6 := IntKind.u32.wrap v5
  bif decide ((32 : Int) < 0) then none
  else (let v7 := shrI .u64 v5 (32 : Int)
  let v8 := IntKind.u32.wrap v7
  some (v6, v8, ()))
theorem bits_Add32.eval (k : Nat) (a0 : Int) (a1 : Int) (a2 : Int) : evalF bits_Add32.spec bits_Add32.cals T Try.f100 k (a0, a1, a2, ()) = bits_Add32.e  a0 a1 a2 := by kernel_rfl
theorem bits_Add32.F_eq (a0 : Int) (a1 : Int) (a2 : Int) : bits_Add32.F (a0, a1, a2, ()) = limF bits_Add32.spec bits_Add32.cals T Try.f100 (a0, a1, a2, ()) := by kernel_rfl
theorem bits_Add32.of (k : Nat) (a0 : Int) (a1 : Int) (a2 : Int) {y : Int × Int × Unit} (h : bits_Add32.e  a0 a1 a2 = some y) : bits_Add32.F (a0, a1, a2, ()) = some y := (bits_Add32.F_eq a0 a1 a2).trans (limF_of (q := bits_Add32.spec) (C := bits_Add32.cals) (T := T) (f := Try.f100) (x := (a0, a1, a2, ())) (y := y) k ((bits_Add32.eval k a0 a1 a2).trans h))
def nat_Add.spec : Spec := ⟨[(false, Kt23), (false, Kt23)], [(false, Kt23)], .own, fun j => match j with | 6 => [(0, .lf (.z 70 (.int .u32) false)), (1, .lf (.z 70 (.int .u32) false)), (5, .lf (.o 70 (.int .u32) true)), (6, .lf (.v true)), (21, .lf (.v true)), (22, .lf (.v true))] | _ => []⟩
noncomputable def nat_Add.cals : Cals := (Cals.cons 100 bits_Add32.sig (Cals.cons 99 nat_own.sig (Cals.base tabs)))
noncomputable def nat_Add.sig : Sig := nat_Add.spec.sig nat_Add.cals T Try.f79
noncomputable def nat_Add.F (x : Dt23 × Dt23 × Unit) : Option (Dt23 × Unit) := limF nat_Add.spec nat_Add.cals T Try.f79 x
theorem nat_Add.ck : CalsOk Try.prog nat_Add.cals := (CalsOk.cons bits_Add32.cal (CalsOk.cons nat_own.cal (CalsOk.base tabsOk)))
theorem nat_Add.cal : CalOk Try.prog tabs 79 nat_Add.sig := calOk_lim' tabOk nat_Add.ck mix Try.func79 (by kernel_rfl) (by kernel_rfl) (by kernel_rfl) (by kernel_rfl)
def nat_Add.m6 (x0 : Dt23) (x1 : Dt23) (x5 : Dt23) (x6 : Int) (x21 : Int) (x22 : Int) : S := ⟨[(0, .one (.lf (.val false Kt23 x0))), (1, .one (.lf (.val false Kt23 x1))), (5, .one (.lf (.own 0))), (6, .one (.lf (.val true (.int .u32) x6))), (21, .one (.lf (.val true (.int .i64) x21))), (22, .one (.lf (.val true (.int .i64) x22)))], ⟨[some ⟨70, (.int .u32), true, true, x5⟩], []⟩⟩
noncomputable def nat_Add.b6 (f6 : Dt23 → Dt23 → Dt23 → Int → Int → Int → Option (Dt23 × Unit)) (x0 : Dt23) (x1 : Dt23) (x5 : Dt23) (x6 : Int) (x21 : Int) (x22 : Int) : Option (Dt23 × Unit) :=
  let v1 := decide (x22 < x21)
  bif v1 then (let v2 := (List.length x1 : Int)
  let v3 := decide (x22 < v2)
  bif v3 then (bif decide (0 ≤ x22) && decide (x22 < (List.length x1 : Int)) then (let v4 := List.getD x1 (Int.toNat x22) (0 : Int)
  bif decide (0 ≤ x22) && decide (x22 < (List.length x0 : Int)) then (let v5 := List.getD x0 (Int.toNat x22) (0 : Int)
  (bits_Add32.F (v5, v4, x6, ())).bind fun y6 =>
  bif decide (0 ≤ x22) && decide (x22 < (List.length x5 : Int)) then (let v7 := List.set x5 (Int.toNat x22) y6.1
  let v8 := IntKind.i64.wrap (x22 + (1 : Int))
  f6 x0 x1 v7 y6.2.1 x21 v8)
  else none)
  else none)
  else none)
  else (bif decide (0 ≤ x22) && decide (x22 < (List.length x0 : Int)) then (let v9 := List.getD x0 (Int.toNat x22) (0 : Int)
  (bits_Add32.F (v9, (0 : Int), x6, ())).bind fun y10 =>
  bif decide (0 ≤ x22) && decide (x22 < (List.length x5 : Int)) then (let v11 := List.set x5 (Int.toNat x22) y10.1
  let v12 := IntKind.i64.wrap (x22 + (1 : Int))
  f6 x0 x1 v11 y10.2.1 x21 v12)
  else none)
  else none))
  else (let v13 := (List.length x0 : Int)
  bif decide (0 ≤ v13) && decide (v13 < (List.length x5 : Int)) then (let v14 := List.set x5 (Int.toNat v13) x6
  (nat_own.F (v14, ())).bind fun y15 =>
  some (y15.1, ()))
  else none)
noncomputable def nat_Add.e (f6 : Dt23 → Dt23 → Dt23 → Int → Int → Int → Option (Dt23 × Unit)) (a0 : Dt23) (a1 : Dt23) : Option (Dt23 × Unit) :=
  let v1 := (List.length a0 : Int)
  let v2 := (List.length a1 : Int)
  let v3 := decide (v1 < v2)
  bif v3 then (let v4 := (List.length a1 : Int)
  let v5 := IntKind.i64.wrap (v4 + (1 : Int))
  bif decide (0 ≤ v5) && (decide (v5 ≤ v5) && (decide (Int.toNat v5 * 4 ≤ 281474976710656) && Nat.blt 0 4)) then (let v6 := List.replicate (Int.toNat v5) (0 : Int)
  let v7 := (List.length a1 : Int)
  f6 a1 a0 v6 (0 : Int) v7 (0 : Int))
  else none)
  else (let v8 := (List.length a0 : Int)
  let v9 := IntKind.i64.wrap (v8 + (1 : Int))
  bif decide (0 ≤ v9) && (decide (v9 ≤ v9) && (decide (Int.toNat v9 * 4 ≤ 281474976710656) && Nat.blt 0 4)) then (let v10 := List.replicate (Int.toNat v9) (0 : Int)
  let v11 := (List.length a0 : Int)
  f6 a0 a1 v10 (0 : Int) v11 (0 : Int))
  else none)
noncomputable def nat_Add.L6 (k : Nat) (x0 : Dt23) (x1 : Dt23) (x5 : Dt23) (x6 : Int) (x21 : Int) (x22 : Int) : Option (Dt23 × Unit) := heads (nat_Add.spec.env nat_Add.cals T Try.f79) (Func.pts Try.f79) k 6 (nat_Add.m6 x0 x1 x5 x6 x21 x22)
theorem nat_Add.L6_succ (k : Nat) (x0 : Dt23) (x1 : Dt23) (x5 : Dt23) (x6 : Int) (x21 : Int) (x22 : Int) : nat_Add.L6 (k + 1) x0 x1 x5 x6 x21 x22 = nat_Add.b6 (nat_Add.L6 k) x0 x1 x5 x6 x21 x22 := by kernel_rfl
theorem nat_Add.eval (k : Nat) (a0 : Dt23) (a1 : Dt23) : evalF nat_Add.spec nat_Add.cals T Try.f79 k (a0, a1, ()) = nat_Add.e (nat_Add.L6 k) a0 a1 := by kernel_rfl
theorem nat_Add.F_eq (a0 : Dt23) (a1 : Dt23) : nat_Add.F (a0, a1, ()) = limF nat_Add.spec nat_Add.cals T Try.f79 (a0, a1, ()) := by kernel_rfl
theorem nat_Add.of (k : Nat) (a0 : Dt23) (a1 : Dt23) {y : Dt23 × Unit} (h : nat_Add.e (nat_Add.L6 k) a0 a1 = some y) : nat_Add.F (a0, a1, ()) = some y := (nat_Add.F_eq a0 a1).trans (limF_of (q := nat_Add.spec) (C := nat_Add.cals) (T := T) (f := Try.f79) (x := (a0, a1, ())) (y := y) k ((nat_Add.eval k a0 a1).trans h))
def nat_Cmp.spec : Spec := ⟨[(false, Kt23), (false, Kt23)], [(false, (.int .i64))], .own, fun j => match j with | 7 => [(0, .lf (.z 70 (.int .u32) false)), (1, .lf (.z 70 (.int .u32) false)), (5, .lf (.v true))] | _ => []⟩
noncomputable def nat_Cmp.cals : Cals := (Cals.cons 98 nat_trim.sig (Cals.base tabs))
noncomputable def nat_Cmp.sig : Sig := nat_Cmp.spec.sig nat_Cmp.cals T Try.f80
noncomputable def nat_Cmp.F (x : Dt23 × Dt23 × Unit) : Option (Int × Unit) := limF nat_Cmp.spec nat_Cmp.cals T Try.f80 x
theorem nat_Cmp.ck : CalsOk Try.prog nat_Cmp.cals := (CalsOk.cons nat_trim.cal (CalsOk.base tabsOk))
theorem nat_Cmp.cal : CalOk Try.prog tabs 80 nat_Cmp.sig := calOk_lim' tabOk nat_Cmp.ck mix Try.func80 (by kernel_rfl) (by kernel_rfl) (by kernel_rfl) (by kernel_rfl)
def nat_Cmp.m7 (x0 : Dt23) (x1 : Dt23) (x5 : Int) : S := ⟨[(0, .one (.lf (.val false Kt23 x0))), (1, .one (.lf (.val false Kt23 x1))), (5, .one (.lf (.val true (.int .i64) x5)))], ⟨[], []⟩⟩
noncomputable def nat_Cmp.b7 (f7 : Dt23 → Dt23 → Int → Option (Int × Unit)) (x0 : Dt23) (x1 : Dt23) (x5 : Int) : Option (Int × Unit) :=
  let v1 := decide (x5 ≥ (0 : Int))
  bif v1 then (bif decide (0 ≤ x5) && decide (x5 < (List.length x0 : Int)) then (let v2 := List.getD x0 (Int.toNat x5) (0 : Int)
  bif decide (0 ≤ x5) && decide (x5 < (List.length x1 : Int)) then (let v3 := List.getD x1 (Int.toNat x5) (0 : Int)
  let v4 := (v2 != v3)
  bif v4 then (bif decide (0 ≤ x5) && decide (x5 < (List.length x0 : Int)) then (let v5 := List.getD x0 (Int.toNat x5) (0 : Int)
  bif decide (0 ≤ x5) && decide (x5 < (List.length x1 : Int)) then (let v6 := List.getD x1 (Int.toNat x5) (0 : Int)
  let v7 := decide (v5 < v6)
  bif v7 then (some ((-1 : Int), ()))
  else (some ((1 : Int), ())))
  else none)
  else none)
  else (let v8 := IntKind.i64.wrap (x5 - (1 : Int))
  f7 x0 x1 v8))
  else none)
  else none)
  else (some ((0 : Int), ()))
noncomputable def nat_Cmp.e (f7 : Dt23 → Dt23 → Int → Option (Int × Unit)) (a0 : Dt23) (a1 : Dt23) : Option (Int × Unit) :=
  (nat_trim.F (a0, ())).bind fun y1 =>
  (nat_trim.F (a1, ())).bind fun y2 =>
  let v3 := (List.length y1.1 : Int)
  let v4 := (List.length y2.1 : Int)
  let v5 := (v3 != v4)
  bif v5 then (let v6 := (List.length y1.1 : Int)
  let v7 := (List.length y2.1 : Int)
  let v8 := decide (v6 < v7)
  bif v8 then (some ((-1 : Int), ()))
  else (some ((1 : Int), ())))
  else (let v9 := (List.length y1.1 : Int)
  let v10 := IntKind.i64.wrap (v9 - (1 : Int))
  f7 y1.1 y2.1 v10)
noncomputable def nat_Cmp.L7 (k : Nat) (x0 : Dt23) (x1 : Dt23) (x5 : Int) : Option (Int × Unit) := heads (nat_Cmp.spec.env nat_Cmp.cals T Try.f80) (Func.pts Try.f80) k 7 (nat_Cmp.m7 x0 x1 x5)
theorem nat_Cmp.L7_succ (k : Nat) (x0 : Dt23) (x1 : Dt23) (x5 : Int) : nat_Cmp.L7 (k + 1) x0 x1 x5 = nat_Cmp.b7 (nat_Cmp.L7 k) x0 x1 x5 := by kernel_rfl
theorem nat_Cmp.eval (k : Nat) (a0 : Dt23) (a1 : Dt23) : evalF nat_Cmp.spec nat_Cmp.cals T Try.f80 k (a0, a1, ()) = nat_Cmp.e (nat_Cmp.L7 k) a0 a1 := by kernel_rfl
theorem nat_Cmp.F_eq (a0 : Dt23) (a1 : Dt23) : nat_Cmp.F (a0, a1, ()) = limF nat_Cmp.spec nat_Cmp.cals T Try.f80 (a0, a1, ()) := by kernel_rfl
theorem nat_Cmp.of (k : Nat) (a0 : Dt23) (a1 : Dt23) {y : Int × Unit} (h : nat_Cmp.e (nat_Cmp.L7 k) a0 a1 = some y) : nat_Cmp.F (a0, a1, ()) = some y := (nat_Cmp.F_eq a0 a1).trans (limF_of (q := nat_Cmp.spec) (C := nat_Cmp.cals) (T := T) (f := Try.f80) (x := (a0, a1, ())) (y := y) k ((nat_Cmp.eval k a0 a1).trans h))
def bits_Sub32.spec : Spec := ⟨[(false, (.int .u32)), (false, (.int .u32)), (false, (.int .u32))], [(false, (.int .u32)), (false, (.int .u32))], .own, fun j => match j with  | _ => []⟩
noncomputable def bits_Sub32.cals : Cals := (Cals.base tabs)
noncomputable def bits_Sub32.sig : Sig := bits_Sub32.spec.sig bits_Sub32.cals T Try.f101
noncomputable def bits_Sub32.F (x : Int × Int × Int × Unit) : Option (Int × Int × Unit) := limF bits_Sub32.spec bits_Sub32.cals T Try.f101 x
theorem bits_Sub32.ck : CalsOk Try.prog bits_Sub32.cals := (CalsOk.base tabsOk)
theorem bits_Sub32.cal : CalOk Try.prog tabs 101 bits_Sub32.sig := calOk_lim' tabOk bits_Sub32.ck mix Try.func101 (by kernel_rfl) (by kernel_rfl) (by kernel_rfl) (by kernel_rfl)
noncomputable def bits_Sub32.e  (a0 : Int) (a1 : Int) (a2 : Int) : Option (Int × Int × Unit) :=
  let v1 := IntKind.u32.wrap (a0 - a1)
  let v2 := IntKind.u32.wrap (v1 - a2)
  let v3 := bitsOp .xor .u32 (if IntKind.u32.signed then -1 else IntKind.u32.max) a0
  let v4 := bitsOp .and .u32 v3 a1
  let v5 := bitsOp .xor .u32 a0 a1
  let v6 := bitsOp .xor .u32 (if IntKind.u32.signed then -1 else IntKind.u32.max) v5
  let v7 := bitsOp .and .u32 v6 v2
  let v8 := bitsOp .or .u32 v4 v7
  bif decide ((31 : Int) < 0) then none
  else (let v9 := shrI .u32 v8 (31 : Int)
  some (v2, v9, ()))
theorem bits_Sub32.eval (k : Nat) (a0 : Int) (a1 : Int) (a2 : Int) : evalF bits_Sub32.spec bits_Sub32.cals T Try.f101 k (a0, a1, a2, ()) = bits_Sub32.e  a0 a1 a2 := by kernel_rfl
theorem bits_Sub32.F_eq (a0 : Int) (a1 : Int) (a2 : Int) : bits_Sub32.F (a0, a1, a2, ()) = limF bits_Sub32.spec bits_Sub32.cals T Try.f101 (a0, a1, a2, ()) := by kernel_rfl
theorem bits_Sub32.of (k : Nat) (a0 : Int) (a1 : Int) (a2 : Int) {y : Int × Int × Unit} (h : bits_Sub32.e  a0 a1 a2 = some y) : bits_Sub32.F (a0, a1, a2, ()) = some y := (bits_Sub32.F_eq a0 a1 a2).trans (limF_of (q := bits_Sub32.spec) (C := bits_Sub32.cals) (T := T) (f := Try.f101) (x := (a0, a1, a2, ())) (y := y) k ((bits_Sub32.eval k a0 a1 a2).trans h))
def nat_Sub.spec : Spec := ⟨[(false, Kt23), (false, Kt23)], [(false, Kt23), (false, (.int .i64))], .own, fun j => match j with | 7 => [(0, .lf (.z 70 (.int .u32) false)), (1, .lf (.z 70 (.int .u32) false)), (6, .lf (.o 70 (.int .u32) true)), (7, .lf (.v true)), (20, .lf (.v true)), (21, .lf (.v true))] | _ => []⟩
noncomputable def nat_Sub.cals : Cals := (Cals.cons 80 nat_Cmp.sig (Cals.cons 98 nat_trim.sig (Cals.cons 101 bits_Sub32.sig (Cals.cons 99 nat_own.sig (Cals.base tabs)))))
noncomputable def nat_Sub.sig : Sig := nat_Sub.spec.sig nat_Sub.cals T Try.f81
noncomputable def nat_Sub.F (x : Dt23 × Dt23 × Unit) : Option (Dt23 × Int × Unit) := limF nat_Sub.spec nat_Sub.cals T Try.f81 x
theorem nat_Sub.ck : CalsOk Try.prog nat_Sub.cals := (CalsOk.cons nat_Cmp.cal (CalsOk.cons nat_trim.cal (CalsOk.cons bits_Sub32.cal (CalsOk.cons nat_own.cal (CalsOk.base tabsOk)))))
theorem nat_Sub.cal : CalOk Try.prog tabs 81 nat_Sub.sig := calOk_lim' tabOk nat_Sub.ck mix Try.func81 (by kernel_rfl) (by kernel_rfl) (by kernel_rfl) (by kernel_rfl)
def nat_Sub.m7 (x0 : Dt23) (x1 : Dt23) (x6 : Dt23) (x7 : Int) (x20 : Int) (x21 : Int) : S := ⟨[(0, .one (.lf (.val false Kt23 x0))), (1, .one (.lf (.val false Kt23 x1))), (6, .one (.lf (.own 0))), (7, .one (.lf (.val true (.int .u32) x7))), (20, .one (.lf (.val true (.int .i64) x20))), (21, .one (.lf (.val true (.int .i64) x21)))], ⟨[some ⟨70, (.int .u32), true, true, x6⟩], []⟩⟩
noncomputable def nat_Sub.b7 (f7 : Dt23 → Dt23 → Dt23 → Int → Int → Int → Option (Dt23 × Int × Unit)) (x0 : Dt23) (x1 : Dt23) (x6 : Dt23) (x7 : Int) (x20 : Int) (x21 : Int) : Option (Dt23 × Int × Unit) :=
  let v1 := decide (x21 < x20)
  bif v1 then (let v2 := (List.length x1 : Int)
  let v3 := decide (x21 < v2)
  bif v3 then (bif decide (0 ≤ x21) && decide (x21 < (List.length x1 : Int)) then (let v4 := List.getD x1 (Int.toNat x21) (0 : Int)
  bif decide (0 ≤ x21) && decide (x21 < (List.length x0 : Int)) then (let v5 := List.getD x0 (Int.toNat x21) (0 : Int)
  (bits_Sub32.F (v5, v4, x7, ())).bind fun y6 =>
  bif decide (0 ≤ x21) && decide (x21 < (List.length x6 : Int)) then (let v7 := List.set x6 (Int.toNat x21) y6.1
  let v8 := IntKind.i64.wrap (x21 + (1 : Int))
  f7 x0 x1 v7 y6.2.1 x20 v8)
  else none)
  else none)
  else none)
  else (bif decide (0 ≤ x21) && decide (x21 < (List.length x0 : Int)) then (let v9 := List.getD x0 (Int.toNat x21) (0 : Int)
  (bits_Sub32.F (v9, (0 : Int), x7, ())).bind fun y10 =>
  bif decide (0 ≤ x21) && decide (x21 < (List.length x6 : Int)) then (let v11 := List.set x6 (Int.toNat x21) y10.1
  let v12 := IntKind.i64.wrap (x21 + (1 : Int))
  f7 x0 x1 v11 y10.2.1 x20 v12)
  else none)
  else none))
  else ((nat_own.F (x6, ())).bind fun y13 =>
  some (y13.1, (0 : Int), ()))
noncomputable def nat_Sub.e (f7 : Dt23 → Dt23 → Dt23 → Int → Int → Int → Option (Dt23 × Int × Unit)) (a0 : Dt23) (a1 : Dt23) : Option (Dt23 × Int × Unit) :=
  (nat_Cmp.F (a0, a1, ())).bind fun y1 =>
  let v2 := decide (y1.1 < (0 : Int))
  bif v2 then (some (zt23, (10 : Int), ()))
  else ((nat_trim.F (a1, ())).bind fun y3 =>
  let v4 := (List.length a0 : Int)
  bif decide (0 ≤ v4) && (decide (v4 ≤ v4) && (decide (Int.toNat v4 * 4 ≤ 281474976710656) && Nat.blt 0 4)) then (let v5 := List.replicate (Int.toNat v4) (0 : Int)
  let v6 := (List.length a0 : Int)
  f7 a0 y3.1 v5 (0 : Int) v6 (0 : Int))
  else none)
noncomputable def nat_Sub.L7 (k : Nat) (x0 : Dt23) (x1 : Dt23) (x6 : Dt23) (x7 : Int) (x20 : Int) (x21 : Int) : Option (Dt23 × Int × Unit) := heads (nat_Sub.spec.env nat_Sub.cals T Try.f81) (Func.pts Try.f81) k 7 (nat_Sub.m7 x0 x1 x6 x7 x20 x21)
theorem nat_Sub.L7_succ (k : Nat) (x0 : Dt23) (x1 : Dt23) (x6 : Dt23) (x7 : Int) (x20 : Int) (x21 : Int) : nat_Sub.L7 (k + 1) x0 x1 x6 x7 x20 x21 = nat_Sub.b7 (nat_Sub.L7 k) x0 x1 x6 x7 x20 x21 := by kernel_rfl
theorem nat_Sub.eval (k : Nat) (a0 : Dt23) (a1 : Dt23) : evalF nat_Sub.spec nat_Sub.cals T Try.f81 k (a0, a1, ()) = nat_Sub.e (nat_Sub.L7 k) a0 a1 := by kernel_rfl
theorem nat_Sub.F_eq (a0 : Dt23) (a1 : Dt23) : nat_Sub.F (a0, a1, ()) = limF nat_Sub.spec nat_Sub.cals T Try.f81 (a0, a1, ()) := by kernel_rfl
theorem nat_Sub.of (k : Nat) (a0 : Dt23) (a1 : Dt23) {y : Dt23 × Int × Unit} (h : nat_Sub.e (nat_Sub.L7 k) a0 a1 = some y) : nat_Sub.F (a0, a1, ()) = some y := (nat_Sub.F_eq a0 a1).trans (limF_of (q := nat_Sub.spec) (C := nat_Sub.cals) (T := T) (f := Try.f81) (x := (a0, a1, ())) (y := y) k ((nat_Sub.eval k a0 a1).trans h))
def whole_Add.spec : Spec := ⟨[(true, Kt25), (true, Kt25)], [(true, Kt25)], .own, fun j => match j with  | _ => []⟩
noncomputable def whole_Add.cals : Cals := (Cals.cons 29 whole_Sign.sig (Cals.cons 79 nat_Add.sig (Cals.cons 72 whole_signed.sig (Cals.cons 80 nat_Cmp.sig (Cals.cons 81 nat_Sub.sig (Cals.base tabs))))))
noncomputable def whole_Add.sig : Sig := whole_Add.spec.sig whole_Add.cals T Try.f31
noncomputable def whole_Add.F (x : Dt25 × Dt25 × Unit) : Option (Dt25 × Unit) := limF whole_Add.spec whole_Add.cals T Try.f31 x
theorem whole_Add.ck : CalsOk Try.prog whole_Add.cals := (CalsOk.cons whole_Sign.cal (CalsOk.cons nat_Add.cal (CalsOk.cons whole_signed.cal (CalsOk.cons nat_Cmp.cal (CalsOk.cons nat_Sub.cal (CalsOk.base tabsOk))))))
theorem whole_Add.cal : CalOk Try.prog tabs 31 whole_Add.sig := calOk_lim' tabOk whole_Add.ck mix Try.func31 (by kernel_rfl) (by kernel_rfl) (by kernel_rfl) (by kernel_rfl)
noncomputable def whole_Add.e  (a0 : Dt25) (a1 : Dt25) : Option (Dt25 × Unit) :=
  (whole_Sign.F ((a0.1, a0.2), ())).bind fun y1 =>
  (whole_Sign.F ((a1.1, a1.2), ())).bind fun y2 =>
  let v3 := IntKind.i64.wrap (y1.1 * y2.1)
  let v4 := decide (v3 ≥ (0 : Int))
  bif v4 then ((nat_Add.F (a0.2, a1.2, ())).bind fun y5 =>
  let v6 := bitsOp .or .i64 y1.1 y2.1
  let v7 := bitsOp .or .i64 v6 (1 : Int)
  let v8 := ([v7] : List Int)
  (whole_signed.F (y5.1, v8, ())).bind fun y9 =>
  some ((y9.1.1, y9.1.2), ()))
  else ((nat_Cmp.F (a0.2, a1.2, ())).bind fun y10 =>
  let v11 := decide (y10.1 ≥ (0 : Int))
  bif v11 then ((nat_Sub.F (a0.2, a1.2, ())).bind fun y12 =>
  let v13 := ([y1.1] : List Int)
  (whole_signed.F (y12.1, v13, ())).bind fun y14 =>
  some ((y14.1.1, y14.1.2), ()))
  else ((nat_Sub.F (a1.2, a0.2, ())).bind fun y15 =>
  let v16 := ([y2.1] : List Int)
  (whole_signed.F (y15.1, v16, ())).bind fun y17 =>
  some ((y17.1.1, y17.1.2), ())))
theorem whole_Add.eval (k : Nat) (a0 : Dt25) (a1 : Dt25) : evalF whole_Add.spec whole_Add.cals T Try.f31 k (a0, a1, ()) = whole_Add.e  a0 a1 := by kernel_rfl
theorem whole_Add.F_eq (a0 : Dt25) (a1 : Dt25) : whole_Add.F (a0, a1, ()) = limF whole_Add.spec whole_Add.cals T Try.f31 (a0, a1, ()) := by kernel_rfl
theorem whole_Add.of (k : Nat) (a0 : Dt25) (a1 : Dt25) {y : Dt25 × Unit} (h : whole_Add.e  a0 a1 = some y) : whole_Add.F (a0, a1, ()) = some y := (whole_Add.F_eq a0 a1).trans (limF_of (q := whole_Add.spec) (C := whole_Add.cals) (T := T) (f := Try.f31) (x := (a0, a1, ())) (y := y) k ((whole_Add.eval k a0 a1).trans h))
def whole_Sub.spec : Spec := ⟨[(true, Kt25), (true, Kt25)], [(true, Kt25)], .own, fun j => match j with  | _ => []⟩
noncomputable def whole_Sub.cals : Cals := (Cals.cons 24 whole_Neg.sig (Cals.cons 31 whole_Add.sig (Cals.base tabs)))
noncomputable def whole_Sub.sig : Sig := whole_Sub.spec.sig whole_Sub.cals T Try.f33
noncomputable def whole_Sub.F (x : Dt25 × Dt25 × Unit) : Option (Dt25 × Unit) := limF whole_Sub.spec whole_Sub.cals T Try.f33 x
theorem whole_Sub.ck : CalsOk Try.prog whole_Sub.cals := (CalsOk.cons whole_Neg.cal (CalsOk.cons whole_Add.cal (CalsOk.base tabsOk)))
theorem whole_Sub.cal : CalOk Try.prog tabs 33 whole_Sub.sig := calOk_lim' tabOk whole_Sub.ck mix Try.func33 (by kernel_rfl) (by kernel_rfl) (by kernel_rfl) (by kernel_rfl)
noncomputable def whole_Sub.e  (a0 : Dt25) (a1 : Dt25) : Option (Dt25 × Unit) :=
  (whole_Neg.F ((a1.1, a1.2), ())).bind fun y1 =>
  (whole_Add.F ((a0.1, a0.2), (y1.1.1, y1.1.2), ())).bind fun y2 =>
  some ((y2.1.1, y2.1.2), ())
theorem whole_Sub.eval (k : Nat) (a0 : Dt25) (a1 : Dt25) : evalF whole_Sub.spec whole_Sub.cals T Try.f33 k (a0, a1, ()) = whole_Sub.e  a0 a1 := by kernel_rfl
theorem whole_Sub.F_eq (a0 : Dt25) (a1 : Dt25) : whole_Sub.F (a0, a1, ()) = limF whole_Sub.spec whole_Sub.cals T Try.f33 (a0, a1, ()) := by kernel_rfl
theorem whole_Sub.of (k : Nat) (a0 : Dt25) (a1 : Dt25) {y : Dt25 × Unit} (h : whole_Sub.e  a0 a1 = some y) : whole_Sub.F (a0, a1, ()) = some y := (whole_Sub.F_eq a0 a1).trans (limF_of (q := whole_Sub.spec) (C := whole_Sub.cals) (T := T) (f := Try.f33) (x := (a0, a1, ())) (y := y) k ((whole_Sub.eval k a0 a1).trans h))
def whole_Cmp.spec : Spec := ⟨[(true, Kt25), (true, Kt25)], [(false, (.int .i64))], .own, fun j => match j with  | _ => []⟩
noncomputable def whole_Cmp.cals : Cals := (Cals.cons 33 whole_Sub.sig (Cals.cons 29 whole_Sign.sig (Cals.base tabs)))
noncomputable def whole_Cmp.sig : Sig := whole_Cmp.spec.sig whole_Cmp.cals T Try.f37
noncomputable def whole_Cmp.F (x : Dt25 × Dt25 × Unit) : Option (Int × Unit) := limF whole_Cmp.spec whole_Cmp.cals T Try.f37 x
theorem whole_Cmp.ck : CalsOk Try.prog whole_Cmp.cals := (CalsOk.cons whole_Sub.cal (CalsOk.cons whole_Sign.cal (CalsOk.base tabsOk)))
theorem whole_Cmp.cal : CalOk Try.prog tabs 37 whole_Cmp.sig := calOk_lim' tabOk whole_Cmp.ck mix Try.func37 (by kernel_rfl) (by kernel_rfl) (by kernel_rfl) (by kernel_rfl)
noncomputable def whole_Cmp.e  (a0 : Dt25) (a1 : Dt25) : Option (Int × Unit) :=
  (whole_Sub.F ((a0.1, a0.2), (a1.1, a1.2), ())).bind fun y1 =>
  (whole_Sign.F ((y1.1.1, y1.1.2), ())).bind fun y2 =>
  some (y2.1, ())
theorem whole_Cmp.eval (k : Nat) (a0 : Dt25) (a1 : Dt25) : evalF whole_Cmp.spec whole_Cmp.cals T Try.f37 k (a0, a1, ()) = whole_Cmp.e  a0 a1 := by kernel_rfl
theorem whole_Cmp.F_eq (a0 : Dt25) (a1 : Dt25) : whole_Cmp.F (a0, a1, ()) = limF whole_Cmp.spec whole_Cmp.cals T Try.f37 (a0, a1, ()) := by kernel_rfl
theorem whole_Cmp.of (k : Nat) (a0 : Dt25) (a1 : Dt25) {y : Int × Unit} (h : whole_Cmp.e  a0 a1 = some y) : whole_Cmp.F (a0, a1, ()) = some y := (whole_Cmp.F_eq a0 a1).trans (limF_of (q := whole_Cmp.spec) (C := whole_Cmp.cals) (T := T) (f := Try.f37) (x := (a0, a1, ())) (y := y) k ((whole_Cmp.eval k a0 a1).trans h))
def fulcrumlaw02_one.spec : Spec := ⟨[], [(true, Kt25)], .own, fun j => match j with  | _ => []⟩
noncomputable def fulcrumlaw02_one.cals : Cals := (Cals.cons 20 whole_Of.sig (Cals.base tabs))
noncomputable def fulcrumlaw02_one.sig : Sig := fulcrumlaw02_one.spec.sig fulcrumlaw02_one.cals T Try.f40
noncomputable def fulcrumlaw02_one.F (x : Unit) : Option (Dt25 × Unit) := limF fulcrumlaw02_one.spec fulcrumlaw02_one.cals T Try.f40 x
theorem fulcrumlaw02_one.ck : CalsOk Try.prog fulcrumlaw02_one.cals := (CalsOk.cons whole_Of.cal (CalsOk.base tabsOk))
theorem fulcrumlaw02_one.cal : CalOk Try.prog tabs 40 fulcrumlaw02_one.sig := calOk_lim' tabOk fulcrumlaw02_one.ck mix Try.func40 (by kernel_rfl) (by kernel_rfl) (by kernel_rfl) (by kernel_rfl)
noncomputable def fulcrumlaw02_one.e   : Option (Dt25 × Unit) :=
  (whole_Of.F ((1 : Int), ())).bind fun y1 =>
  some ((y1.1.1, y1.1.2), ())
theorem fulcrumlaw02_one.eval (k : Nat)  : evalF fulcrumlaw02_one.spec fulcrumlaw02_one.cals T Try.f40 k () = fulcrumlaw02_one.e   := by kernel_rfl
theorem fulcrumlaw02_one.F_eq  : fulcrumlaw02_one.F () = limF fulcrumlaw02_one.spec fulcrumlaw02_one.cals T Try.f40 () := by kernel_rfl
theorem fulcrumlaw02_one.of (k : Nat)  {y : Dt25 × Unit} (h : fulcrumlaw02_one.e   = some y) : fulcrumlaw02_one.F () = some y := (fulcrumlaw02_one.F_eq ).trans (limF_of (q := fulcrumlaw02_one.spec) (C := fulcrumlaw02_one.cals) (T := T) (f := Try.f40) (x := ()) (y := y) k ((fulcrumlaw02_one.eval k ).trans h))
def fulcrumlaw02_awake.spec : Spec := ⟨[], [(false, .bool)], .own, fun j => match j with  | _ => []⟩
noncomputable def fulcrumlaw02_awake.cals : Cals := (Cals.cons 20 whole_Of.sig (Cals.cons 40 fulcrumlaw02_one.sig (Cals.cons 37 whole_Cmp.sig (Cals.cons 29 whole_Sign.sig (Cals.base tabs)))))
noncomputable def fulcrumlaw02_awake.sig : Sig := fulcrumlaw02_awake.spec.sig fulcrumlaw02_awake.cals T Try.f39
noncomputable def fulcrumlaw02_awake.F (x : Unit) : Option (Bool × Unit) := limF fulcrumlaw02_awake.spec fulcrumlaw02_awake.cals T Try.f39 x
theorem fulcrumlaw02_awake.ck : CalsOk Try.prog fulcrumlaw02_awake.cals := (CalsOk.cons whole_Of.cal (CalsOk.cons fulcrumlaw02_one.cal (CalsOk.cons whole_Cmp.cal (CalsOk.cons whole_Sign.cal (CalsOk.base tabsOk)))))
theorem fulcrumlaw02_awake.cal : CalOk Try.prog tabs 39 fulcrumlaw02_awake.sig := calOk_lim' tabOk fulcrumlaw02_awake.ck mix Try.func39 (by kernel_rfl) (by kernel_rfl) (by kernel_rfl) (by kernel_rfl)
noncomputable def fulcrumlaw02_awake.e   : Option (Bool × Unit) :=
  (whole_Of.F ((2 : Int), ())).bind fun y1 =>
  (fulcrumlaw02_one.F ()).bind fun y2 =>
  (whole_Cmp.F ((y1.1.1, y1.1.2), (y2.1.1, y2.1.2), ())).bind fun y3 =>
  let v4 := (y3.1 == (1 : Int))
  bif v4 then ((fulcrumlaw02_one.F ()).bind fun y5 =>
  (whole_Sign.F ((y5.1.1, y5.1.2), ())).bind fun y6 =>
  let v7 := (y6.1 == (1 : Int))
  bif v7 then ((whole_Of.F ((0 : Int), ())).bind fun y8 =>
  (whole_Sign.F ((y8.1.1, y8.1.2), ())).bind fun y9 =>
  let v10 := (y9.1 == (0 : Int))
  some (v10, ()))
  else (some (false, ())))
  else (some (false, ()))
theorem fulcrumlaw02_awake.eval (k : Nat)  : evalF fulcrumlaw02_awake.spec fulcrumlaw02_awake.cals T Try.f39 k () = fulcrumlaw02_awake.e   := by kernel_rfl
theorem fulcrumlaw02_awake.F_eq  : fulcrumlaw02_awake.F () = limF fulcrumlaw02_awake.spec fulcrumlaw02_awake.cals T Try.f39 () := by kernel_rfl
theorem fulcrumlaw02_awake.of (k : Nat)  {y : Bool × Unit} (h : fulcrumlaw02_awake.e   = some y) : fulcrumlaw02_awake.F () = some y := (fulcrumlaw02_awake.F_eq ).trans (limF_of (q := fulcrumlaw02_awake.spec) (C := fulcrumlaw02_awake.cals) (T := T) (f := Try.f39) (x := ()) (y := y) k ((fulcrumlaw02_awake.eval k ).trans h))
def whole_Norm.spec : Spec := ⟨[(true, Kt25)], [(true, Kt25)], .own, fun j => match j with  | _ => []⟩
noncomputable def whole_Norm.cals : Cals := (Cals.cons 29 whole_Sign.sig (Cals.cons 72 whole_signed.sig (Cals.base tabs)))
noncomputable def whole_Norm.sig : Sig := whole_Norm.spec.sig whole_Norm.cals T Try.f22
noncomputable def whole_Norm.F (x : Dt25 × Unit) : Option (Dt25 × Unit) := limF whole_Norm.spec whole_Norm.cals T Try.f22 x
theorem whole_Norm.ck : CalsOk Try.prog whole_Norm.cals := (CalsOk.cons whole_Sign.cal (CalsOk.cons whole_signed.cal (CalsOk.base tabsOk)))
theorem whole_Norm.cal : CalOk Try.prog tabs 22 whole_Norm.sig := calOk_lim' tabOk whole_Norm.ck mix Try.func22 (by kernel_rfl) (by kernel_rfl) (by kernel_rfl) (by kernel_rfl)
noncomputable def whole_Norm.e  (a0 : Dt25) : Option (Dt25 × Unit) :=
  (whole_Sign.F ((a0.1, a0.2), ())).bind fun y1 =>
  let v2 := ([y1.1] : List Int)
  (whole_signed.F (a0.2, v2, ())).bind fun y3 =>
  some ((y3.1.1, y3.1.2), ())
theorem whole_Norm.eval (k : Nat) (a0 : Dt25) : evalF whole_Norm.spec whole_Norm.cals T Try.f22 k (a0, ()) = whole_Norm.e  a0 := by kernel_rfl
theorem whole_Norm.F_eq (a0 : Dt25) : whole_Norm.F (a0, ()) = limF whole_Norm.spec whole_Norm.cals T Try.f22 (a0, ()) := by kernel_rfl
theorem whole_Norm.of (k : Nat) (a0 : Dt25) {y : Dt25 × Unit} (h : whole_Norm.e  a0 = some y) : whole_Norm.F (a0, ()) = some y := (whole_Norm.F_eq a0).trans (limF_of (q := whole_Norm.spec) (C := whole_Norm.cals) (T := T) (f := Try.f22) (x := (a0, ())) (y := y) k ((whole_Norm.eval k a0).trans h))
def whole_Abs.spec : Spec := ⟨[(true, Kt25)], [(false, Kt23)], .own, fun j => match j with  | _ => []⟩
noncomputable def whole_Abs.cals : Cals := (Cals.cons 76 nat_Norm.sig (Cals.base tabs))
noncomputable def whole_Abs.sig : Sig := whole_Abs.spec.sig whole_Abs.cals T Try.f27
noncomputable def whole_Abs.F (x : Dt25 × Unit) : Option (Dt23 × Unit) := limF whole_Abs.spec whole_Abs.cals T Try.f27 x
theorem whole_Abs.ck : CalsOk Try.prog whole_Abs.cals := (CalsOk.cons nat_Norm.cal (CalsOk.base tabsOk))
theorem whole_Abs.cal : CalOk Try.prog tabs 27 whole_Abs.sig := calOk_lim' tabOk whole_Abs.ck mix Try.func27 (by kernel_rfl) (by kernel_rfl) (by kernel_rfl) (by kernel_rfl)
noncomputable def whole_Abs.e  (a0 : Dt25) : Option (Dt23 × Unit) :=
  (nat_Norm.F (a0.2, ())).bind fun y1 =>
  some (y1.1, ())
theorem whole_Abs.eval (k : Nat) (a0 : Dt25) : evalF whole_Abs.spec whole_Abs.cals T Try.f27 k (a0, ()) = whole_Abs.e  a0 := by kernel_rfl
theorem whole_Abs.F_eq (a0 : Dt25) : whole_Abs.F (a0, ()) = limF whole_Abs.spec whole_Abs.cals T Try.f27 (a0, ()) := by kernel_rfl
theorem whole_Abs.of (k : Nat) (a0 : Dt25) {y : Dt23 × Unit} (h : whole_Abs.e  a0 = some y) : whole_Abs.F (a0, ()) = some y := (whole_Abs.F_eq a0).trans (limF_of (q := whole_Abs.spec) (C := whole_Abs.cals) (T := T) (f := Try.f27) (x := (a0, ())) (y := y) k ((whole_Abs.eval k a0).trans h))
def nat_Mul.spec : Spec := ⟨[(false, Kt23), (false, Kt23)], [(false, Kt23)], .own, fun j => match j with | 4 => [(0, .lf (.z 70 (.int .u32) false)), (1, .lf (.z 70 (.int .u32) false)), (5, .lf (.o 70 (.int .u32) true)), (21, .lf (.v true)), (22, .lf (.v true))] | 8 => [(0, .lf (.z 70 (.int .u32) false)), (1, .lf (.z 70 (.int .u32) false)), (5, .lf (.o 70 (.int .u32) true)), (6, .lf (.v true)), (7, .lf (.v true)), (21, .lf (.v true)), (22, .lf (.v true)), (26, .lf (.v true)), (27, .lf (.v true))] | _ => []⟩
noncomputable def nat_Mul.cals : Cals := (Cals.cons 98 nat_trim.sig (Cals.cons 99 nat_own.sig (Cals.base tabs)))
noncomputable def nat_Mul.sig : Sig := nat_Mul.spec.sig nat_Mul.cals T Try.f85
noncomputable def nat_Mul.F (x : Dt23 × Dt23 × Unit) : Option (Dt23 × Unit) := limF nat_Mul.spec nat_Mul.cals T Try.f85 x
theorem nat_Mul.ck : CalsOk Try.prog nat_Mul.cals := (CalsOk.cons nat_trim.cal (CalsOk.cons nat_own.cal (CalsOk.base tabsOk)))
theorem nat_Mul.cal : CalOk Try.prog tabs 85 nat_Mul.sig := calOk_lim' tabOk nat_Mul.ck mix Try.func85 (by kernel_rfl) (by kernel_rfl) (by kernel_rfl) (by kernel_rfl)
def nat_Mul.m4 (x0 : Dt23) (x1 : Dt23) (x5 : Dt23) (x21 : Int) (x22 : Int) : S := ⟨[(0, .one (.lf (.val false Kt23 x0))), (1, .one (.lf (.val false Kt23 x1))), (5, .one (.lf (.own 0))), (21, .one (.lf (.val true (.int .i64) x21))), (22, .one (.lf (.val true (.int .i64) x22)))], ⟨[some ⟨70, (.int .u32), true, true, x5⟩], []⟩⟩
def nat_Mul.m8 (x0 : Dt23) (x1 : Dt23) (x5 : Dt23) (x6 : Int) (x7 : Int) (x21 : Int) (x22 : Int) (x26 : Int) (x27 : Int) : S := ⟨[(0, .one (.lf (.val false Kt23 x0))), (1, .one (.lf (.val false Kt23 x1))), (5, .one (.lf (.own 0))), (6, .one (.lf (.val true (.int .i64) x6))), (7, .one (.lf (.val true (.int .u64) x7))), (21, .one (.lf (.val true (.int .i64) x21))), (22, .one (.lf (.val true (.int .i64) x22))), (26, .one (.lf (.val true (.int .i64) x26))), (27, .one (.lf (.val true (.int .i64) x27)))], ⟨[some ⟨70, (.int .u32), true, true, x5⟩], []⟩⟩
noncomputable def nat_Mul.b4 (f4 : Dt23 → Dt23 → Dt23 → Int → Int → Option (Dt23 × Unit)) (f8 : Dt23 → Dt23 → Dt23 → Int → Int → Int → Int → Int → Int → Option (Dt23 × Unit)) (x0 : Dt23) (x1 : Dt23) (x5 : Dt23) (x21 : Int) (x22 : Int) : Option (Dt23 × Unit) :=
  let v1 := decide (x22 < x21)
  bif v1 then (let v2 := (List.length x1 : Int)
  f8 x0 x1 x5 x22 (0 : Int) x21 x22 v2 (0 : Int))
  else ((nat_own.F (x5, ())).bind fun y3 =>
  some (y3.1, ()))
noncomputable def nat_Mul.b8 (f4 : Dt23 → Dt23 → Dt23 → Int → Int → Option (Dt23 × Unit)) (f8 : Dt23 → Dt23 → Dt23 → Int → Int → Int → Int → Int → Int → Option (Dt23 × Unit)) (x0 : Dt23) (x1 : Dt23) (x5 : Dt23) (x6 : Int) (x7 : Int) (x21 : Int) (x22 : Int) (x26 : Int) (x27 : Int) : Option (Dt23 × Unit) :=
  let v1 := decide (x27 < x26)
  bif v1 then (bif decide (0 ≤ x6) && decide (x6 < (List.length x0 : Int)) then (let v2 := List.getD x0 (Int.toNat x6) (0 : Int)
  let v3 := IntKind.u64.wrap v2
  bif decide (0 ≤ x27) && decide (x27 < (List.length x1 : Int)) then (let v4 := List.getD x1 (Int.toNat x27) (0 : Int)
  let v5 := IntKind.u64.wrap v4
  let v6 := IntKind.u64.wrap (v3 * v5)
  let v7 := IntKind.i64.wrap (x6 + x27)
  bif decide (0 ≤ v7) && decide (v7 < (List.length x5 : Int)) then (let v8 := List.getD x5 (Int.toNat v7) (0 : Int)
  let v9 := IntKind.u64.wrap v8
  let v10 := IntKind.u64.wrap (v6 + v9)
  let v11 := IntKind.u64.wrap (v10 + x7)
  let v12 := IntKind.i64.wrap (x6 + x27)
  let v13 := IntKind.u32.wrap v11
  bif decide (0 ≤ v12) && decide (v12 < (List.length x5 : Int)) then (let v14 := List.set x5 (Int.toNat v12) v13
  bif decide ((32 : Int) < 0) then none
  else (let v15 := shrI .u64 v11 (32 : Int)
  let v16 := IntKind.i64.wrap (x27 + (1 : Int))
  f8 x0 x1 v14 x6 v15 x21 x22 x26 v16))
  else none)
  else none)
  else none)
  else none)
  else (let v17 := (List.length x1 : Int)
  let v18 := IntKind.i64.wrap (x6 + v17)
  let v19 := IntKind.u32.wrap x7
  bif decide (0 ≤ v18) && decide (v18 < (List.length x5 : Int)) then (let v20 := List.set x5 (Int.toNat v18) v19
  let v21 := IntKind.i64.wrap (x22 + (1 : Int))
  f4 x0 x1 v20 x21 v21)
  else none)
noncomputable def nat_Mul.e (f4 : Dt23 → Dt23 → Dt23 → Int → Int → Option (Dt23 × Unit)) (f8 : Dt23 → Dt23 → Dt23 → Int → Int → Int → Int → Int → Int → Option (Dt23 × Unit)) (a0 : Dt23) (a1 : Dt23) : Option (Dt23 × Unit) :=
  (nat_trim.F (a0, ())).bind fun y1 =>
  (nat_trim.F (a1, ())).bind fun y2 =>
  let v3 := (List.length y1.1 : Int)
  let v4 := (List.length y2.1 : Int)
  let v5 := IntKind.i64.wrap (v3 + v4)
  bif decide (0 ≤ v5) && (decide (v5 ≤ v5) && (decide (Int.toNat v5 * 4 ≤ 281474976710656) && Nat.blt 0 4)) then (let v6 := List.replicate (Int.toNat v5) (0 : Int)
  let v7 := (List.length y1.1 : Int)
  f4 y1.1 y2.1 v6 v7 (0 : Int))
  else none
noncomputable def nat_Mul.L4 (k : Nat) (x0 : Dt23) (x1 : Dt23) (x5 : Dt23) (x21 : Int) (x22 : Int) : Option (Dt23 × Unit) := heads (nat_Mul.spec.env nat_Mul.cals T Try.f85) (Func.pts Try.f85) k 4 (nat_Mul.m4 x0 x1 x5 x21 x22)
noncomputable def nat_Mul.L8 (k : Nat) (x0 : Dt23) (x1 : Dt23) (x5 : Dt23) (x6 : Int) (x7 : Int) (x21 : Int) (x22 : Int) (x26 : Int) (x27 : Int) : Option (Dt23 × Unit) := heads (nat_Mul.spec.env nat_Mul.cals T Try.f85) (Func.pts Try.f85) k 8 (nat_Mul.m8 x0 x1 x5 x6 x7 x21 x22 x26 x27)
theorem nat_Mul.L4_succ (k : Nat) (x0 : Dt23) (x1 : Dt23) (x5 : Dt23) (x21 : Int) (x22 : Int) : nat_Mul.L4 (k + 1) x0 x1 x5 x21 x22 = nat_Mul.b4 (nat_Mul.L4 k) (nat_Mul.L8 k) x0 x1 x5 x21 x22 := by kernel_rfl
theorem nat_Mul.L8_succ (k : Nat) (x0 : Dt23) (x1 : Dt23) (x5 : Dt23) (x6 : Int) (x7 : Int) (x21 : Int) (x22 : Int) (x26 : Int) (x27 : Int) : nat_Mul.L8 (k + 1) x0 x1 x5 x6 x7 x21 x22 x26 x27 = nat_Mul.b8 (nat_Mul.L4 k) (nat_Mul.L8 k) x0 x1 x5 x6 x7 x21 x22 x26 x27 := by kernel_rfl
theorem nat_Mul.eval (k : Nat) (a0 : Dt23) (a1 : Dt23) : evalF nat_Mul.spec nat_Mul.cals T Try.f85 k (a0, a1, ()) = nat_Mul.e (nat_Mul.L4 k) (nat_Mul.L8 k) a0 a1 := by kernel_rfl
theorem nat_Mul.F_eq (a0 : Dt23) (a1 : Dt23) : nat_Mul.F (a0, a1, ()) = limF nat_Mul.spec nat_Mul.cals T Try.f85 (a0, a1, ()) := by kernel_rfl
theorem nat_Mul.of (k : Nat) (a0 : Dt23) (a1 : Dt23) {y : Dt23 × Unit} (h : nat_Mul.e (nat_Mul.L4 k) (nat_Mul.L8 k) a0 a1 = some y) : nat_Mul.F (a0, a1, ()) = some y := (nat_Mul.F_eq a0 a1).trans (limF_of (q := nat_Mul.spec) (C := nat_Mul.cals) (T := T) (f := Try.f85) (x := (a0, a1, ())) (y := y) k ((nat_Mul.eval k a0 a1).trans h))
def whole_Mul.spec : Spec := ⟨[(true, Kt25), (true, Kt25)], [(true, Kt25)], .own, fun j => match j with  | _ => []⟩
noncomputable def whole_Mul.cals : Cals := (Cals.cons 85 nat_Mul.sig (Cals.cons 29 whole_Sign.sig (Cals.cons 72 whole_signed.sig (Cals.base tabs))))
noncomputable def whole_Mul.sig : Sig := whole_Mul.spec.sig whole_Mul.cals T Try.f35
noncomputable def whole_Mul.F (x : Dt25 × Dt25 × Unit) : Option (Dt25 × Unit) := limF whole_Mul.spec whole_Mul.cals T Try.f35 x
theorem whole_Mul.ck : CalsOk Try.prog whole_Mul.cals := (CalsOk.cons nat_Mul.cal (CalsOk.cons whole_Sign.cal (CalsOk.cons whole_signed.cal (CalsOk.base tabsOk))))
theorem whole_Mul.cal : CalOk Try.prog tabs 35 whole_Mul.sig := calOk_lim' tabOk whole_Mul.ck mix Try.func35 (by kernel_rfl) (by kernel_rfl) (by kernel_rfl) (by kernel_rfl)
noncomputable def whole_Mul.e  (a0 : Dt25) (a1 : Dt25) : Option (Dt25 × Unit) :=
  (nat_Mul.F (a0.2, a1.2, ())).bind fun y1 =>
  (whole_Sign.F ((a0.1, a0.2), ())).bind fun y2 =>
  (whole_Sign.F ((a1.1, a1.2), ())).bind fun y3 =>
  let v4 := ([y2.1, y3.1] : List Int)
  (whole_signed.F (y1.1, v4, ())).bind fun y5 =>
  some ((y5.1.1, y5.1.2), ())
theorem whole_Mul.eval (k : Nat) (a0 : Dt25) (a1 : Dt25) : evalF whole_Mul.spec whole_Mul.cals T Try.f35 k (a0, a1, ()) = whole_Mul.e  a0 a1 := by kernel_rfl
theorem whole_Mul.F_eq (a0 : Dt25) (a1 : Dt25) : whole_Mul.F (a0, a1, ()) = limF whole_Mul.spec whole_Mul.cals T Try.f35 (a0, a1, ()) := by kernel_rfl
theorem whole_Mul.of (k : Nat) (a0 : Dt25) (a1 : Dt25) {y : Dt25 × Unit} (h : whole_Mul.e  a0 a1 = some y) : whole_Mul.F (a0, a1, ()) = some y := (whole_Mul.F_eq a0 a1).trans (limF_of (q := whole_Mul.spec) (C := whole_Mul.cals) (T := T) (f := Try.f35) (x := (a0, a1, ())) (y := y) k ((whole_Mul.eval k a0 a1).trans h))
def bits_Div32.spec : Spec := ⟨[(false, (.int .u32)), (false, (.int .u32)), (false, (.int .u32))], [(false, (.int .u32)), (false, (.int .u32))], .own, fun j => match j with  | _ => []⟩
noncomputable def bits_Div32.cals : Cals := (Cals.base tabs)
noncomputable def bits_Div32.sig : Sig := bits_Div32.spec.sig bits_Div32.cals T Try.f110
noncomputable def bits_Div32.F (x : Int × Int × Int × Unit) : Option (Int × Int × Unit) := limF bits_Div32.spec bits_Div32.cals T Try.f110 x
theorem bits_Div32.ck : CalsOk Try.prog bits_Div32.cals := (CalsOk.base tabsOk)
theorem bits_Div32.cal : CalOk Try.prog tabs 110 bits_Div32.sig := calOk_lim' tabOk bits_Div32.ck mix Try.func110 (by kernel_rfl) (by kernel_rfl) (by kernel_rfl) (by kernel_rfl)
noncomputable def bits_Div32.e  (a0 : Int) (a1 : Int) (a2 : Int) : Option (Int × Int × Unit) :=
  let v1 := (a2 != (0 : Int))
  bif v1 then (let v2 := decide (a2 ≤ a0)
  bif v2 then (none)
  else (let v3 := IntKind.u64.wrap a0
  bif decide ((32 : Int) < 0) then none
  else (let v4 := shlI .u64 v3 (32 : Int)
  let v5 := IntKind.u64.wrap a1
  let v6 := bitsOp .or .u64 v4 v5
  let v7 := IntKind.u64.wrap a2
  bif decide (v7 = 0) then none
  else (let v8 := IntKind.u64.wrap (Int.tdiv v6 v7)
  let v9 := IntKind.u32.wrap v8
  let v10 := IntKind.u64.wrap a2
  bif decide (v10 = 0) then none
  else (let v11 := Int.tmod v6 v10
  let v12 := IntKind.u32.wrap v11
  some (v9, v12, ()))))))
  else (let v13 := IntKind.u64.wrap a0
  bif decide ((32 : Int) < 0) then none
  else (let v14 := shlI .u64 v13 (32 : Int)
  let v15 := IntKind.u64.wrap a1
  let v16 := bitsOp .or .u64 v14 v15
  let v17 := IntKind.u64.wrap a2
  bif decide (v17 = 0) then none
  else (let v18 := IntKind.u64.wrap (Int.tdiv v16 v17)
  let v19 := IntKind.u32.wrap v18
  let v20 := IntKind.u64.wrap a2
  bif decide (v20 = 0) then none
  else (let v21 := Int.tmod v16 v20
  let v22 := IntKind.u32.wrap v21
  some (v19, v22, ())))))
theorem bits_Div32.eval (k : Nat) (a0 : Int) (a1 : Int) (a2 : Int) : evalF bits_Div32.spec bits_Div32.cals T Try.f110 k (a0, a1, a2, ()) = bits_Div32.e  a0 a1 a2 := by kernel_rfl
theorem bits_Div32.F_eq (a0 : Int) (a1 : Int) (a2 : Int) : bits_Div32.F (a0, a1, a2, ()) = limF bits_Div32.spec bits_Div32.cals T Try.f110 (a0, a1, a2, ()) := by kernel_rfl
theorem bits_Div32.of (k : Nat) (a0 : Int) (a1 : Int) (a2 : Int) {y : Int × Int × Unit} (h : bits_Div32.e  a0 a1 a2 = some y) : bits_Div32.F (a0, a1, a2, ()) = some y := (bits_Div32.F_eq a0 a1 a2).trans (limF_of (q := bits_Div32.spec) (C := bits_Div32.cals) (T := T) (f := Try.f110) (x := (a0, a1, a2, ())) (y := y) k ((bits_Div32.eval k a0 a1 a2).trans h))
def nat_short.spec : Spec := ⟨[(false, Kt23), (false, (.int .u32))], [(false, Kt23), (false, (.int .u32))], .own, fun j => match j with | 4 => [(0, .lf (.z 70 (.int .u32) false)), (1, .lf (.v false)), (6, .lf (.o 70 (.int .u32) true)), (7, .lf (.v true)), (8, .lf (.v true))] | _ => []⟩
noncomputable def nat_short.cals : Cals := (Cals.cons 110 bits_Div32.sig (Cals.base tabs))
noncomputable def nat_short.sig : Sig := nat_short.spec.sig nat_short.cals T Try.f104
noncomputable def nat_short.F (x : Dt23 × Int × Unit) : Option (Dt23 × Int × Unit) := limF nat_short.spec nat_short.cals T Try.f104 x
theorem nat_short.ck : CalsOk Try.prog nat_short.cals := (CalsOk.cons bits_Div32.cal (CalsOk.base tabsOk))
theorem nat_short.cal : CalOk Try.prog tabs 104 nat_short.sig := calOk_lim' tabOk nat_short.ck mix Try.func104 (by kernel_rfl) (by kernel_rfl) (by kernel_rfl) (by kernel_rfl)
def nat_short.m4 (x0 : Dt23) (x1 : Int) (x6 : Dt23) (x7 : Int) (x8 : Int) : S := ⟨[(0, .one (.lf (.val false Kt23 x0))), (1, .one (.lf (.val false (.int .u32) x1))), (6, .one (.lf (.own 0))), (7, .one (.lf (.val true (.int .u32) x7))), (8, .one (.lf (.val true (.int .i64) x8)))], ⟨[some ⟨70, (.int .u32), true, true, x6⟩], []⟩⟩
noncomputable def nat_short.b4 (f4 : Dt23 → Int → Dt23 → Int → Int → Option (Dt23 × Int × Unit)) (x0 : Dt23) (x1 : Int) (x6 : Dt23) (x7 : Int) (x8 : Int) : Option (Dt23 × Int × Unit) :=
  let v1 := decide (x8 ≥ (0 : Int))
  bif v1 then (bif decide (0 ≤ x8) && decide (x8 < (List.length x0 : Int)) then (let v2 := List.getD x0 (Int.toNat x8) (0 : Int)
  (bits_Div32.F (x7, v2, x1, ())).bind fun y3 =>
  bif decide (0 ≤ x8) && decide (x8 < (List.length x6 : Int)) then (let v4 := List.set x6 (Int.toNat x8) y3.1
  let v5 := IntKind.i64.wrap (x8 - (1 : Int))
  f4 x0 x1 v4 y3.2.1 v5)
  else none)
  else none)
  else (some (x6, x7, ()))
noncomputable def nat_short.e (f4 : Dt23 → Int → Dt23 → Int → Int → Option (Dt23 × Int × Unit)) (a0 : Dt23) (a1 : Int) : Option (Dt23 × Int × Unit) :=
  let v1 := (List.length a0 : Int)
  bif decide (0 ≤ v1) && (decide (v1 ≤ v1) && (decide (Int.toNat v1 * 4 ≤ 281474976710656) && Nat.blt 0 4)) then (let v2 := List.replicate (Int.toNat v1) (0 : Int)
  let v3 := (List.length a0 : Int)
  let v4 := IntKind.i64.wrap (v3 - (1 : Int))
  f4 a0 a1 v2 (0 : Int) v4)
  else none
noncomputable def nat_short.L4 (k : Nat) (x0 : Dt23) (x1 : Int) (x6 : Dt23) (x7 : Int) (x8 : Int) : Option (Dt23 × Int × Unit) := heads (nat_short.spec.env nat_short.cals T Try.f104) (Func.pts Try.f104) k 4 (nat_short.m4 x0 x1 x6 x7 x8)
theorem nat_short.L4_succ (k : Nat) (x0 : Dt23) (x1 : Int) (x6 : Dt23) (x7 : Int) (x8 : Int) : nat_short.L4 (k + 1) x0 x1 x6 x7 x8 = nat_short.b4 (nat_short.L4 k) x0 x1 x6 x7 x8 := by kernel_rfl
theorem nat_short.eval (k : Nat) (a0 : Dt23) (a1 : Int) : evalF nat_short.spec nat_short.cals T Try.f104 k (a0, a1, ()) = nat_short.e (nat_short.L4 k) a0 a1 := by kernel_rfl
theorem nat_short.F_eq (a0 : Dt23) (a1 : Int) : nat_short.F (a0, a1, ()) = limF nat_short.spec nat_short.cals T Try.f104 (a0, a1, ()) := by kernel_rfl
theorem nat_short.of (k : Nat) (a0 : Dt23) (a1 : Int) {y : Dt23 × Int × Unit} (h : nat_short.e (nat_short.L4 k) a0 a1 = some y) : nat_short.F (a0, a1, ()) = some y := (nat_short.F_eq a0 a1).trans (limF_of (q := nat_short.spec) (C := nat_short.cals) (T := T) (f := Try.f104) (x := (a0, a1, ())) (y := y) k ((nat_short.eval k a0 a1).trans h))
def nat_moved.spec : Spec := ⟨[(false, Kt23), (false, (.int .i64))], [(false, Kt23)], .own, fun j => match j with | 3 => [(0, .lf (.z 70 (.int .u32) false)), (1, .lf (.v false)), (5, .lf (.o 70 (.int .u32) true)), (12, .lf (.v true)), (13, .lf (.v true))] | _ => []⟩
noncomputable def nat_moved.cals : Cals := (Cals.base tabs)
noncomputable def nat_moved.sig : Sig := nat_moved.spec.sig nat_moved.cals T Try.f103
noncomputable def nat_moved.F (x : Dt23 × Int × Unit) : Option (Dt23 × Unit) := limF nat_moved.spec nat_moved.cals T Try.f103 x
theorem nat_moved.ck : CalsOk Try.prog nat_moved.cals := (CalsOk.base tabsOk)
theorem nat_moved.cal : CalOk Try.prog tabs 103 nat_moved.sig := calOk_lim' tabOk nat_moved.ck mix Try.func103 (by kernel_rfl) (by kernel_rfl) (by kernel_rfl) (by kernel_rfl)
def nat_moved.m3 (x0 : Dt23) (x1 : Int) (x5 : Dt23) (x12 : Int) (x13 : Int) : S := ⟨[(0, .one (.lf (.val false Kt23 x0))), (1, .one (.lf (.val false (.int .i64) x1))), (5, .one (.lf (.own 0))), (12, .one (.lf (.val true (.int .i64) x12))), (13, .one (.lf (.val true (.int .i64) x13)))], ⟨[some ⟨70, (.int .u32), true, true, x5⟩], []⟩⟩
noncomputable def nat_moved.b3 (f3 : Dt23 → Int → Dt23 → Int → Int → Option (Dt23 × Unit)) (x0 : Dt23) (x1 : Int) (x5 : Dt23) (x12 : Int) (x13 : Int) : Option (Dt23 × Unit) :=
  let v1 := decide (x13 < x12)
  bif v1 then (bif decide (0 ≤ x13) && decide (x13 < (List.length x5 : Int)) then (let v2 := List.getD x5 (Int.toNat x13) (0 : Int)
  bif decide (0 ≤ x13) && decide (x13 < (List.length x0 : Int)) then (let v3 := List.getD x0 (Int.toNat x13) (0 : Int)
  bif decide (x1 < 0) then none
  else (let v4 := shlI .u32 v3 x1
  let v5 := bitsOp .or .u32 v2 v4
  bif decide (0 ≤ x13) && decide (x13 < (List.length x5 : Int)) then (let v6 := List.set x5 (Int.toNat x13) v5
  let v7 := IntKind.i64.wrap (x13 + (1 : Int))
  bif decide (0 ≤ x13) && decide (x13 < (List.length x0 : Int)) then (let v8 := List.getD x0 (Int.toNat x13) (0 : Int)
  let v9 := IntKind.u64.wrap v8
  let v10 := IntKind.i64.wrap ((32 : Int) - x1)
  bif decide (v10 < 0) then none
  else (let v11 := shrI .u64 v9 v10
  let v12 := IntKind.u32.wrap v11
  bif decide (0 ≤ v7) && decide (v7 < (List.length v6 : Int)) then (let v13 := List.set v6 (Int.toNat v7) v12
  let v14 := IntKind.i64.wrap (x13 + (1 : Int))
  f3 x0 x1 v13 x12 v14)
  else none))
  else none)
  else none))
  else none)
  else none)
  else (some (x5, ()))
noncomputable def nat_moved.e (f3 : Dt23 → Int → Dt23 → Int → Int → Option (Dt23 × Unit)) (a0 : Dt23) (a1 : Int) : Option (Dt23 × Unit) :=
  let v1 := (List.length a0 : Int)
  let v2 := IntKind.i64.wrap (v1 + (1 : Int))
  bif decide (0 ≤ v2) && (decide (v2 ≤ v2) && (decide (Int.toNat v2 * 4 ≤ 281474976710656) && Nat.blt 0 4)) then (let v3 := List.replicate (Int.toNat v2) (0 : Int)
  let v4 := (List.length a0 : Int)
  f3 a0 a1 v3 v4 (0 : Int))
  else none
noncomputable def nat_moved.L3 (k : Nat) (x0 : Dt23) (x1 : Int) (x5 : Dt23) (x12 : Int) (x13 : Int) : Option (Dt23 × Unit) := heads (nat_moved.spec.env nat_moved.cals T Try.f103) (Func.pts Try.f103) k 3 (nat_moved.m3 x0 x1 x5 x12 x13)
theorem nat_moved.L3_succ (k : Nat) (x0 : Dt23) (x1 : Int) (x5 : Dt23) (x12 : Int) (x13 : Int) : nat_moved.L3 (k + 1) x0 x1 x5 x12 x13 = nat_moved.b3 (nat_moved.L3 k) x0 x1 x5 x12 x13 := by kernel_rfl
theorem nat_moved.eval (k : Nat) (a0 : Dt23) (a1 : Int) : evalF nat_moved.spec nat_moved.cals T Try.f103 k (a0, a1, ()) = nat_moved.e (nat_moved.L3 k) a0 a1 := by kernel_rfl
theorem nat_moved.F_eq (a0 : Dt23) (a1 : Int) : nat_moved.F (a0, a1, ()) = limF nat_moved.spec nat_moved.cals T Try.f103 (a0, a1, ()) := by kernel_rfl
theorem nat_moved.of (k : Nat) (a0 : Dt23) (a1 : Int) {y : Dt23 × Unit} (h : nat_moved.e (nat_moved.L3 k) a0 a1 = some y) : nat_moved.F (a0, a1, ()) = some y := (nat_moved.F_eq a0 a1).trans (limF_of (q := nat_moved.spec) (C := nat_moved.cals) (T := T) (f := Try.f103) (x := (a0, a1, ())) (y := y) k ((nat_moved.eval k a0 a1).trans h))
def bits_Len32.spec : Spec := ⟨[(false, (.int .u32))], [(false, (.int .i64))], .own, fun j => match j with  | _ => []⟩
noncomputable def bits_Len32.cals : Cals := (Cals.base tabs)
noncomputable def bits_Len32.sig : Sig := bits_Len32.spec.sig bits_Len32.cals T Try.f113
noncomputable def bits_Len32.F (x : Int × Unit) : Option (Int × Unit) := limF bits_Len32.spec bits_Len32.cals T Try.f113 x
theorem bits_Len32.ck : CalsOk Try.prog bits_Len32.cals := (CalsOk.base tabsOk)
theorem bits_Len32.cal : CalOk Try.prog tabs 113 bits_Len32.sig := calOk_lim' tabOk bits_Len32.ck mix Try.func113 (by kernel_rfl) (by kernel_rfl) (by kernel_rfl) (by kernel_rfl)
noncomputable def bits_Len32.e  (a0 : Int) : Option (Int × Unit) :=
  let v1 := decide (a0 ≥ (65536 : Int))
  bif v1 then (bif decide ((16 : Int) < 0) then none
  else (let v2 := shrI .u32 a0 (16 : Int)
  let v3 := decide (v2 ≥ (256 : Int))
  bif v3 then (bif decide ((8 : Int) < 0) then none
  else (let v4 := shrI .u32 v2 (8 : Int)
  let v5 := IntKind.i64.wrap ((16 : Int) + (8 : Int))
  let v6 := IntKind.u8.wrap v4
  bif decide (0 ≤ v6) && decide (v6 < (ByteArray.size (⟨#[0, 1, 2, 2, 3, 3, 3, 3, 4, 4, 4, 4, 4, 4, 4, 4, 5, 5, 5, 5, 5, 5, 5, 5, 5, 5, 5, 5, 5, 5, 5, 5, 6, 6, 6, 6, 6, 6, 6, 6, 6, 6, 6, 6, 6, 6, 6, 6, 6, 6, 6, 6, 6, 6, 6, 6, 6, 6, 6, 6, 6, 6, 6, 6, 7, 7, 7, 7, 7, 7, 7, 7, 7, 7, 7, 7, 7, 7, 7, 7, 7, 7, 7, 7, 7, 7, 7, 7, 7, 7, 7, 7, 7, 7, 7, 7, 7, 7, 7, 7, 7, 7, 7, 7, 7, 7, 7, 7, 7, 7, 7, 7, 7, 7, 7, 7, 7, 7, 7, 7, 7, 7, 7, 7, 7, 7, 7, 7, 8, 8, 8, 8, 8, 8, 8, 8, 8, 8, 8, 8, 8, 8, 8, 8, 8, 8, 8, 8, 8, 8, 8, 8, 8, 8, 8, 8, 8, 8, 8, 8, 8, 8, 8, 8, 8, 8, 8, 8, 8, 8, 8, 8, 8, 8, 8, 8, 8, 8, 8, 8, 8, 8, 8, 8, 8, 8, 8, 8, 8, 8, 8, 8, 8, 8, 8, 8, 8, 8, 8, 8, 8, 8, 8, 8, 8, 8, 8, 8, 8, 8, 8, 8, 8, 8, 8, 8, 8, 8, 8, 8, 8, 8, 8, 8, 8, 8, 8, 8, 8, 8, 8, 8, 8, 8, 8, 8, 8, 8, 8, 8, 8, 8, 8, 8, 8, 8, 8, 8, 8, 8, 8, 8, 8, 8, 8, 8]⟩ : ByteArray) : Int)) then (let v7 := btI (⟨#[0, 1, 2, 2, 3, 3, 3, 3, 4, 4, 4, 4, 4, 4, 4, 4, 5, 5, 5, 5, 5, 5, 5, 5, 5, 5, 5, 5, 5, 5, 5, 5, 6, 6, 6, 6, 6, 6, 6, 6, 6, 6, 6, 6, 6, 6, 6, 6, 6, 6, 6, 6, 6, 6, 6, 6, 6, 6, 6, 6, 6, 6, 6, 6, 7, 7, 7, 7, 7, 7, 7, 7, 7, 7, 7, 7, 7, 7, 7, 7, 7, 7, 7, 7, 7, 7, 7, 7, 7, 7, 7, 7, 7, 7, 7, 7, 7, 7, 7, 7, 7, 7, 7, 7, 7, 7, 7, 7, 7, 7, 7, 7, 7, 7, 7, 7, 7, 7, 7, 7, 7, 7, 7, 7, 7, 7, 7, 7, 8, 8, 8, 8, 8, 8, 8, 8, 8, 8, 8, 8, 8, 8, 8, 8, 8, 8, 8, 8, 8, 8, 8, 8, 8, 8, 8, 8, 8, 8, 8, 8, 8, 8, 8, 8, 8, 8, 8, 8, 8, 8, 8, 8, 8, 8, 8, 8, 8, 8, 8, 8, 8, 8, 8, 8, 8, 8, 8, 8, 8, 8, 8, 8, 8, 8, 8, 8, 8, 8, 8, 8, 8, 8, 8, 8, 8, 8, 8, 8, 8, 8, 8, 8, 8, 8, 8, 8, 8, 8, 8, 8, 8, 8, 8, 8, 8, 8, 8, 8, 8, 8, 8, 8, 8, 8, 8, 8, 8, 8, 8, 8, 8, 8, 8, 8, 8, 8, 8, 8, 8, 8, 8, 8, 8, 8, 8, 8]⟩ : ByteArray) v6
  let v8 := IntKind.i64.wrap v7
  let v9 := IntKind.i64.wrap (v5 + v8)
  some (v9, ()))
  else none))
  else (let v10 := IntKind.u8.wrap v2
  bif decide (0 ≤ v10) && decide (v10 < (ByteArray.size (⟨#[0, 1, 2, 2, 3, 3, 3, 3, 4, 4, 4, 4, 4, 4, 4, 4, 5, 5, 5, 5, 5, 5, 5, 5, 5, 5, 5, 5, 5, 5, 5, 5, 6, 6, 6, 6, 6, 6, 6, 6, 6, 6, 6, 6, 6, 6, 6, 6, 6, 6, 6, 6, 6, 6, 6, 6, 6, 6, 6, 6, 6, 6, 6, 6, 7, 7, 7, 7, 7, 7, 7, 7, 7, 7, 7, 7, 7, 7, 7, 7, 7, 7, 7, 7, 7, 7, 7, 7, 7, 7, 7, 7, 7, 7, 7, 7, 7, 7, 7, 7, 7, 7, 7, 7, 7, 7, 7, 7, 7, 7, 7, 7, 7, 7, 7, 7, 7, 7, 7, 7, 7, 7, 7, 7, 7, 7, 7, 7, 8, 8, 8, 8, 8, 8, 8, 8, 8, 8, 8, 8, 8, 8, 8, 8, 8, 8, 8, 8, 8, 8, 8, 8, 8, 8, 8, 8, 8, 8, 8, 8, 8, 8, 8, 8, 8, 8, 8, 8, 8, 8, 8, 8, 8, 8, 8, 8, 8, 8, 8, 8, 8, 8, 8, 8, 8, 8, 8, 8, 8, 8, 8, 8, 8, 8, 8, 8, 8, 8, 8, 8, 8, 8, 8, 8, 8, 8, 8, 8, 8, 8, 8, 8, 8, 8, 8, 8, 8, 8, 8, 8, 8, 8, 8, 8, 8, 8, 8, 8, 8, 8, 8, 8, 8, 8, 8, 8, 8, 8, 8, 8, 8, 8, 8, 8, 8, 8, 8, 8, 8, 8, 8, 8, 8, 8, 8, 8]⟩ : ByteArray) : Int)) then (let v11 := btI (⟨#[0, 1, 2, 2, 3, 3, 3, 3, 4, 4, 4, 4, 4, 4, 4, 4, 5, 5, 5, 5, 5, 5, 5, 5, 5, 5, 5, 5, 5, 5, 5, 5, 6, 6, 6, 6, 6, 6, 6, 6, 6, 6, 6, 6, 6, 6, 6, 6, 6, 6, 6, 6, 6, 6, 6, 6, 6, 6, 6, 6, 6, 6, 6, 6, 7, 7, 7, 7, 7, 7, 7, 7, 7, 7, 7, 7, 7, 7, 7, 7, 7, 7, 7, 7, 7, 7, 7, 7, 7, 7, 7, 7, 7, 7, 7, 7, 7, 7, 7, 7, 7, 7, 7, 7, 7, 7, 7, 7, 7, 7, 7, 7, 7, 7, 7, 7, 7, 7, 7, 7, 7, 7, 7, 7, 7, 7, 7, 7, 8, 8, 8, 8, 8, 8, 8, 8, 8, 8, 8, 8, 8, 8, 8, 8, 8, 8, 8, 8, 8, 8, 8, 8, 8, 8, 8, 8, 8, 8, 8, 8, 8, 8, 8, 8, 8, 8, 8, 8, 8, 8, 8, 8, 8, 8, 8, 8, 8, 8, 8, 8, 8, 8, 8, 8, 8, 8, 8, 8, 8, 8, 8, 8, 8, 8, 8, 8, 8, 8, 8, 8, 8, 8, 8, 8, 8, 8, 8, 8, 8, 8, 8, 8, 8, 8, 8, 8, 8, 8, 8, 8, 8, 8, 8, 8, 8, 8, 8, 8, 8, 8, 8, 8, 8, 8, 8, 8, 8, 8, 8, 8, 8, 8, 8, 8, 8, 8, 8, 8, 8, 8, 8, 8, 8, 8, 8, 8]⟩ : ByteArray) v10
  let v12 := IntKind.i64.wrap v11
  let v13 := IntKind.i64.wrap ((16 : Int) + v12)
  some (v13, ()))
  else none)))
  else (let v14 := decide (a0 ≥ (256 : Int))
  bif v14 then (bif decide ((8 : Int) < 0) then none
  else (let v15 := shrI .u32 a0 (8 : Int)
  let v16 := IntKind.i64.wrap ((0 : Int) + (8 : Int))
  let v17 := IntKind.u8.wrap v15
  bif decide (0 ≤ v17) && decide (v17 < (ByteArray.size (⟨#[0, 1, 2, 2, 3, 3, 3, 3, 4, 4, 4, 4, 4, 4, 4, 4, 5, 5, 5, 5, 5, 5, 5, 5, 5, 5, 5, 5, 5, 5, 5, 5, 6, 6, 6, 6, 6, 6, 6, 6, 6, 6, 6, 6, 6, 6, 6, 6, 6, 6, 6, 6, 6, 6, 6, 6, 6, 6, 6, 6, 6, 6, 6, 6, 7, 7, 7, 7, 7, 7, 7, 7, 7, 7, 7, 7, 7, 7, 7, 7, 7, 7, 7, 7, 7, 7, 7, 7, 7, 7, 7, 7, 7, 7, 7, 7, 7, 7, 7, 7, 7, 7, 7, 7, 7, 7, 7, 7, 7, 7, 7, 7, 7, 7, 7, 7, 7, 7, 7, 7, 7, 7, 7, 7, 7, 7, 7, 7, 8, 8, 8, 8, 8, 8, 8, 8, 8, 8, 8, 8, 8, 8, 8, 8, 8, 8, 8, 8, 8, 8, 8, 8, 8, 8, 8, 8, 8, 8, 8, 8, 8, 8, 8, 8, 8, 8, 8, 8, 8, 8, 8, 8, 8, 8, 8, 8, 8, 8, 8, 8, 8, 8, 8, 8, 8, 8, 8, 8, 8, 8, 8, 8, 8, 8, 8, 8, 8, 8, 8, 8, 8, 8, 8, 8, 8, 8, 8, 8, 8, 8, 8, 8, 8, 8, 8, 8, 8, 8, 8, 8, 8, 8, 8, 8, 8, 8, 8, 8, 8, 8, 8, 8, 8, 8, 8, 8, 8, 8, 8, 8, 8, 8, 8, 8, 8, 8, 8, 8, 8, 8, 8, 8, 8, 8, 8, 8]⟩ : ByteArray) : Int)) then (let v18 := btI (⟨#[0, 1, 2, 2, 3, 3, 3, 3, 4, 4, 4, 4, 4, 4, 4, 4, 5, 5, 5, 5, 5, 5, 5, 5, 5, 5, 5, 5, 5, 5, 5, 5, 6, 6, 6, 6, 6, 6, 6, 6, 6, 6, 6, 6, 6, 6, 6, 6, 6, 6, 6, 6, 6, 6, 6, 6, 6, 6, 6, 6, 6, 6, 6, 6, 7, 7, 7, 7, 7, 7, 7, 7, 7, 7, 7, 7, 7, 7, 7, 7, 7, 7, 7, 7, 7, 7, 7, 7, 7, 7, 7, 7, 7, 7, 7, 7, 7, 7, 7, 7, 7, 7, 7, 7, 7, 7, 7, 7, 7, 7, 7, 7, 7, 7, 7, 7, 7, 7, 7, 7, 7, 7, 7, 7, 7, 7, 7, 7, 8, 8, 8, 8, 8, 8, 8, 8, 8, 8, 8, 8, 8, 8, 8, 8, 8, 8, 8, 8, 8, 8, 8, 8, 8, 8, 8, 8, 8, 8, 8, 8, 8, 8, 8, 8, 8, 8, 8, 8, 8, 8, 8, 8, 8, 8, 8, 8, 8, 8, 8, 8, 8, 8, 8, 8, 8, 8, 8, 8, 8, 8, 8, 8, 8, 8, 8, 8, 8, 8, 8, 8, 8, 8, 8, 8, 8, 8, 8, 8, 8, 8, 8, 8, 8, 8, 8, 8, 8, 8, 8, 8, 8, 8, 8, 8, 8, 8, 8, 8, 8, 8, 8, 8, 8, 8, 8, 8, 8, 8, 8, 8, 8, 8, 8, 8, 8, 8, 8, 8, 8, 8, 8, 8, 8, 8, 8, 8]⟩ : ByteArray) v17
  let v19 := IntKind.i64.wrap v18
  let v20 := IntKind.i64.wrap (v16 + v19)
  some (v20, ()))
  else none))
  else (let v21 := IntKind.u8.wrap a0
  bif decide (0 ≤ v21) && decide (v21 < (ByteArray.size (⟨#[0, 1, 2, 2, 3, 3, 3, 3, 4, 4, 4, 4, 4, 4, 4, 4, 5, 5, 5, 5, 5, 5, 5, 5, 5, 5, 5, 5, 5, 5, 5, 5, 6, 6, 6, 6, 6, 6, 6, 6, 6, 6, 6, 6, 6, 6, 6, 6, 6, 6, 6, 6, 6, 6, 6, 6, 6, 6, 6, 6, 6, 6, 6, 6, 7, 7, 7, 7, 7, 7, 7, 7, 7, 7, 7, 7, 7, 7, 7, 7, 7, 7, 7, 7, 7, 7, 7, 7, 7, 7, 7, 7, 7, 7, 7, 7, 7, 7, 7, 7, 7, 7, 7, 7, 7, 7, 7, 7, 7, 7, 7, 7, 7, 7, 7, 7, 7, 7, 7, 7, 7, 7, 7, 7, 7, 7, 7, 7, 8, 8, 8, 8, 8, 8, 8, 8, 8, 8, 8, 8, 8, 8, 8, 8, 8, 8, 8, 8, 8, 8, 8, 8, 8, 8, 8, 8, 8, 8, 8, 8, 8, 8, 8, 8, 8, 8, 8, 8, 8, 8, 8, 8, 8, 8, 8, 8, 8, 8, 8, 8, 8, 8, 8, 8, 8, 8, 8, 8, 8, 8, 8, 8, 8, 8, 8, 8, 8, 8, 8, 8, 8, 8, 8, 8, 8, 8, 8, 8, 8, 8, 8, 8, 8, 8, 8, 8, 8, 8, 8, 8, 8, 8, 8, 8, 8, 8, 8, 8, 8, 8, 8, 8, 8, 8, 8, 8, 8, 8, 8, 8, 8, 8, 8, 8, 8, 8, 8, 8, 8, 8, 8, 8, 8, 8, 8, 8]⟩ : ByteArray) : Int)) then (let v22 := btI (⟨#[0, 1, 2, 2, 3, 3, 3, 3, 4, 4, 4, 4, 4, 4, 4, 4, 5, 5, 5, 5, 5, 5, 5, 5, 5, 5, 5, 5, 5, 5, 5, 5, 6, 6, 6, 6, 6, 6, 6, 6, 6, 6, 6, 6, 6, 6, 6, 6, 6, 6, 6, 6, 6, 6, 6, 6, 6, 6, 6, 6, 6, 6, 6, 6, 7, 7, 7, 7, 7, 7, 7, 7, 7, 7, 7, 7, 7, 7, 7, 7, 7, 7, 7, 7, 7, 7, 7, 7, 7, 7, 7, 7, 7, 7, 7, 7, 7, 7, 7, 7, 7, 7, 7, 7, 7, 7, 7, 7, 7, 7, 7, 7, 7, 7, 7, 7, 7, 7, 7, 7, 7, 7, 7, 7, 7, 7, 7, 7, 8, 8, 8, 8, 8, 8, 8, 8, 8, 8, 8, 8, 8, 8, 8, 8, 8, 8, 8, 8, 8, 8, 8, 8, 8, 8, 8, 8, 8, 8, 8, 8, 8, 8, 8, 8, 8, 8, 8, 8, 8, 8, 8, 8, 8, 8, 8, 8, 8, 8, 8, 8, 8, 8, 8, 8, 8, 8, 8, 8, 8, 8, 8, 8, 8, 8, 8, 8, 8, 8, 8, 8, 8, 8, 8, 8, 8, 8, 8, 8, 8, 8, 8, 8, 8, 8, 8, 8, 8, 8, 8, 8, 8, 8, 8, 8, 8, 8, 8, 8, 8, 8, 8, 8, 8, 8, 8, 8, 8, 8, 8, 8, 8, 8, 8, 8, 8, 8, 8, 8, 8, 8, 8, 8, 8, 8, 8, 8]⟩ : ByteArray) v21
  let v23 := IntKind.i64.wrap v22
  let v24 := IntKind.i64.wrap ((0 : Int) + v23)
  some (v24, ()))
  else none))
theorem bits_Len32.eval (k : Nat) (a0 : Int) : evalF bits_Len32.spec bits_Len32.cals T Try.f113 k (a0, ()) = bits_Len32.e  a0 := by kernel_rfl
theorem bits_Len32.F_eq (a0 : Int) : bits_Len32.F (a0, ()) = limF bits_Len32.spec bits_Len32.cals T Try.f113 (a0, ()) := by kernel_rfl
theorem bits_Len32.of (k : Nat) (a0 : Int) {y : Int × Unit} (h : bits_Len32.e  a0 = some y) : bits_Len32.F (a0, ()) = some y := (bits_Len32.F_eq a0).trans (limF_of (q := bits_Len32.spec) (C := bits_Len32.cals) (T := T) (f := Try.f113) (x := (a0, ())) (y := y) k ((bits_Len32.eval k a0).trans h))
def bits_LeadingZeros32.spec : Spec := ⟨[(false, (.int .u32))], [(false, (.int .i64))], .own, fun j => match j with  | _ => []⟩
noncomputable def bits_LeadingZeros32.cals : Cals := (Cals.cons 113 bits_Len32.sig (Cals.base tabs))
noncomputable def bits_LeadingZeros32.sig : Sig := bits_LeadingZeros32.spec.sig bits_LeadingZeros32.cals T Try.f111
noncomputable def bits_LeadingZeros32.F (x : Int × Unit) : Option (Int × Unit) := limF bits_LeadingZeros32.spec bits_LeadingZeros32.cals T Try.f111 x
theorem bits_LeadingZeros32.ck : CalsOk Try.prog bits_LeadingZeros32.cals := (CalsOk.cons bits_Len32.cal (CalsOk.base tabsOk))
theorem bits_LeadingZeros32.cal : CalOk Try.prog tabs 111 bits_LeadingZeros32.sig := calOk_lim' tabOk bits_LeadingZeros32.ck mix Try.func111 (by kernel_rfl) (by kernel_rfl) (by kernel_rfl) (by kernel_rfl)
noncomputable def bits_LeadingZeros32.e  (a0 : Int) : Option (Int × Unit) :=
  (bits_Len32.F (a0, ())).bind fun y1 =>
  let v2 := IntKind.i64.wrap ((32 : Int) - y1.1)
  some (v2, ())
theorem bits_LeadingZeros32.eval (k : Nat) (a0 : Int) : evalF bits_LeadingZeros32.spec bits_LeadingZeros32.cals T Try.f111 k (a0, ()) = bits_LeadingZeros32.e  a0 := by kernel_rfl
theorem bits_LeadingZeros32.F_eq (a0 : Int) : bits_LeadingZeros32.F (a0, ()) = limF bits_LeadingZeros32.spec bits_LeadingZeros32.cals T Try.f111 (a0, ()) := by kernel_rfl
theorem bits_LeadingZeros32.of (k : Nat) (a0 : Int) {y : Int × Unit} (h : bits_LeadingZeros32.e  a0 = some y) : bits_LeadingZeros32.F (a0, ()) = some y := (bits_LeadingZeros32.F_eq a0).trans (limF_of (q := bits_LeadingZeros32.spec) (C := bits_LeadingZeros32.cals) (T := T) (f := Try.f111) (x := (a0, ())) (y := y) k ((bits_LeadingZeros32.eval k a0).trans h))
def nat_digit.spec : IoSpec := ⟨70, (.int .u32), [(false, Kt23)], [(false, (.int .u32))], fun j => match j with | 4 => [(0, .sub true), (1, .lf (.z 70 (.int .u32) false)), (5, .lf (.v true)), (7, .lf (.v true)), (8, .lf (.v true))] | 10 => [(0, .sub true), (1, .lf (.z 70 (.int .u32) false)), (5, .lf (.v true)), (7, .lf (.v true)), (9, .lf (.v true)), (10, .lf (.v true)), (82, .lf (.v true)), (83, .lf (.v true))] | 21 => [(0, .sub true), (1, .lf (.z 70 (.int .u32) false)), (5, .lf (.v true)), (7, .lf (.v true)), (13, .lf (.v true)), (130, .lf (.v true)), (131, .lf (.v true))] | _ => []⟩
noncomputable def nat_digit.cals : Cals := (Cals.cons 101 bits_Sub32.sig (Cals.cons 100 bits_Add32.sig (Cals.base tabs)))
noncomputable def nat_digit.sig : IoSig := nat_digit.spec.sig nat_digit.cals T Try.f112
noncomputable def nat_digit.F (zs : List Int) (o n : Nat) (x : Dt23 × Unit) : Option ((Int × Unit) × List Int) := limIO nat_digit.spec nat_digit.cals T Try.f112 zs o n x
theorem nat_digit.ck : CalsOk Try.prog nat_digit.cals := (CalsOk.cons bits_Sub32.cal (CalsOk.cons bits_Add32.cal (CalsOk.base tabsOk)))
theorem nat_digit.cal : IoOk Try.prog 112 nat_digit.sig := io_of' tabOk nat_digit.ck mix Try.func112 (by kernel_rfl) (by kernel_rfl) (by kernel_rfl) (by kernel_rfl) rfl
def nat_digit.m4 (x0 : Dt23) (x0_o : Nat) (x0_n : Nat) (x0_g : (Nat × Nat)) (x1 : Dt23) (x5 : Int) (x7 : Int) (x8 : Int) : S := ⟨[(0, .sub 0 x0_o x0_n (some x0_g)), (1, .one (.lf (.val false Kt23 x1))), (5, .one (.lf (.val true (.int .i64) x5))), (7, .one (.lf (.val true (.int .u64) x7))), (8, .one (.lf (.val true (.int .u64) x8)))], ⟨[some ⟨70, (.int .u32), true, true, x0⟩], []⟩⟩
def nat_digit.m10 (x0 : Dt23) (x0_o : Nat) (x0_n : Nat) (x0_g : (Nat × Nat)) (x1 : Dt23) (x5 : Int) (x7 : Int) (x9 : Int) (x10 : Int) (x82 : Int) (x83 : Int) : S := ⟨[(0, .sub 0 x0_o x0_n (some x0_g)), (1, .one (.lf (.val false Kt23 x1))), (5, .one (.lf (.val true (.int .i64) x5))), (7, .one (.lf (.val true (.int .u64) x7))), (9, .one (.lf (.val true (.int .u32) x9))), (10, .one (.lf (.val true (.int .u64) x10))), (82, .one (.lf (.val true (.int .i64) x82))), (83, .one (.lf (.val true (.int .i64) x83)))], ⟨[some ⟨70, (.int .u32), true, true, x0⟩], []⟩⟩
def nat_digit.m21 (x0 : Dt23) (x0_o : Nat) (x0_n : Nat) (x0_g : (Nat × Nat)) (x1 : Dt23) (x5 : Int) (x7 : Int) (x13 : Int) (x130 : Int) (x131 : Int) : S := ⟨[(0, .sub 0 x0_o x0_n (some x0_g)), (1, .one (.lf (.val false Kt23 x1))), (5, .one (.lf (.val true (.int .i64) x5))), (7, .one (.lf (.val true (.int .u64) x7))), (13, .one (.lf (.val true (.int .u32) x13))), (130, .one (.lf (.val true (.int .i64) x130))), (131, .one (.lf (.val true (.int .i64) x131)))], ⟨[some ⟨70, (.int .u32), true, true, x0⟩], []⟩⟩
noncomputable def nat_digit.b4 (f4 : Dt23 → Nat → Nat → (Nat × Nat) → Dt23 → Int → Int → Int → Option ((Int × Unit) × List Int × (Nat × Nat))) (f10 : Dt23 → Nat → Nat → (Nat × Nat) → Dt23 → Int → Int → Int → Int → Int → Int → Option ((Int × Unit) × List Int × (Nat × Nat))) (f21 : Dt23 → Nat → Nat → (Nat × Nat) → Dt23 → Int → Int → Int → Int → Int → Option ((Int × Unit) × List Int × (Nat × Nat))) (x0 : Dt23) (x0_o : Nat) (x0_n : Nat) (x0_g : (Nat × Nat)) (x1 : Dt23) (x5 : Int) (x7 : Int) (x8 : Int) : Option ((Int × Unit) × List Int × (Nat × Nat)) :=
  bif decide ((32 : Int) < 0) then none
  else (let v1 := shrI .u64 x7 (32 : Int)
  let v2 := (v1 != (0 : Int))
  bif v2 then (let v3 := IntKind.u64.wrap (x7 - (1 : Int))
  let v4 := IntKind.i64.wrap (x5 - (1 : Int))
  bif decide (0 ≤ v4) && decide (v4 < (List.length x1 : Int)) then (let v5 := List.getD x1 (Int.toNat v4) (0 : Int)
  let v6 := IntKind.u64.wrap v5
  let v7 := IntKind.u64.wrap (x8 + v6)
  bif decide ((32 : Int) < 0) then none
  else (let v8 := shrI .u64 v7 (32 : Int)
  let v9 := (v8 != (0 : Int))
  bif v9 then (f10 x0 x0_o x0_n x0_g x1 x5 v3 (0 : Int) (0 : Int) x5 (0 : Int))
  else (f4 x0 x0_o x0_n x0_g x1 x5 v3 v7)))
  else none)
  else (let v10 := IntKind.i64.wrap (x5 - (2 : Int))
  bif decide (0 ≤ v10) && decide (v10 < (List.length x1 : Int)) then (let v11 := List.getD x1 (Int.toNat v10) (0 : Int)
  let v12 := IntKind.u64.wrap v11
  let v13 := IntKind.u64.wrap (x7 * v12)
  bif decide ((32 : Int) < 0) then none
  else (let v14 := shlI .u64 x8 (32 : Int)
  let v15 := IntKind.i64.wrap (x5 - (2 : Int))
  bif decide (0 ≤ v15) && decide (v15 < ((x0_n : Nat) : Int)) then (let v16 := List.getD x0 (x0_o + Int.toNat v15) (0 : Int)
  let v17 := IntKind.u64.wrap v16
  let v18 := bitsOp .or .u64 v14 v17
  let v19 := decide (v13 > v18)
  bif v19 then (let v20 := IntKind.u64.wrap (x7 - (1 : Int))
  let v21 := IntKind.i64.wrap (x5 - (1 : Int))
  bif decide (0 ≤ v21) && decide (v21 < (List.length x1 : Int)) then (let v22 := List.getD x1 (Int.toNat v21) (0 : Int)
  let v23 := IntKind.u64.wrap v22
  let v24 := IntKind.u64.wrap (x8 + v23)
  bif decide ((32 : Int) < 0) then none
  else (let v25 := shrI .u64 v24 (32 : Int)
  let v26 := (v25 != (0 : Int))
  bif v26 then (f10 x0 x0_o x0_n x0_g x1 x5 v20 (0 : Int) (0 : Int) x5 (0 : Int))
  else (f4 x0 x0_o x0_n x0_g x1 x5 v20 v24)))
  else none)
  else (f10 x0 x0_o x0_n x0_g x1 x5 x7 (0 : Int) (0 : Int) x5 (0 : Int)))
  else none))
  else none))
noncomputable def nat_digit.b10 (f4 : Dt23 → Nat → Nat → (Nat × Nat) → Dt23 → Int → Int → Int → Option ((Int × Unit) × List Int × (Nat × Nat))) (f10 : Dt23 → Nat → Nat → (Nat × Nat) → Dt23 → Int → Int → Int → Int → Int → Int → Option ((Int × Unit) × List Int × (Nat × Nat))) (f21 : Dt23 → Nat → Nat → (Nat × Nat) → Dt23 → Int → Int → Int → Int → Int → Option ((Int × Unit) × List Int × (Nat × Nat))) (x0 : Dt23) (x0_o : Nat) (x0_n : Nat) (x0_g : (Nat × Nat)) (x1 : Dt23) (x5 : Int) (x7 : Int) (x9 : Int) (x10 : Int) (x82 : Int) (x83 : Int) : Option ((Int × Unit) × List Int × (Nat × Nat)) :=
  let v1 := decide (x83 < x82)
  bif v1 then (bif decide (0 ≤ x83) && decide (x83 < (List.length x1 : Int)) then (let v2 := List.getD x1 (Int.toNat x83) (0 : Int)
  let v3 := IntKind.u64.wrap v2
  let v4 := IntKind.u64.wrap (x7 * v3)
  let v5 := IntKind.u64.wrap (v4 + x10)
  bif decide ((32 : Int) < 0) then none
  else (let v6 := shrI .u64 v5 (32 : Int)
  bif decide (0 ≤ x83) && decide (x83 < ((x0_n : Nat) : Int)) then (let v7 := List.getD x0 (x0_o + Int.toNat x83) (0 : Int)
  let v8 := IntKind.u32.wrap v5
  (bits_Sub32.F (v7, v8, x9, ())).bind fun y9 =>
  bif decide (0 ≤ x83) && decide (x83 < ((x0_n : Nat) : Int)) then (let v10 := List.set x0 (x0_o + Int.toNat x83) y9.1
  let v11 := IntKind.i64.wrap (x83 + (1 : Int))
  f10 v10 x0_o x0_n x0_g x1 x5 x7 y9.2.1 v6 x82 v11)
  else none)
  else none))
  else none)
  else (bif decide (0 ≤ x5) && decide (x5 < ((x0_n : Nat) : Int)) then (let v12 := List.getD x0 (x0_o + Int.toNat x5) (0 : Int)
  let v13 := IntKind.u32.wrap x10
  (bits_Sub32.F (v12, v13, x9, ())).bind fun y14 =>
  bif decide (0 ≤ x5) && decide (x5 < ((x0_n : Nat) : Int)) then (let v15 := List.set x0 (x0_o + Int.toNat x5) y14.1
  let v16 := (y14.2.1 == (1 : Int))
  bif v16 then (let v17 := IntKind.u64.wrap (x7 - (1 : Int))
  f21 v15 x0_o x0_n x0_g x1 x5 v17 (0 : Int) x5 (0 : Int))
  else (let v18 := IntKind.u32.wrap x7
  bif Nat.blt 0 x0_n && true then (some ((v18, ()), v15, x0_g))
  else none))
  else none)
  else none)
noncomputable def nat_digit.b21 (f4 : Dt23 → Nat → Nat → (Nat × Nat) → Dt23 → Int → Int → Int → Option ((Int × Unit) × List Int × (Nat × Nat))) (f10 : Dt23 → Nat → Nat → (Nat × Nat) → Dt23 → Int → Int → Int → Int → Int → Int → Option ((Int × Unit) × List Int × (Nat × Nat))) (f21 : Dt23 → Nat → Nat → (Nat × Nat) → Dt23 → Int → Int → Int → Int → Int → Option ((Int × Unit) × List Int × (Nat × Nat))) (x0 : Dt23) (x0_o : Nat) (x0_n : Nat) (x0_g : (Nat × Nat)) (x1 : Dt23) (x5 : Int) (x7 : Int) (x13 : Int) (x130 : Int) (x131 : Int) : Option ((Int × Unit) × List Int × (Nat × Nat)) :=
  let v1 := decide (x131 < x130)
  bif v1 then (bif decide (0 ≤ x131) && decide (x131 < ((x0_n : Nat) : Int)) then (let v2 := List.getD x0 (x0_o + Int.toNat x131) (0 : Int)
  bif decide (0 ≤ x131) && decide (x131 < (List.length x1 : Int)) then (let v3 := List.getD x1 (Int.toNat x131) (0 : Int)
  (bits_Add32.F (v2, v3, x13, ())).bind fun y4 =>
  bif decide (0 ≤ x131) && decide (x131 < ((x0_n : Nat) : Int)) then (let v5 := List.set x0 (x0_o + Int.toNat x131) y4.1
  let v6 := IntKind.i64.wrap (x131 + (1 : Int))
  f21 v5 x0_o x0_n x0_g x1 x5 x7 y4.2.1 x130 v6)
  else none)
  else none)
  else none)
  else (bif decide (0 ≤ x5) && decide (x5 < ((x0_n : Nat) : Int)) then (let v7 := List.getD x0 (x0_o + Int.toNat x5) (0 : Int)
  let v8 := IntKind.u32.wrap (v7 + x13)
  bif decide (0 ≤ x5) && decide (x5 < ((x0_n : Nat) : Int)) then (let v9 := List.set x0 (x0_o + Int.toNat x5) v8
  let v10 := IntKind.u32.wrap x7
  bif Nat.blt 0 x0_n && true then (some ((v10, ()), v9, x0_g))
  else none)
  else none)
  else none)
noncomputable def nat_digit.e (f4 : Dt23 → Nat → Nat → (Nat × Nat) → Dt23 → Int → Int → Int → Option ((Int × Unit) × List Int × (Nat × Nat))) (f10 : Dt23 → Nat → Nat → (Nat × Nat) → Dt23 → Int → Int → Int → Int → Int → Int → Option ((Int × Unit) × List Int × (Nat × Nat))) (f21 : Dt23 → Nat → Nat → (Nat × Nat) → Dt23 → Int → Int → Int → Int → Int → Option ((Int × Unit) × List Int × (Nat × Nat))) (zs : List Int) (o n : Nat) (g : Nat × Nat) (a1 : Dt23) : Option ((Int × Unit) × List Int × (Nat × Nat)) :=
  let v1 := (List.length a1 : Int)
  bif decide (0 ≤ v1) && decide (v1 < ((n : Nat) : Int)) then (let v2 := List.getD zs (o + Int.toNat v1) (0 : Int)
  let v3 := IntKind.u64.wrap v2
  bif decide ((32 : Int) < 0) then none
  else (let v4 := shlI .u64 v3 (32 : Int)
  let v5 := IntKind.i64.wrap (v1 - (1 : Int))
  bif decide (0 ≤ v5) && decide (v5 < ((n : Nat) : Int)) then (let v6 := List.getD zs (o + Int.toNat v5) (0 : Int)
  let v7 := IntKind.u64.wrap v6
  let v8 := bitsOp .or .u64 v4 v7
  let v9 := IntKind.i64.wrap (v1 - (1 : Int))
  bif decide (0 ≤ v9) && decide (v9 < (List.length a1 : Int)) then (let v10 := List.getD a1 (Int.toNat v9) (0 : Int)
  let v11 := IntKind.u64.wrap v10
  bif decide (v11 = 0) then none
  else (let v12 := IntKind.u64.wrap (Int.tdiv v8 v11)
  let v13 := IntKind.i64.wrap (v1 - (1 : Int))
  bif decide (0 ≤ v13) && decide (v13 < (List.length a1 : Int)) then (let v14 := List.getD a1 (Int.toNat v13) (0 : Int)
  let v15 := IntKind.u64.wrap v14
  bif decide (v15 = 0) then none
  else (let v16 := Int.tmod v8 v15
  f4 zs o n g a1 v1 v12 v16))
  else none))
  else none)
  else none))
  else none
noncomputable def nat_digit.L4 (k : Nat) (x0 : Dt23) (x0_o : Nat) (x0_n : Nat) (x0_g : (Nat × Nat)) (x1 : Dt23) (x5 : Int) (x7 : Int) (x8 : Int) : Option ((Int × Unit) × List Int × (Nat × Nat)) := heads (nat_digit.spec.env nat_digit.cals T Try.f112) (Func.pts Try.f112) k 4 (nat_digit.m4 x0 x0_o x0_n x0_g x1 x5 x7 x8)
noncomputable def nat_digit.L10 (k : Nat) (x0 : Dt23) (x0_o : Nat) (x0_n : Nat) (x0_g : (Nat × Nat)) (x1 : Dt23) (x5 : Int) (x7 : Int) (x9 : Int) (x10 : Int) (x82 : Int) (x83 : Int) : Option ((Int × Unit) × List Int × (Nat × Nat)) := heads (nat_digit.spec.env nat_digit.cals T Try.f112) (Func.pts Try.f112) k 10 (nat_digit.m10 x0 x0_o x0_n x0_g x1 x5 x7 x9 x10 x82 x83)
noncomputable def nat_digit.L21 (k : Nat) (x0 : Dt23) (x0_o : Nat) (x0_n : Nat) (x0_g : (Nat × Nat)) (x1 : Dt23) (x5 : Int) (x7 : Int) (x13 : Int) (x130 : Int) (x131 : Int) : Option ((Int × Unit) × List Int × (Nat × Nat)) := heads (nat_digit.spec.env nat_digit.cals T Try.f112) (Func.pts Try.f112) k 21 (nat_digit.m21 x0 x0_o x0_n x0_g x1 x5 x7 x13 x130 x131)
theorem nat_digit.L4_succ (k : Nat) (x0 : Dt23) (x0_o : Nat) (x0_n : Nat) (x0_g : (Nat × Nat)) (x1 : Dt23) (x5 : Int) (x7 : Int) (x8 : Int) : nat_digit.L4 (k + 1) x0 x0_o x0_n x0_g x1 x5 x7 x8 = nat_digit.b4 (nat_digit.L4 k) (nat_digit.L10 k) (nat_digit.L21 k) x0 x0_o x0_n x0_g x1 x5 x7 x8 := by kernel_rfl
theorem nat_digit.L10_succ (k : Nat) (x0 : Dt23) (x0_o : Nat) (x0_n : Nat) (x0_g : (Nat × Nat)) (x1 : Dt23) (x5 : Int) (x7 : Int) (x9 : Int) (x10 : Int) (x82 : Int) (x83 : Int) : nat_digit.L10 (k + 1) x0 x0_o x0_n x0_g x1 x5 x7 x9 x10 x82 x83 = nat_digit.b10 (nat_digit.L4 k) (nat_digit.L10 k) (nat_digit.L21 k) x0 x0_o x0_n x0_g x1 x5 x7 x9 x10 x82 x83 := by kernel_rfl
theorem nat_digit.L21_succ (k : Nat) (x0 : Dt23) (x0_o : Nat) (x0_n : Nat) (x0_g : (Nat × Nat)) (x1 : Dt23) (x5 : Int) (x7 : Int) (x13 : Int) (x130 : Int) (x131 : Int) : nat_digit.L21 (k + 1) x0 x0_o x0_n x0_g x1 x5 x7 x13 x130 x131 = nat_digit.b21 (nat_digit.L4 k) (nat_digit.L10 k) (nat_digit.L21 k) x0 x0_o x0_n x0_g x1 x5 x7 x13 x130 x131 := by kernel_rfl
theorem nat_digit.eval (k : Nat) (zs : List Int) (o n : Nat) (g : Nat × Nat) (a1 : Dt23) : evalIO nat_digit.spec nat_digit.cals T Try.f112 k zs o n g (a1, ()) = nat_digit.e (nat_digit.L4 k) (nat_digit.L10 k) (nat_digit.L21 k) zs o n g a1 := by kernel_rfl
theorem nat_digit.of (zs : List Int) (o n : Nat) (a1 : Dt23) (y : (Int × Unit)) (ws : List Int) (h : ∀ g, ∃ k, nat_digit.e (nat_digit.L4 k) (nat_digit.L10 k) (nat_digit.L21 k) zs o n g a1 = some (y, ws, g)) : nat_digit.F zs o n (a1, ()) = some (y, ws) := limIO_of (q := nat_digit.spec) (C := nat_digit.cals) (T := T) (f := Try.f112) (x := (a1, ())) y ws fun g => (h g).imp fun k hk => (nat_digit.eval k zs o n g a1).trans hk
def nat_long.spec : Spec := ⟨[(false, Kt23), (false, Kt23)], [(false, Kt23), (false, Kt23)], .own, fun j => match j with | 7 => [(6, .lf (.v true)), (7, .lf (.z 70 (.int .u32) true)), (8, .lf (.o 70 (.int .u32) true)), (9, .lf (.v true)), (10, .lf (.o 70 (.int .u32) true)), (11, .lf (.v true))] | 12 => [(6, .lf (.v true)), (8, .lf (.o 70 (.int .u32) true)), (10, .lf (.o 70 (.int .u32) true)), (12, .lf (.o 70 (.int .u32) true)), (60, .lf (.v true)), (61, .lf (.v true))] | _ => []⟩
noncomputable def nat_long.cals : Cals := (Cals.withSubs [54] (Cals.consIo 112 nat_digit.sig (Cals.cons 111 bits_LeadingZeros32.sig (Cals.cons 103 nat_moved.sig (Cals.cons 99 nat_own.sig (Cals.base tabs))))))
noncomputable def nat_long.sig : Sig := nat_long.spec.sig nat_long.cals T Try.f105
noncomputable def nat_long.F (x : Dt23 × Dt23 × Unit) : Option (Dt23 × Dt23 × Unit) := limF nat_long.spec nat_long.cals T Try.f105 x
theorem nat_long.ck : CalsOk Try.prog nat_long.cals := (CalsOk.withSubs [54] (CalsOk.consIo nat_digit.cal (CalsOk.cons bits_LeadingZeros32.cal (CalsOk.cons nat_moved.cal (CalsOk.cons nat_own.cal (CalsOk.base tabsOk))))))
theorem nat_long.cal : CalOk Try.prog tabs 105 nat_long.sig := calOk_lim' tabOk nat_long.ck mix Try.func105 (by kernel_rfl) (by kernel_rfl) (by kernel_rfl) (by kernel_rfl)
def nat_long.m7 (x6 : Int) (x7 : Dt23) (x8 : Dt23) (x9 : Int) (x10 : Dt23) (x11 : Int) : S := ⟨[(6, .one (.lf (.val true (.int .i64) x6))), (7, .one (.lf (.val true Kt23 x7))), (8, .one (.lf (.own 0))), (9, .one (.lf (.val true (.int .i64) x9))), (10, .one (.lf (.own 1))), (11, .one (.lf (.val true (.int .i64) x11)))], ⟨[some ⟨70, (.int .u32), true, true, x8⟩, some ⟨70, (.int .u32), true, true, x10⟩], []⟩⟩
def nat_long.m12 (x6 : Int) (x8 : Dt23) (x10 : Dt23) (x12 : Dt23) (x60 : Int) (x61 : Int) : S := ⟨[(6, .one (.lf (.val true (.int .i64) x6))), (8, .one (.lf (.own 0))), (10, .one (.lf (.own 1))), (12, .one (.lf (.own 2))), (60, .one (.lf (.val true (.int .i64) x60))), (61, .one (.lf (.val true (.int .i64) x61)))], ⟨[some ⟨70, (.int .u32), true, true, x8⟩, some ⟨70, (.int .u32), true, true, x10⟩, some ⟨70, (.int .u32), true, true, x12⟩], []⟩⟩
noncomputable def nat_long.b7 (f7 : Int → Dt23 → Dt23 → Int → Dt23 → Int → Option (Dt23 × Dt23 × Unit)) (f12 : Int → Dt23 → Dt23 → Dt23 → Int → Int → Option (Dt23 × Dt23 × Unit)) (x6 : Int) (x7 : Dt23) (x8 : Dt23) (x9 : Int) (x10 : Dt23) (x11 : Int) : Option (Dt23 × Dt23 × Unit) :=
  let v1 := decide (x11 ≥ (0 : Int))
  bif v1 then (let v2 := IntKind.i64.wrap (x11 + x9)
  let v3 := IntKind.i64.wrap (v2 + (1 : Int))
  bif decide (0 ≤ x11) && (decide (x11 ≤ v3) && decide (v3 ≤ (List.length x8 : Int))) then (bif Nat.blt 0 (Int.toNat (v3 - x11)) && true then ((nat_digit.F x8 (Int.toNat x11) (Int.toNat (v3 - x11)) (x7, ())).bind fun y4 =>
  bif Nat.beq (List.length y4.2) (List.length x8) then (bif decide (0 ≤ x11) && decide (x11 < (List.length x10 : Int)) then (let v5 := List.set x10 (Int.toNat x11) y4.1.1
  let v6 := IntKind.i64.wrap (x11 - (1 : Int))
  f7 x6 x7 y4.2 x9 v5 v6)
  else none)
  else none)
  else none)
  else none)
  else (bif decide (0 ≤ x9) && (decide (x9 ≤ x9) && (decide (Int.toNat x9 * 4 ≤ 281474976710656) && Nat.blt 0 4)) then (let v7 := List.replicate (Int.toNat x9) (0 : Int)
  f12 x6 x8 x10 v7 x9 (0 : Int))
  else none)
noncomputable def nat_long.b12 (f7 : Int → Dt23 → Dt23 → Int → Dt23 → Int → Option (Dt23 × Dt23 × Unit)) (f12 : Int → Dt23 → Dt23 → Dt23 → Int → Int → Option (Dt23 × Dt23 × Unit)) (x6 : Int) (x8 : Dt23) (x10 : Dt23) (x12 : Dt23) (x60 : Int) (x61 : Int) : Option (Dt23 × Dt23 × Unit) :=
  let v1 := decide (x61 < x60)
  bif v1 then (bif decide (0 ≤ x61) && decide (x61 < (List.length x8 : Int)) then (let v2 := List.getD x8 (Int.toNat x61) (0 : Int)
  bif decide (x6 < 0) then none
  else (let v3 := shrI .u32 v2 x6
  let v4 := IntKind.i64.wrap (x61 + (1 : Int))
  bif decide (0 ≤ v4) && decide (v4 < (List.length x8 : Int)) then (let v5 := List.getD x8 (Int.toNat v4) (0 : Int)
  let v6 := IntKind.u64.wrap v5
  let v7 := IntKind.i64.wrap ((32 : Int) - x6)
  bif decide (v7 < 0) then none
  else (let v8 := shlI .u64 v6 v7
  let v9 := IntKind.u32.wrap v8
  let v10 := bitsOp .or .u32 v3 v9
  bif decide (0 ≤ x61) && decide (x61 < (List.length x12 : Int)) then (let v11 := List.set x12 (Int.toNat x61) v10
  let v12 := IntKind.i64.wrap (x61 + (1 : Int))
  f12 x6 x8 x10 v11 x60 v12)
  else none))
  else none))
  else none)
  else ((nat_own.F (x10, ())).bind fun y13 =>
  (nat_own.F (x12, ())).bind fun y14 =>
  some (y13.1, y14.1, ()))
noncomputable def nat_long.e (f7 : Int → Dt23 → Dt23 → Int → Dt23 → Int → Option (Dt23 × Dt23 × Unit)) (f12 : Int → Dt23 → Dt23 → Dt23 → Int → Int → Option (Dt23 × Dt23 × Unit)) (a0 : Dt23) (a1 : Dt23) : Option (Dt23 × Dt23 × Unit) :=
  let v1 := (List.length a1 : Int)
  let v2 := IntKind.i64.wrap (v1 - (1 : Int))
  bif decide (0 ≤ v2) && decide (v2 < (List.length a1 : Int)) then (let v3 := List.getD a1 (Int.toNat v2) (0 : Int)
  (bits_LeadingZeros32.F (v3, ())).bind fun y4 =>
  (nat_moved.F (a1, y4.1, ())).bind fun y5 =>
  let v6 := (List.length a1 : Int)
  bif decide (0 ≤ v6) && decide (v6 ≤ (List.length y5.1 : Int)) then (let v7 := List.take (Int.toNat v6) y5.1
  (nat_moved.F (a0, y4.1, ())).bind fun y8 =>
  let v9 := (List.length v7 : Int)
  let v10 := (List.length y8.1 : Int)
  let v11 := IntKind.i64.wrap (v10 - v9)
  bif decide (0 ≤ v11) && (decide (v11 ≤ v11) && (decide (Int.toNat v11 * 4 ≤ 281474976710656) && Nat.blt 0 4)) then (let v12 := List.replicate (Int.toNat v11) (0 : Int)
  let v13 := (List.length y8.1 : Int)
  let v14 := IntKind.i64.wrap (v13 - v9)
  let v15 := IntKind.i64.wrap (v14 - (1 : Int))
  f7 y4.1 v7 y8.1 v9 v12 v15)
  else none)
  else none)
  else none
noncomputable def nat_long.L7 (k : Nat) (x6 : Int) (x7 : Dt23) (x8 : Dt23) (x9 : Int) (x10 : Dt23) (x11 : Int) : Option (Dt23 × Dt23 × Unit) := heads (nat_long.spec.env nat_long.cals T Try.f105) (Func.pts Try.f105) k 7 (nat_long.m7 x6 x7 x8 x9 x10 x11)
noncomputable def nat_long.L12 (k : Nat) (x6 : Int) (x8 : Dt23) (x10 : Dt23) (x12 : Dt23) (x60 : Int) (x61 : Int) : Option (Dt23 × Dt23 × Unit) := heads (nat_long.spec.env nat_long.cals T Try.f105) (Func.pts Try.f105) k 12 (nat_long.m12 x6 x8 x10 x12 x60 x61)
theorem nat_long.L7_succ (k : Nat) (x6 : Int) (x7 : Dt23) (x8 : Dt23) (x9 : Int) (x10 : Dt23) (x11 : Int) : nat_long.L7 (k + 1) x6 x7 x8 x9 x10 x11 = nat_long.b7 (nat_long.L7 k) (nat_long.L12 k) x6 x7 x8 x9 x10 x11 := by kernel_rfl
theorem nat_long.L12_succ (k : Nat) (x6 : Int) (x8 : Dt23) (x10 : Dt23) (x12 : Dt23) (x60 : Int) (x61 : Int) : nat_long.L12 (k + 1) x6 x8 x10 x12 x60 x61 = nat_long.b12 (nat_long.L7 k) (nat_long.L12 k) x6 x8 x10 x12 x60 x61 := by kernel_rfl
theorem nat_long.eval (k : Nat) (a0 : Dt23) (a1 : Dt23) : evalF nat_long.spec nat_long.cals T Try.f105 k (a0, a1, ()) = nat_long.e (nat_long.L7 k) (nat_long.L12 k) a0 a1 := by kernel_rfl
theorem nat_long.F_eq (a0 : Dt23) (a1 : Dt23) : nat_long.F (a0, a1, ()) = limF nat_long.spec nat_long.cals T Try.f105 (a0, a1, ()) := by kernel_rfl
theorem nat_long.of (k : Nat) (a0 : Dt23) (a1 : Dt23) {y : Dt23 × Dt23 × Unit} (h : nat_long.e (nat_long.L7 k) (nat_long.L12 k) a0 a1 = some y) : nat_long.F (a0, a1, ()) = some y := (nat_long.F_eq a0 a1).trans (limF_of (q := nat_long.spec) (C := nat_long.cals) (T := T) (f := Try.f105) (x := (a0, a1, ())) (y := y) k ((nat_long.eval k a0 a1).trans h))
def nat_Div.spec : Spec := ⟨[(false, Kt23), (false, Kt23)], [(false, Kt23), (false, Kt23), (false, (.int .i64))], .own, fun j => match j with  | _ => []⟩
noncomputable def nat_Div.cals : Cals := (Cals.cons 98 nat_trim.sig (Cals.cons 80 nat_Cmp.sig (Cals.cons 99 nat_own.sig (Cals.cons 104 nat_short.sig (Cals.cons 105 nat_long.sig (Cals.base tabs))))))
noncomputable def nat_Div.sig : Sig := nat_Div.spec.sig nat_Div.cals T Try.f89
noncomputable def nat_Div.F (x : Dt23 × Dt23 × Unit) : Option (Dt23 × Dt23 × Int × Unit) := limF nat_Div.spec nat_Div.cals T Try.f89 x
theorem nat_Div.ck : CalsOk Try.prog nat_Div.cals := (CalsOk.cons nat_trim.cal (CalsOk.cons nat_Cmp.cal (CalsOk.cons nat_own.cal (CalsOk.cons nat_short.cal (CalsOk.cons nat_long.cal (CalsOk.base tabsOk))))))
theorem nat_Div.cal : CalOk Try.prog tabs 89 nat_Div.sig := calOk_lim' tabOk nat_Div.ck mix Try.func89 (by kernel_rfl) (by kernel_rfl) (by kernel_rfl) (by kernel_rfl)
noncomputable def nat_Div.e  (a0 : Dt23) (a1 : Dt23) : Option (Dt23 × Dt23 × Int × Unit) :=
  (nat_trim.F (a0, ())).bind fun y1 =>
  (nat_trim.F (a1, ())).bind fun y2 =>
  let v3 := (List.length y2.1 : Int)
  let v4 := (v3 == (0 : Int))
  bif v4 then (some (zt23, zt23, (11 : Int), ()))
  else ((nat_Cmp.F (y1.1, y2.1, ())).bind fun y5 =>
  let v6 := decide (y5.1 < (0 : Int))
  bif v6 then ((nat_own.F (y1.1, ())).bind fun y7 =>
  some (zt23, y7.1, (0 : Int), ()))
  else (let v8 := (List.length y2.1 : Int)
  let v9 := (v8 == (1 : Int))
  bif v9 then (bif decide (0 ≤ (0 : Int)) && decide ((0 : Int) < (List.length y2.1 : Int)) then (let v10 := List.getD y2.1 (Int.toNat (0 : Int)) (0 : Int)
  (nat_short.F (y1.1, v10, ())).bind fun y11 =>
  (nat_own.F (y11.1, ())).bind fun y12 =>
  let v13 := ([y11.2.1] : List Int)
  (nat_own.F (v13, ())).bind fun y14 =>
  some (y12.1, y14.1, (0 : Int), ()))
  else none)
  else ((nat_long.F (y1.1, y2.1, ())).bind fun y15 =>
  some (y15.1, y15.2.1, (0 : Int), ()))))
theorem nat_Div.eval (k : Nat) (a0 : Dt23) (a1 : Dt23) : evalF nat_Div.spec nat_Div.cals T Try.f89 k (a0, a1, ()) = nat_Div.e  a0 a1 := by kernel_rfl
theorem nat_Div.F_eq (a0 : Dt23) (a1 : Dt23) : nat_Div.F (a0, a1, ()) = limF nat_Div.spec nat_Div.cals T Try.f89 (a0, a1, ()) := by kernel_rfl
theorem nat_Div.of (k : Nat) (a0 : Dt23) (a1 : Dt23) {y : Dt23 × Dt23 × Int × Unit} (h : nat_Div.e  a0 a1 = some y) : nat_Div.F (a0, a1, ()) = some y := (nat_Div.F_eq a0 a1).trans (limF_of (q := nat_Div.spec) (C := nat_Div.cals) (T := T) (f := Try.f89) (x := (a0, a1, ())) (y := y) k ((nat_Div.eval k a0 a1).trans h))
def whole_Quo.spec : Spec := ⟨[(true, Kt25), (true, Kt25)], [(true, Kt25), (true, Kt25), (false, (.int .i64))], .own, fun j => match j with  | _ => []⟩
noncomputable def whole_Quo.cals : Cals := (Cals.cons 89 nat_Div.sig (Cals.cons 29 whole_Sign.sig (Cals.cons 72 whole_signed.sig (Cals.base tabs))))
noncomputable def whole_Quo.sig : Sig := whole_Quo.spec.sig whole_Quo.cals T Try.f43
noncomputable def whole_Quo.F (x : Dt25 × Dt25 × Unit) : Option (Dt25 × Dt25 × Int × Unit) := limF whole_Quo.spec whole_Quo.cals T Try.f43 x
theorem whole_Quo.ck : CalsOk Try.prog whole_Quo.cals := (CalsOk.cons nat_Div.cal (CalsOk.cons whole_Sign.cal (CalsOk.cons whole_signed.cal (CalsOk.base tabsOk))))
theorem whole_Quo.cal : CalOk Try.prog tabs 43 whole_Quo.sig := calOk_lim' tabOk whole_Quo.ck mix Try.func43 (by kernel_rfl) (by kernel_rfl) (by kernel_rfl) (by kernel_rfl)
noncomputable def whole_Quo.e  (a0 : Dt25) (a1 : Dt25) : Option (Dt25 × Dt25 × Int × Unit) :=
  (nat_Div.F (a0.2, a1.2, ())).bind fun y1 =>
  let v2 := (y1.2.2.1 != (0 : Int))
  bif v2 then (some (zt25, zt25, y1.2.2.1, ()))
  else ((whole_Sign.F ((a0.1, a0.2), ())).bind fun y3 =>
  (whole_Sign.F ((a1.1, a1.2), ())).bind fun y4 =>
  let v5 := ([y3.1, y4.1] : List Int)
  (whole_signed.F (y1.1, v5, ())).bind fun y6 =>
  (whole_Sign.F ((a0.1, a0.2), ())).bind fun y7 =>
  let v8 := ([y7.1] : List Int)
  (whole_signed.F (y1.2.1, v8, ())).bind fun y9 =>
  some ((y6.1.1, y6.1.2), (y9.1.1, y9.1.2), (0 : Int), ()))
theorem whole_Quo.eval (k : Nat) (a0 : Dt25) (a1 : Dt25) : evalF whole_Quo.spec whole_Quo.cals T Try.f43 k (a0, a1, ()) = whole_Quo.e  a0 a1 := by kernel_rfl
theorem whole_Quo.F_eq (a0 : Dt25) (a1 : Dt25) : whole_Quo.F (a0, a1, ()) = limF whole_Quo.spec whole_Quo.cals T Try.f43 (a0, a1, ()) := by kernel_rfl
theorem whole_Quo.of (k : Nat) (a0 : Dt25) (a1 : Dt25) {y : Dt25 × Dt25 × Int × Unit} (h : whole_Quo.e  a0 a1 = some y) : whole_Quo.F (a0, a1, ()) = some y := (whole_Quo.F_eq a0 a1).trans (limF_of (q := whole_Quo.spec) (C := whole_Quo.cals) (T := T) (f := Try.f43) (x := (a0, a1, ())) (y := y) k ((whole_Quo.eval k a0 a1).trans h))
def whole_moved.spec : Spec := ⟨[(true, Kt25), (true, Kt25), (true, Kt25), (false, .bool)], [(true, Kt25), (true, Kt25), (false, (.int .i64))], .own, fun j => match j with  | _ => []⟩
noncomputable def whole_moved.cals : Cals := (Cals.cons 29 whole_Sign.sig (Cals.cons 20 whole_Of.sig (Cals.cons 31 whole_Add.sig (Cals.cons 33 whole_Sub.sig (Cals.base tabs)))))
noncomputable def whole_moved.sig : Sig := whole_moved.spec.sig whole_moved.cals T Try.f91
noncomputable def whole_moved.F (x : Dt25 × Dt25 × Dt25 × Bool × Unit) : Option (Dt25 × Dt25 × Int × Unit) := limF whole_moved.spec whole_moved.cals T Try.f91 x
theorem whole_moved.ck : CalsOk Try.prog whole_moved.cals := (CalsOk.cons whole_Sign.cal (CalsOk.cons whole_Of.cal (CalsOk.cons whole_Add.cal (CalsOk.cons whole_Sub.cal (CalsOk.base tabsOk)))))
theorem whole_moved.cal : CalOk Try.prog tabs 91 whole_moved.sig := calOk_lim' tabOk whole_moved.ck mix Try.func91 (by kernel_rfl) (by kernel_rfl) (by kernel_rfl) (by kernel_rfl)
noncomputable def whole_moved.e  (a0 : Dt25) (a1 : Dt25) (a2 : Dt25) (a3 : Bool) : Option (Dt25 × Dt25 × Int × Unit) :=
  let v1 := not a3
  bif v1 then (none)
  else ((whole_Sign.F ((a1.1, a1.2), ())).bind fun y2 =>
  (whole_Sign.F ((a2.1, a2.2), ())).bind fun y3 =>
  let v4 := (y2.1 == y3.1)
  bif v4 then ((whole_Of.F ((1 : Int), ())).bind fun y5 =>
  (whole_Add.F ((a0.1, a0.2), (y5.1.1, y5.1.2), ())).bind fun y6 =>
  (whole_Sub.F ((a1.1, a1.2), (a2.1, a2.2), ())).bind fun y7 =>
  some ((y6.1.1, y6.1.2), (y7.1.1, y7.1.2), (0 : Int), ()))
  else ((whole_Of.F ((1 : Int), ())).bind fun y8 =>
  (whole_Sub.F ((a0.1, a0.2), (y8.1.1, y8.1.2), ())).bind fun y9 =>
  (whole_Add.F ((a1.1, a1.2), (a2.1, a2.2), ())).bind fun y10 =>
  some ((y9.1.1, y9.1.2), (y10.1.1, y10.1.2), (0 : Int), ())))
theorem whole_moved.eval (k : Nat) (a0 : Dt25) (a1 : Dt25) (a2 : Dt25) (a3 : Bool) : evalF whole_moved.spec whole_moved.cals T Try.f91 k (a0, a1, a2, a3, ()) = whole_moved.e  a0 a1 a2 a3 := by kernel_rfl
theorem whole_moved.F_eq (a0 : Dt25) (a1 : Dt25) (a2 : Dt25) (a3 : Bool) : whole_moved.F (a0, a1, a2, a3, ()) = limF whole_moved.spec whole_moved.cals T Try.f91 (a0, a1, a2, a3, ()) := by kernel_rfl
theorem whole_moved.of (k : Nat) (a0 : Dt25) (a1 : Dt25) (a2 : Dt25) (a3 : Bool) {y : Dt25 × Dt25 × Int × Unit} (h : whole_moved.e  a0 a1 a2 a3 = some y) : whole_moved.F (a0, a1, a2, a3, ()) = some y := (whole_moved.F_eq a0 a1 a2 a3).trans (limF_of (q := whole_moved.spec) (C := whole_moved.cals) (T := T) (f := Try.f91) (x := (a0, a1, a2, a3, ())) (y := y) k ((whole_moved.eval k a0 a1 a2 a3).trans h))
noncomputable def whole_moved.oth : Oth := .pt 91 whole_moved.sig
def whole_moved.rawSpec : Spec := ⟨[(true, .prod .raw .raw), (true, .prod .raw .raw), (true, .prod .raw .raw), (false, .bool)], [(true, .prod .raw .raw), (true, .prod .raw .raw), (false, (.int .i64))], .fresh, fun _ => []⟩
noncomputable def whole_moved.rawSig : Sig := whole_moved.rawSpec.sig (Cals.base tabs) T Try.f91
theorem whole_moved.rawCal : CalOk Try.prog tabs 91 whole_moved.rawSig := calOk_lim' tabOk (CalsOk.base tabsOk) mix Try.func91 (by kernel_rfl) (by kernel_rfl) (by kernel_rfl) (by kernel_rfl)
theorem whole_moved.rawEval (x1 x2 y1 y2 z1 z2 : Value) : evalF whole_moved.rawSpec (Cals.base tabs) T Try.f91 0 ((x1, x2), (y1, y2), (z1, z2), false, ()) = some ((x1, x2), (y1, y2), (0 : Int), ()) := by kernel_rfl
theorem whole_moved.rawF (x1 x2 y1 y2 z1 z2 : Value) : whole_moved.rawSig.fn ((x1, x2), (y1, y2), (z1, z2), false, ()) = some ((x1, x2), (y1, y2), (0 : Int), ()) := limF_of (q := whole_moved.rawSpec) (C := Cals.base tabs) (T := T) (f := Try.f91) (x := ((x1, x2), (y1, y2), (z1, z2), false, ())) (y := ((x1, x2), (y1, y2), (0 : Int), ())) 0 (whole_moved.rawEval x1 x2 y1 y2 z1 z2)
theorem whole_moved.ok : OthOk Try.prog 91 whole_moved.oth := pt_ok whole_moved.cal rfl (fn := whole_moved.rawSig.fn) whole_moved.rawCal (fun x1 x2 y1 y2 z1 z2 => whole_moved.rawF x1 x2 y1 y2 z1 z2)
def whole_Floor.spec : Spec := ⟨[(true, Kt25), (true, Kt25)], [(true, Kt25), (true, Kt25), (false, (.int .i64))], .own, fun j => match j with  | _ => []⟩
noncomputable def whole_Floor.cals : Cals := (Cals.consO 91 whole_moved.oth (Cals.cons 43 whole_Quo.sig (Cals.cons 29 whole_Sign.sig (Cals.base tabs))))
noncomputable def whole_Floor.sig : Sig := whole_Floor.spec.sig whole_Floor.cals T Try.f45
noncomputable def whole_Floor.F (x : Dt25 × Dt25 × Unit) : Option (Dt25 × Dt25 × Int × Unit) := limF whole_Floor.spec whole_Floor.cals T Try.f45 x
theorem whole_Floor.ck : CalsOk Try.prog whole_Floor.cals := (CalsOk.consO whole_moved.ok (CalsOk.cons whole_Quo.cal (CalsOk.cons whole_Sign.cal (CalsOk.base tabsOk))))
theorem whole_Floor.cal : CalOk Try.prog tabs 45 whole_Floor.sig := calOk_lim' tabOk whole_Floor.ck mix Try.func45 (by kernel_rfl) (by kernel_rfl) (by kernel_rfl) (by kernel_rfl)
noncomputable def whole_Floor.e  (a0 : Dt25) (a1 : Dt25) : Option (Dt25 × Dt25 × Int × Unit) :=
  (whole_Quo.F ((a0.1, a0.2), (a1.1, a1.2), ())).bind fun y1 =>
  let v2 := (y1.2.2.1 != (0 : Int))
  bif v2 then (some ((y1.1.1, y1.1.2), (y1.2.1.1, y1.2.1.2), y1.2.2.1, ()))
  else ((whole_Sign.F ((y1.2.1.1, y1.2.1.2), ())).bind fun y3 =>
  (whole_Sign.F ((a1.1, a1.2), ())).bind fun y4 =>
  let v5 := IntKind.i64.wrap (y3.1 * y4.1)
  let v6 := decide (v5 < (0 : Int))
  bif v6 then ((whole_moved.F ((y1.1.1, y1.1.2), (y1.2.1.1, y1.2.1.2), (a1.1, a1.2), v6, ())).bind fun y7 =>
  some ((y7.1.1, y7.1.2), (y7.2.1.1, y7.2.1.2), y7.2.2.1, ()))
  else (some ((y1.1.1, y1.1.2), (y1.2.1.1, y1.2.1.2), (0 : Int), ())))
theorem whole_Floor.eval (k : Nat) (a0 : Dt25) (a1 : Dt25) : evalF whole_Floor.spec whole_Floor.cals T Try.f45 k (a0, a1, ()) = whole_Floor.e  a0 a1 := by kernel_rfl
theorem whole_Floor.F_eq (a0 : Dt25) (a1 : Dt25) : whole_Floor.F (a0, a1, ()) = limF whole_Floor.spec whole_Floor.cals T Try.f45 (a0, a1, ()) := by kernel_rfl
theorem whole_Floor.of (k : Nat) (a0 : Dt25) (a1 : Dt25) {y : Dt25 × Dt25 × Int × Unit} (h : whole_Floor.e  a0 a1 = some y) : whole_Floor.F (a0, a1, ()) = some y := (whole_Floor.F_eq a0 a1).trans (limF_of (q := whole_Floor.spec) (C := whole_Floor.cals) (T := T) (f := Try.f45) (x := (a0, a1, ())) (y := y) k ((whole_Floor.eval k a0 a1).trans h))
def whole_Euclid.spec : Spec := ⟨[(true, Kt25), (true, Kt25)], [(true, Kt25), (true, Kt25), (false, (.int .i64))], .own, fun j => match j with  | _ => []⟩
noncomputable def whole_Euclid.cals : Cals := (Cals.consO 91 whole_moved.oth (Cals.cons 43 whole_Quo.sig (Cals.cons 29 whole_Sign.sig (Cals.cons 20 whole_Of.sig (Cals.cons 31 whole_Add.sig (Cals.cons 33 whole_Sub.sig (Cals.base tabs)))))))
noncomputable def whole_Euclid.sig : Sig := whole_Euclid.spec.sig whole_Euclid.cals T Try.f47
noncomputable def whole_Euclid.F (x : Dt25 × Dt25 × Unit) : Option (Dt25 × Dt25 × Int × Unit) := limF whole_Euclid.spec whole_Euclid.cals T Try.f47 x
theorem whole_Euclid.ck : CalsOk Try.prog whole_Euclid.cals := (CalsOk.consO whole_moved.ok (CalsOk.cons whole_Quo.cal (CalsOk.cons whole_Sign.cal (CalsOk.cons whole_Of.cal (CalsOk.cons whole_Add.cal (CalsOk.cons whole_Sub.cal (CalsOk.base tabsOk)))))))
theorem whole_Euclid.cal : CalOk Try.prog tabs 47 whole_Euclid.sig := calOk_lim' tabOk whole_Euclid.ck mix Try.func47 (by kernel_rfl) (by kernel_rfl) (by kernel_rfl) (by kernel_rfl)
noncomputable def whole_Euclid.e  (a0 : Dt25) (a1 : Dt25) : Option (Dt25 × Dt25 × Int × Unit) :=
  (whole_Quo.F ((a0.1, a0.2), (a1.1, a1.2), ())).bind fun y1 =>
  let v2 := (y1.2.2.1 != (0 : Int))
  bif v2 then (some ((y1.1.1, y1.1.2), (y1.2.1.1, y1.2.1.2), y1.2.2.1, ()))
  else ((whole_Sign.F ((y1.2.1.1, y1.2.1.2), ())).bind fun y3 =>
  let v4 := decide (y3.1 < (0 : Int))
  bif v4 then ((whole_Sign.F ((a1.1, a1.2), ())).bind fun y5 =>
  let v6 := decide (y5.1 < (0 : Int))
  bif v6 then ((whole_Of.F ((1 : Int), ())).bind fun y7 =>
  (whole_Add.F ((y1.1.1, y1.1.2), (y7.1.1, y7.1.2), ())).bind fun y8 =>
  (whole_Sub.F ((y1.2.1.1, y1.2.1.2), (a1.1, a1.2), ())).bind fun y9 =>
  some ((y8.1.1, y8.1.2), (y9.1.1, y9.1.2), (0 : Int), ()))
  else ((whole_Sign.F ((y1.2.1.1, y1.2.1.2), ())).bind fun y10 =>
  let v11 := decide (y10.1 < (0 : Int))
  bif v11 then ((whole_moved.F ((y1.1.1, y1.1.2), (y1.2.1.1, y1.2.1.2), (a1.1, a1.2), v11, ())).bind fun y12 =>
  some ((y12.1.1, y12.1.2), (y12.2.1.1, y12.2.1.2), y12.2.2.1, ()))
  else (some ((y1.1.1, y1.1.2), (y1.2.1.1, y1.2.1.2), (0 : Int), ()))))
  else ((whole_Sign.F ((y1.2.1.1, y1.2.1.2), ())).bind fun y13 =>
  let v14 := decide (y13.1 < (0 : Int))
  bif v14 then ((whole_moved.F ((y1.1.1, y1.1.2), (y1.2.1.1, y1.2.1.2), (a1.1, a1.2), v14, ())).bind fun y15 =>
  some ((y15.1.1, y15.1.2), (y15.2.1.1, y15.2.1.2), y15.2.2.1, ()))
  else (some ((y1.1.1, y1.1.2), (y1.2.1.1, y1.2.1.2), (0 : Int), ()))))
theorem whole_Euclid.eval (k : Nat) (a0 : Dt25) (a1 : Dt25) : evalF whole_Euclid.spec whole_Euclid.cals T Try.f47 k (a0, a1, ()) = whole_Euclid.e  a0 a1 := by kernel_rfl
theorem whole_Euclid.F_eq (a0 : Dt25) (a1 : Dt25) : whole_Euclid.F (a0, a1, ()) = limF whole_Euclid.spec whole_Euclid.cals T Try.f47 (a0, a1, ()) := by kernel_rfl
theorem whole_Euclid.of (k : Nat) (a0 : Dt25) (a1 : Dt25) {y : Dt25 × Dt25 × Int × Unit} (h : whole_Euclid.e  a0 a1 = some y) : whole_Euclid.F (a0, a1, ()) = some y := (whole_Euclid.F_eq a0 a1).trans (limF_of (q := whole_Euclid.spec) (C := whole_Euclid.cals) (T := T) (f := Try.f47) (x := (a0, a1, ())) (y := y) k ((whole_Euclid.eval k a0 a1).trans h))
def nat_Gcd.spec : Spec := ⟨[(false, Kt23), (false, Kt23)], [(false, Kt23)], .own, fun j => match j with | 2 => [(0, .lf (.o 70 (.int .u32) true)), (1, .lf (.o 70 (.int .u32) true))] | _ => []⟩
noncomputable def nat_Gcd.cals : Cals := (Cals.cons 99 nat_own.sig (Cals.cons 89 nat_Div.sig (Cals.base tabs)))
noncomputable def nat_Gcd.sig : Sig := nat_Gcd.spec.sig nat_Gcd.cals T Try.f95
noncomputable def nat_Gcd.F (x : Dt23 × Dt23 × Unit) : Option (Dt23 × Unit) := limF nat_Gcd.spec nat_Gcd.cals T Try.f95 x
theorem nat_Gcd.ck : CalsOk Try.prog nat_Gcd.cals := (CalsOk.cons nat_own.cal (CalsOk.cons nat_Div.cal (CalsOk.base tabsOk)))
theorem nat_Gcd.cal : CalOk Try.prog tabs 95 nat_Gcd.sig := calOk_lim' tabOk nat_Gcd.ck mix Try.func95 (by kernel_rfl) (by kernel_rfl) (by kernel_rfl) (by kernel_rfl)
def nat_Gcd.m2 (x0 : Dt23) (x1 : Dt23) : S := ⟨[(0, .one (.lf (.own 0))), (1, .one (.lf (.own 1)))], ⟨[some ⟨70, (.int .u32), true, true, x0⟩, some ⟨70, (.int .u32), true, true, x1⟩], []⟩⟩
noncomputable def nat_Gcd.b2 (f2 : Dt23 → Dt23 → Option (Dt23 × Unit)) (x0 : Dt23) (x1 : Dt23) : Option (Dt23 × Unit) :=
  let v1 := (List.length x1 : Int)
  let v2 := decide (v1 > (0 : Int))
  bif v2 then ((nat_Div.F (x0, x1, ())).bind fun y3 =>
  f2 x1 y3.2.1)
  else (some (x0, ()))
noncomputable def nat_Gcd.e (f2 : Dt23 → Dt23 → Option (Dt23 × Unit)) (a0 : Dt23) (a1 : Dt23) : Option (Dt23 × Unit) :=
  (nat_own.F (a0, ())).bind fun y1 =>
  (nat_own.F (a1, ())).bind fun y2 =>
  f2 y1.1 y2.1
noncomputable def nat_Gcd.L2 (k : Nat) (x0 : Dt23) (x1 : Dt23) : Option (Dt23 × Unit) := heads (nat_Gcd.spec.env nat_Gcd.cals T Try.f95) (Func.pts Try.f95) k 2 (nat_Gcd.m2 x0 x1)
theorem nat_Gcd.L2_succ (k : Nat) (x0 : Dt23) (x1 : Dt23) : nat_Gcd.L2 (k + 1) x0 x1 = nat_Gcd.b2 (nat_Gcd.L2 k) x0 x1 := by kernel_rfl
theorem nat_Gcd.eval (k : Nat) (a0 : Dt23) (a1 : Dt23) : evalF nat_Gcd.spec nat_Gcd.cals T Try.f95 k (a0, a1, ()) = nat_Gcd.e (nat_Gcd.L2 k) a0 a1 := by kernel_rfl
theorem nat_Gcd.F_eq (a0 : Dt23) (a1 : Dt23) : nat_Gcd.F (a0, a1, ()) = limF nat_Gcd.spec nat_Gcd.cals T Try.f95 (a0, a1, ()) := by kernel_rfl
theorem nat_Gcd.of (k : Nat) (a0 : Dt23) (a1 : Dt23) {y : Dt23 × Unit} (h : nat_Gcd.e (nat_Gcd.L2 k) a0 a1 = some y) : nat_Gcd.F (a0, a1, ()) = some y := (nat_Gcd.F_eq a0 a1).trans (limF_of (q := nat_Gcd.spec) (C := nat_Gcd.cals) (T := T) (f := Try.f95) (x := (a0, a1, ())) (y := y) k ((nat_Gcd.eval k a0 a1).trans h))
def whole_Gcd.spec : Spec := ⟨[(true, Kt25), (true, Kt25)], [(false, Kt23)], .own, fun j => match j with  | _ => []⟩
noncomputable def whole_Gcd.cals : Cals := (Cals.cons 95 nat_Gcd.sig (Cals.base tabs))
noncomputable def whole_Gcd.sig : Sig := whole_Gcd.spec.sig whole_Gcd.cals T Try.f56
noncomputable def whole_Gcd.F (x : Dt25 × Dt25 × Unit) : Option (Dt23 × Unit) := limF whole_Gcd.spec whole_Gcd.cals T Try.f56 x
theorem whole_Gcd.ck : CalsOk Try.prog whole_Gcd.cals := (CalsOk.cons nat_Gcd.cal (CalsOk.base tabsOk))
theorem whole_Gcd.cal : CalOk Try.prog tabs 56 whole_Gcd.sig := calOk_lim' tabOk whole_Gcd.ck mix Try.func56 (by kernel_rfl) (by kernel_rfl) (by kernel_rfl) (by kernel_rfl)
noncomputable def whole_Gcd.e  (a0 : Dt25) (a1 : Dt25) : Option (Dt23 × Unit) :=
  (nat_Gcd.F (a0.2, a1.2, ())).bind fun y1 =>
  some (y1.1, ())
theorem whole_Gcd.eval (k : Nat) (a0 : Dt25) (a1 : Dt25) : evalF whole_Gcd.spec whole_Gcd.cals T Try.f56 k (a0, a1, ()) = whole_Gcd.e  a0 a1 := by kernel_rfl
theorem whole_Gcd.F_eq (a0 : Dt25) (a1 : Dt25) : whole_Gcd.F (a0, a1, ()) = limF whole_Gcd.spec whole_Gcd.cals T Try.f56 (a0, a1, ()) := by kernel_rfl
theorem whole_Gcd.of (k : Nat) (a0 : Dt25) (a1 : Dt25) {y : Dt23 × Unit} (h : whole_Gcd.e  a0 a1 = some y) : whole_Gcd.F (a0, a1, ()) = some y := (whole_Gcd.F_eq a0 a1).trans (limF_of (q := whole_Gcd.spec) (C := whole_Gcd.cals) (T := T) (f := Try.f56) (x := (a0, a1, ())) (y := y) k ((whole_Gcd.eval k a0 a1).trans h))
def whole_Lcm.spec : Spec := ⟨[(true, Kt25), (true, Kt25)], [(false, Kt23)], .own, fun j => match j with  | _ => []⟩
noncomputable def whole_Lcm.cals : Cals := (Cals.cons 29 whole_Sign.sig (Cals.cons 56 whole_Gcd.sig (Cals.cons 89 nat_Div.sig (Cals.cons 85 nat_Mul.sig (Cals.base tabs)))))
noncomputable def whole_Lcm.sig : Sig := whole_Lcm.spec.sig whole_Lcm.cals T Try.f59
noncomputable def whole_Lcm.F (x : Dt25 × Dt25 × Unit) : Option (Dt23 × Unit) := limF whole_Lcm.spec whole_Lcm.cals T Try.f59 x
theorem whole_Lcm.ck : CalsOk Try.prog whole_Lcm.cals := (CalsOk.cons whole_Sign.cal (CalsOk.cons whole_Gcd.cal (CalsOk.cons nat_Div.cal (CalsOk.cons nat_Mul.cal (CalsOk.base tabsOk)))))
theorem whole_Lcm.cal : CalOk Try.prog tabs 59 whole_Lcm.sig := calOk_lim' tabOk whole_Lcm.ck mix Try.func59 (by kernel_rfl) (by kernel_rfl) (by kernel_rfl) (by kernel_rfl)
noncomputable def whole_Lcm.e  (a0 : Dt25) (a1 : Dt25) : Option (Dt23 × Unit) :=
  (whole_Sign.F ((a0.1, a0.2), ())).bind fun y1 =>
  (whole_Sign.F ((a1.1, a1.2), ())).bind fun y2 =>
  let v3 := IntKind.i64.wrap (y1.1 * y2.1)
  let v4 := (v3 == (0 : Int))
  bif v4 then (some (zt23, ()))
  else ((whole_Gcd.F ((a0.1, a0.2), (a1.1, a1.2), ())).bind fun y5 =>
  (nat_Div.F (a0.2, y5.1, ())).bind fun y6 =>
  (nat_Mul.F (y6.1, a1.2, ())).bind fun y7 =>
  some (y7.1, ()))
theorem whole_Lcm.eval (k : Nat) (a0 : Dt25) (a1 : Dt25) : evalF whole_Lcm.spec whole_Lcm.cals T Try.f59 k (a0, a1, ()) = whole_Lcm.e  a0 a1 := by kernel_rfl
theorem whole_Lcm.F_eq (a0 : Dt25) (a1 : Dt25) : whole_Lcm.F (a0, a1, ()) = limF whole_Lcm.spec whole_Lcm.cals T Try.f59 (a0, a1, ()) := by kernel_rfl
theorem whole_Lcm.of (k : Nat) (a0 : Dt25) (a1 : Dt25) {y : Dt23 × Unit} (h : whole_Lcm.e  a0 a1 = some y) : whole_Lcm.F (a0, a1, ()) = some y := (whole_Lcm.F_eq a0 a1).trans (limF_of (q := whole_Lcm.spec) (C := whole_Lcm.cals) (T := T) (f := Try.f59) (x := (a0, a1, ())) (y := y) k ((whole_Lcm.eval k a0 a1).trans h))
def whole_plain.spec : Spec := ⟨[(false, Kt23)], [(true, Kt25)], .own, fun j => match j with  | _ => []⟩
noncomputable def whole_plain.cals : Cals := (Cals.cons 72 whole_signed.sig (Cals.base tabs))
noncomputable def whole_plain.sig : Sig := whole_plain.spec.sig whole_plain.cals T Try.f94
noncomputable def whole_plain.F (x : Dt23 × Unit) : Option (Dt25 × Unit) := limF whole_plain.spec whole_plain.cals T Try.f94 x
theorem whole_plain.ck : CalsOk Try.prog whole_plain.cals := (CalsOk.cons whole_signed.cal (CalsOk.base tabsOk))
theorem whole_plain.cal : CalOk Try.prog tabs 94 whole_plain.sig := calOk_lim' tabOk whole_plain.ck mix Try.func94 (by kernel_rfl) (by kernel_rfl) (by kernel_rfl) (by kernel_rfl)
noncomputable def whole_plain.e  (a0 : Dt23) : Option (Dt25 × Unit) :=
  (whole_signed.F (a0, zt23, ())).bind fun y1 =>
  some ((y1.1.1, y1.1.2), ())
theorem whole_plain.eval (k : Nat) (a0 : Dt23) : evalF whole_plain.spec whole_plain.cals T Try.f94 k (a0, ()) = whole_plain.e  a0 := by kernel_rfl
theorem whole_plain.F_eq (a0 : Dt23) : whole_plain.F (a0, ()) = limF whole_plain.spec whole_plain.cals T Try.f94 (a0, ()) := by kernel_rfl
theorem whole_plain.of (k : Nat) (a0 : Dt23) {y : Dt25 × Unit} (h : whole_plain.e  a0 = some y) : whole_plain.F (a0, ()) = some y := (whole_plain.F_eq a0).trans (limF_of (q := whole_plain.spec) (C := whole_plain.cals) (T := T) (f := Try.f94) (x := (a0, ())) (y := y) k ((whole_plain.eval k a0).trans h))
def whole_Inverse.spec : Spec := ⟨[(true, Kt25), (true, Kt25)], [(true, Kt25), (false, (.int .i64))], .own, fun j => match j with | 6 => [(3, .box 25 [.v false, .z 70 (.int .u32) false]), (4, .box 25 [.v true, .v true]), (6, .box 25 [.v true, .o 70 (.int .u32) true]), (7, .box 25 [.v true, .o 70 (.int .u32) true]), (9, .box 25 [.v true, .o 70 (.int .u32) true]), (11, .box 25 [.v true, .o 70 (.int .u32) true])] | _ => []⟩
noncomputable def whole_Inverse.cals : Cals := (Cals.cons 29 whole_Sign.sig (Cals.cons 94 whole_plain.sig (Cals.cons 20 whole_Of.sig (Cals.cons 47 whole_Euclid.sig (Cals.cons 43 whole_Quo.sig (Cals.cons 35 whole_Mul.sig (Cals.cons 33 whole_Sub.sig (Cals.cons 37 whole_Cmp.sig (Cals.base tabs)))))))))
noncomputable def whole_Inverse.sig : Sig := whole_Inverse.spec.sig whole_Inverse.cals T Try.f55
noncomputable def whole_Inverse.F (x : Dt25 × Dt25 × Unit) : Option (Dt25 × Int × Unit) := limF whole_Inverse.spec whole_Inverse.cals T Try.f55 x
theorem whole_Inverse.ck : CalsOk Try.prog whole_Inverse.cals := (CalsOk.cons whole_Sign.cal (CalsOk.cons whole_plain.cal (CalsOk.cons whole_Of.cal (CalsOk.cons whole_Euclid.cal (CalsOk.cons whole_Quo.cal (CalsOk.cons whole_Mul.cal (CalsOk.cons whole_Sub.cal (CalsOk.cons whole_Cmp.cal (CalsOk.base tabsOk)))))))))
theorem whole_Inverse.cal : CalOk Try.prog tabs 55 whole_Inverse.sig := calOk_lim' tabOk whole_Inverse.ck mix Try.func55 (by kernel_rfl) (by kernel_rfl) (by kernel_rfl) (by kernel_rfl)
def whole_Inverse.m6 (x3_0 : Bool) (x3_1 : Dt23) (x4_0 : Bool) (x6_0 : Bool) (x6_1 : Dt23) (x7_0 : Bool) (x7_1 : Dt23) (x9_0 : Bool) (x9_1 : Dt23) (x11_0 : Bool) (x11_1 : Dt23) : S := ⟨[(3, .box 0 0), (4, .box 1 0), (6, .box 2 0), (7, .box 3 0), (9, .box 4 0), (11, .box 5 0)], ⟨[some ⟨70, (.int .u32), true, true, x6_1⟩, some ⟨70, (.int .u32), true, true, x7_1⟩, some ⟨70, (.int .u32), true, true, x9_1⟩, some ⟨70, (.int .u32), true, true, x11_1⟩], [some ⟨25, [.val false .bool x3_0, .val false Kt23 x3_1]⟩, some ⟨25, [.val true .bool x4_0, .nil]⟩, some ⟨25, [.val true .bool x6_0, .own 0]⟩, some ⟨25, [.val true .bool x7_0, .own 1]⟩, some ⟨25, [.val true .bool x9_0, .own 2]⟩, some ⟨25, [.val true .bool x11_0, .own 3]⟩]⟩⟩
noncomputable def whole_Inverse.b6 (f6 : Bool → Dt23 → Bool → Bool → Dt23 → Bool → Dt23 → Bool → Dt23 → Bool → Dt23 → Option (Dt25 × Int × Unit)) (x3_0 : Bool) (x3_1 : Dt23) (x4_0 : Bool) (x6_0 : Bool) (x6_1 : Dt23) (x7_0 : Bool) (x7_1 : Dt23) (x9_0 : Bool) (x9_1 : Dt23) (x11_0 : Bool) (x11_1 : Dt23) : Option (Dt25 × Int × Unit) :=
  (whole_Sign.F ((x9_0, x9_1), ())).bind fun y1 =>
  let v2 := (y1.1 != (0 : Int))
  bif v2 then ((whole_Quo.F ((x6_0, x6_1), (x9_0, x9_1), ())).bind fun y3 =>
  (whole_Mul.F ((y3.1.1, y3.1.2), (x11_0, x11_1), ())).bind fun y4 =>
  (whole_Sub.F ((x7_0, x7_1), (y4.1.1, y4.1.2), ())).bind fun y5 =>
  f6 x3_0 x3_1 x4_0 x9_0 x9_1 x11_0 x11_1 y3.2.1.1 y3.2.1.2 y5.1.1 y5.1.2)
  else ((whole_Of.F ((1 : Int), ())).bind fun y6 =>
  (whole_Cmp.F ((x6_0, x6_1), (y6.1.1, y6.1.2), ())).bind fun y7 =>
  let v8 := (y7.1 != (0 : Int))
  bif v8 then (some (zt25, (20 : Int), ()))
  else ((whole_Euclid.F ((x7_0, x7_1), (x3_0, x3_1), ())).bind fun y9 =>
  some ((y9.2.1.1, y9.2.1.2), (0 : Int), ())))
noncomputable def whole_Inverse.e (f6 : Bool → Dt23 → Bool → Bool → Dt23 → Bool → Dt23 → Bool → Dt23 → Bool → Dt23 → Option (Dt25 × Int × Unit)) (a0 : Dt25) (a1 : Dt25) : Option (Dt25 × Int × Unit) :=
  (whole_Sign.F ((a1.1, a1.2), ())).bind fun y1 =>
  let v2 := (y1.1 == (0 : Int))
  bif v2 then (some (zt25, (20 : Int), ()))
  else ((whole_plain.F (a1.2, ())).bind fun y3 =>
  (whole_Of.F ((0 : Int), ())).bind fun y4 =>
  (whole_Euclid.F ((a0.1, a0.2), (a1.1, a1.2), ())).bind fun y5 =>
  (whole_Of.F ((1 : Int), ())).bind fun y6 =>
  f6 a1.1 a1.2 false y3.1.1 y3.1.2 y4.1.1 y4.1.2 y5.2.1.1 y5.2.1.2 y6.1.1 y6.1.2)
noncomputable def whole_Inverse.L6 (k : Nat) (x3_0 : Bool) (x3_1 : Dt23) (x4_0 : Bool) (x6_0 : Bool) (x6_1 : Dt23) (x7_0 : Bool) (x7_1 : Dt23) (x9_0 : Bool) (x9_1 : Dt23) (x11_0 : Bool) (x11_1 : Dt23) : Option (Dt25 × Int × Unit) := heads (whole_Inverse.spec.env whole_Inverse.cals T Try.f55) (Func.pts Try.f55) k 6 (whole_Inverse.m6 x3_0 x3_1 x4_0 x6_0 x6_1 x7_0 x7_1 x9_0 x9_1 x11_0 x11_1)
theorem whole_Inverse.L6_succ (k : Nat) (x3_0 : Bool) (x3_1 : Dt23) (x4_0 : Bool) (x6_0 : Bool) (x6_1 : Dt23) (x7_0 : Bool) (x7_1 : Dt23) (x9_0 : Bool) (x9_1 : Dt23) (x11_0 : Bool) (x11_1 : Dt23) : whole_Inverse.L6 (k + 1) x3_0 x3_1 x4_0 x6_0 x6_1 x7_0 x7_1 x9_0 x9_1 x11_0 x11_1 = whole_Inverse.b6 (whole_Inverse.L6 k) x3_0 x3_1 x4_0 x6_0 x6_1 x7_0 x7_1 x9_0 x9_1 x11_0 x11_1 := by kernel_rfl
theorem whole_Inverse.eval (k : Nat) (a0 : Dt25) (a1 : Dt25) : evalF whole_Inverse.spec whole_Inverse.cals T Try.f55 k (a0, a1, ()) = whole_Inverse.e (whole_Inverse.L6 k) a0 a1 := by kernel_rfl
theorem whole_Inverse.F_eq (a0 : Dt25) (a1 : Dt25) : whole_Inverse.F (a0, a1, ()) = limF whole_Inverse.spec whole_Inverse.cals T Try.f55 (a0, a1, ()) := by kernel_rfl
theorem whole_Inverse.of (k : Nat) (a0 : Dt25) (a1 : Dt25) {y : Dt25 × Int × Unit} (h : whole_Inverse.e (whole_Inverse.L6 k) a0 a1 = some y) : whole_Inverse.F (a0, a1, ()) = some y := (whole_Inverse.F_eq a0 a1).trans (limF_of (q := whole_Inverse.spec) (C := whole_Inverse.cals) (T := T) (f := Try.f55) (x := (a0, a1, ())) (y := y) k ((whole_Inverse.eval k a0 a1).trans h))
def whole_Bezout.spec : Spec := ⟨[(true, Kt25), (true, Kt25)], [(false, Kt23), (true, Kt25), (true, Kt25)], .own, fun j => match j with  | _ => []⟩
noncomputable def whole_Bezout.cals : Cals := (Cals.cons 56 whole_Gcd.sig (Cals.cons 29 whole_Sign.sig (Cals.cons 20 whole_Of.sig (Cals.cons 94 whole_plain.sig (Cals.cons 43 whole_Quo.sig (Cals.cons 55 whole_Inverse.sig (Cals.cons 35 whole_Mul.sig (Cals.cons 33 whole_Sub.sig (Cals.base tabs)))))))))
noncomputable def whole_Bezout.sig : Sig := whole_Bezout.spec.sig whole_Bezout.cals T Try.f57
noncomputable def whole_Bezout.F (x : Dt25 × Dt25 × Unit) : Option (Dt23 × Dt25 × Dt25 × Unit) := limF whole_Bezout.spec whole_Bezout.cals T Try.f57 x
theorem whole_Bezout.ck : CalsOk Try.prog whole_Bezout.cals := (CalsOk.cons whole_Gcd.cal (CalsOk.cons whole_Sign.cal (CalsOk.cons whole_Of.cal (CalsOk.cons whole_plain.cal (CalsOk.cons whole_Quo.cal (CalsOk.cons whole_Inverse.cal (CalsOk.cons whole_Mul.cal (CalsOk.cons whole_Sub.cal (CalsOk.base tabsOk)))))))))
theorem whole_Bezout.cal : CalOk Try.prog tabs 57 whole_Bezout.sig := calOk_lim' tabOk whole_Bezout.ck mix Try.func57 (by kernel_rfl) (by kernel_rfl) (by kernel_rfl) (by kernel_rfl)
noncomputable def whole_Bezout.e  (a0 : Dt25) (a1 : Dt25) : Option (Dt23 × Dt25 × Dt25 × Unit) :=
  (whole_Gcd.F ((a0.1, a0.2), (a1.1, a1.2), ())).bind fun y1 =>
  (whole_Sign.F ((a1.1, a1.2), ())).bind fun y2 =>
  let v3 := (y2.1 == (0 : Int))
  bif v3 then ((whole_Sign.F ((a0.1, a0.2), ())).bind fun y4 =>
  (whole_Of.F (y4.1, ())).bind fun y5 =>
  (whole_Of.F ((0 : Int), ())).bind fun y6 =>
  some (y1.1, (y5.1.1, y5.1.2), (y6.1.1, y6.1.2), ()))
  else ((whole_plain.F (y1.1, ())).bind fun y7 =>
  (whole_Quo.F ((a0.1, a0.2), (y7.1.1, y7.1.2), ())).bind fun y8 =>
  (whole_plain.F (y1.1, ())).bind fun y9 =>
  (whole_Quo.F ((a1.1, a1.2), (y9.1.1, y9.1.2), ())).bind fun y10 =>
  (whole_Inverse.F ((y8.1.1, y8.1.2), (y10.1.1, y10.1.2), ())).bind fun y11 =>
  (whole_plain.F (y1.1, ())).bind fun y12 =>
  (whole_Mul.F ((a0.1, a0.2), (y11.1.1, y11.1.2), ())).bind fun y13 =>
  (whole_Sub.F ((y12.1.1, y12.1.2), (y13.1.1, y13.1.2), ())).bind fun y14 =>
  (whole_Quo.F ((y14.1.1, y14.1.2), (a1.1, a1.2), ())).bind fun y15 =>
  some (y1.1, (y11.1.1, y11.1.2), (y15.1.1, y15.1.2), ()))
theorem whole_Bezout.eval (k : Nat) (a0 : Dt25) (a1 : Dt25) : evalF whole_Bezout.spec whole_Bezout.cals T Try.f57 k (a0, a1, ()) = whole_Bezout.e  a0 a1 := by kernel_rfl
theorem whole_Bezout.F_eq (a0 : Dt25) (a1 : Dt25) : whole_Bezout.F (a0, a1, ()) = limF whole_Bezout.spec whole_Bezout.cals T Try.f57 (a0, a1, ()) := by kernel_rfl
theorem whole_Bezout.of (k : Nat) (a0 : Dt25) (a1 : Dt25) {y : Dt23 × Dt25 × Dt25 × Unit} (h : whole_Bezout.e  a0 a1 = some y) : whole_Bezout.F (a0, a1, ()) = some y := (whole_Bezout.F_eq a0 a1).trans (limF_of (q := whole_Bezout.spec) (C := whole_Bezout.cals) (T := T) (f := Try.f57) (x := (a0, a1, ())) (y := y) k ((whole_Bezout.eval k a0 a1).trans h))
def nat_Shift.spec : Spec := ⟨[(false, Kt23), (false, (.int .i64))], [(false, Kt23), (false, (.int .i64))], .own, fun j => match j with | 14 => [(0, .lf (.z 70 (.int .u32) false)), (8, .lf (.v true)), (9, .lf (.o 70 (.int .u32) true)), (56, .lf (.v true)), (57, .lf (.v true))] | _ => []⟩
noncomputable def nat_Shift.cals : Cals := (Cals.withSubs [31] (Cals.cons 98 nat_trim.sig (Cals.cons 103 nat_moved.sig (Cals.cons 99 nat_own.sig (Cals.base tabs)))))
noncomputable def nat_Shift.sig : Sig := nat_Shift.spec.sig nat_Shift.cals T Try.f87
noncomputable def nat_Shift.F (x : Dt23 × Int × Unit) : Option (Dt23 × Int × Unit) := limF nat_Shift.spec nat_Shift.cals T Try.f87 x
theorem nat_Shift.ck : CalsOk Try.prog nat_Shift.cals := (CalsOk.withSubs [31] (CalsOk.cons nat_trim.cal (CalsOk.cons nat_moved.cal (CalsOk.cons nat_own.cal (CalsOk.base tabsOk)))))
theorem nat_Shift.cal : CalOk Try.prog tabs 87 nat_Shift.sig := calOk_lim' tabOk nat_Shift.ck mix Try.func87 (by kernel_rfl) (by kernel_rfl) (by kernel_rfl) (by kernel_rfl)
def nat_Shift.m14 (x0 : Dt23) (x8 : Int) (x9 : Dt23) (x56 : Int) (x57 : Int) : S := ⟨[(0, .one (.lf (.val false Kt23 x0))), (8, .one (.lf (.val true (.int .i64) x8))), (9, .one (.lf (.own 0))), (56, .one (.lf (.val true (.int .i64) x56))), (57, .one (.lf (.val true (.int .i64) x57)))], ⟨[some ⟨70, (.int .u32), true, true, x9⟩], []⟩⟩
noncomputable def nat_Shift.b14 (f14 : Dt23 → Int → Dt23 → Int → Int → Option (Dt23 × Int × Unit)) (x0 : Dt23) (x8 : Int) (x9 : Dt23) (x56 : Int) (x57 : Int) : Option (Dt23 × Int × Unit) :=
  let v1 := decide (x57 < x56)
  bif v1 then (bif decide (0 ≤ x57) && decide (x57 < (List.length x0 : Int)) then (let v2 := List.getD x0 (Int.toNat x57) (0 : Int)
  bif decide (x8 < 0) then none
  else (let v3 := shrI .u32 v2 x8
  bif decide (0 ≤ x57) && decide (x57 < (List.length x9 : Int)) then (let v4 := List.set x9 (Int.toNat x57) v3
  let v5 := IntKind.i64.wrap (x57 + (1 : Int))
  let v6 := (List.length x0 : Int)
  let v7 := decide (v5 < v6)
  bif v7 then (bif decide (0 ≤ x57) && decide (x57 < (List.length v4 : Int)) then (let v8 := List.getD v4 (Int.toNat x57) (0 : Int)
  let v9 := IntKind.i64.wrap (x57 + (1 : Int))
  bif decide (0 ≤ v9) && decide (v9 < (List.length x0 : Int)) then (let v10 := List.getD x0 (Int.toNat v9) (0 : Int)
  let v11 := IntKind.u64.wrap v10
  let v12 := IntKind.i64.wrap ((32 : Int) - x8)
  bif decide (v12 < 0) then none
  else (let v13 := shlI .u64 v11 v12
  let v14 := IntKind.u32.wrap v13
  let v15 := bitsOp .or .u32 v8 v14
  bif decide (0 ≤ x57) && decide (x57 < (List.length v4 : Int)) then (let v16 := List.set v4 (Int.toNat x57) v15
  let v17 := IntKind.i64.wrap (x57 + (1 : Int))
  f14 x0 x8 v16 x56 v17)
  else none))
  else none)
  else none)
  else (let v18 := IntKind.i64.wrap (x57 + (1 : Int))
  f14 x0 x8 v4 x56 v18))
  else none))
  else none)
  else ((nat_own.F (x9, ())).bind fun y19 =>
  some (y19.1, (0 : Int), ()))
noncomputable def nat_Shift.e (f14 : Dt23 → Int → Dt23 → Int → Int → Option (Dt23 × Int × Unit)) (a0 : Dt23) (a1 : Int) : Option (Dt23 × Int × Unit) :=
  let v1 := decide (a1 < (-1048576 : Int))
  bif v1 then (some (zt23, (12 : Int), ()))
  else (let v2 := decide (a1 > (1048576 : Int))
  bif v2 then (some (zt23, (12 : Int), ()))
  else ((nat_trim.F (a0, ())).bind fun y3 =>
  let v4 := decide (a1 ≥ (0 : Int))
  bif v4 then (bif decide ((32 : Int) = 0) then none
  else (let v5 := IntKind.i64.wrap (Int.tdiv a1 (32 : Int))
  let v6 := (List.length y3.1 : Int)
  let v7 := IntKind.i64.wrap (v5 + v6)
  let v8 := IntKind.i64.wrap (v7 + (1 : Int))
  bif decide (0 ≤ v8) && (decide (v8 ≤ v8) && (decide (Int.toNat v8 * 4 ≤ 281474976710656) && Nat.blt 0 4)) then (let v9 := List.replicate (Int.toNat v8) (0 : Int)
  bif decide ((32 : Int) = 0) then none
  else (let v10 := IntKind.i64.wrap (Int.tdiv a1 (32 : Int))
  bif decide (0 ≤ v10) && (decide (v10 ≤ (List.length v9 : Int)) && decide ((List.length v9 : Int) ≤ (List.length v9 : Int))) then (bif decide ((32 : Int) = 0) then none
  else (let v11 := Int.tmod a1 (32 : Int)
  (nat_moved.F (y3.1, v11, ())).bind fun y12 =>
  bif Nat.blt 0 (Int.toNat ((List.length v9 : Int) - v10)) && Nat.ble ((Int.toNat v10) + (Int.toNat ((List.length v9 : Int) - v10))) (List.length v9) then (let v13 := List.take (Int.toNat v10) v9 ++ (List.take (Int.toNat ((List.length v9 : Int) - v10)) y12.1 ++ List.drop ((Int.toNat v10) + Nat.min (List.length y12.1) (Int.toNat ((List.length v9 : Int) - v10))) v9)
  let v14 := ((Nat.min (List.length y12.1) (Int.toNat ((List.length v9 : Int) - v10)) : Nat) : Int)
  (nat_own.F (v13, ())).bind fun y15 =>
  some (y15.1, (0 : Int), ()))
  else none))
  else none))
  else none))
  else (let v16 := negI .i64 a1
  bif decide ((32 : Int) = 0) then none
  else (let v17 := IntKind.i64.wrap (Int.tdiv v16 (32 : Int))
  let v18 := negI .i64 a1
  bif decide ((32 : Int) = 0) then none
  else (let v19 := Int.tmod v18 (32 : Int)
  let v20 := (List.length y3.1 : Int)
  let v21 := decide (v17 ≥ v20)
  bif v21 then (some (zt23, (0 : Int), ()))
  else (bif decide (0 ≤ v17) && decide (v17 ≤ (List.length y3.1 : Int)) then (let v22 := List.drop (Int.toNat v17) y3.1
  let v23 := (List.length v22 : Int)
  bif decide (0 ≤ v23) && (decide (v23 ≤ v23) && (decide (Int.toNat v23 * 4 ≤ 281474976710656) && Nat.blt 0 4)) then (let v24 := List.replicate (Int.toNat v23) (0 : Int)
  let v25 := (List.length v22 : Int)
  f14 v22 v19 v24 v25 (0 : Int))
  else none)
  else none))))))
noncomputable def nat_Shift.L14 (k : Nat) (x0 : Dt23) (x8 : Int) (x9 : Dt23) (x56 : Int) (x57 : Int) : Option (Dt23 × Int × Unit) := heads (nat_Shift.spec.env nat_Shift.cals T Try.f87) (Func.pts Try.f87) k 14 (nat_Shift.m14 x0 x8 x9 x56 x57)
theorem nat_Shift.L14_succ (k : Nat) (x0 : Dt23) (x8 : Int) (x9 : Dt23) (x56 : Int) (x57 : Int) : nat_Shift.L14 (k + 1) x0 x8 x9 x56 x57 = nat_Shift.b14 (nat_Shift.L14 k) x0 x8 x9 x56 x57 := by kernel_rfl
theorem nat_Shift.eval (k : Nat) (a0 : Dt23) (a1 : Int) : evalF nat_Shift.spec nat_Shift.cals T Try.f87 k (a0, a1, ()) = nat_Shift.e (nat_Shift.L14 k) a0 a1 := by kernel_rfl
theorem nat_Shift.F_eq (a0 : Dt23) (a1 : Int) : nat_Shift.F (a0, a1, ()) = limF nat_Shift.spec nat_Shift.cals T Try.f87 (a0, a1, ()) := by kernel_rfl
theorem nat_Shift.of (k : Nat) (a0 : Dt23) (a1 : Int) {y : Dt23 × Int × Unit} (h : nat_Shift.e (nat_Shift.L14 k) a0 a1 = some y) : nat_Shift.F (a0, a1, ()) = some y := (nat_Shift.F_eq a0 a1).trans (limF_of (q := nat_Shift.spec) (C := nat_Shift.cals) (T := T) (f := Try.f87) (x := (a0, a1, ())) (y := y) k ((nat_Shift.eval k a0 a1).trans h))
def whole_Shift.spec : Spec := ⟨[(true, Kt25), (false, (.int .i64))], [(true, Kt25), (false, (.int .i64))], .own, fun j => match j with  | _ => []⟩
noncomputable def whole_Shift.cals : Cals := (Cals.cons 29 whole_Sign.sig (Cals.cons 87 nat_Shift.sig (Cals.cons 72 whole_signed.sig (Cals.cons 20 whole_Of.sig (Cals.cons 31 whole_Add.sig (Cals.cons 33 whole_Sub.sig (Cals.base tabs)))))))
noncomputable def whole_Shift.sig : Sig := whole_Shift.spec.sig whole_Shift.cals T Try.f41
noncomputable def whole_Shift.F (x : Dt25 × Int × Unit) : Option (Dt25 × Int × Unit) := limF whole_Shift.spec whole_Shift.cals T Try.f41 x
theorem whole_Shift.ck : CalsOk Try.prog whole_Shift.cals := (CalsOk.cons whole_Sign.cal (CalsOk.cons nat_Shift.cal (CalsOk.cons whole_signed.cal (CalsOk.cons whole_Of.cal (CalsOk.cons whole_Add.cal (CalsOk.cons whole_Sub.cal (CalsOk.base tabsOk)))))))
theorem whole_Shift.cal : CalOk Try.prog tabs 41 whole_Shift.sig := calOk_lim' tabOk whole_Shift.ck mix Try.func41 (by kernel_rfl) (by kernel_rfl) (by kernel_rfl) (by kernel_rfl)
noncomputable def whole_Shift.e  (a0 : Dt25) (a1 : Int) : Option (Dt25 × Int × Unit) :=
  (whole_Sign.F ((a0.1, a0.2), ())).bind fun y1 =>
  let v2 := decide (y1.1 ≥ (0 : Int))
  bif v2 then ((nat_Shift.F (a0.2, a1, ())).bind fun y3 =>
  (whole_Sign.F ((a0.1, a0.2), ())).bind fun y4 =>
  let v5 := ([y4.1] : List Int)
  (whole_signed.F (y3.1, v5, ())).bind fun y6 =>
  some ((y6.1.1, y6.1.2), y3.2.1, ()))
  else (let v7 := decide (a1 ≥ (0 : Int))
  bif v7 then ((nat_Shift.F (a0.2, a1, ())).bind fun y8 =>
  (whole_Sign.F ((a0.1, a0.2), ())).bind fun y9 =>
  let v10 := ([y9.1] : List Int)
  (whole_signed.F (y8.1, v10, ())).bind fun y11 =>
  some ((y11.1.1, y11.1.2), y8.2.1, ()))
  else ((whole_Of.F ((1 : Int), ())).bind fun y12 =>
  (whole_Add.F ((a0.1, a0.2), (y12.1.1, y12.1.2), ())).bind fun y13 =>
  (nat_Shift.F (y13.1.2, a1, ())).bind fun y14 =>
  let v15 := (y14.2.1 != (0 : Int))
  bif v15 then (some (zt25, y14.2.1, ()))
  else (let v16 := ([(-1 : Int)] : List Int)
  (whole_signed.F (y14.1, v16, ())).bind fun y17 =>
  (whole_Of.F ((1 : Int), ())).bind fun y18 =>
  (whole_Sub.F ((y17.1.1, y17.1.2), (y18.1.1, y18.1.2), ())).bind fun y19 =>
  some ((y19.1.1, y19.1.2), (0 : Int), ()))))
theorem whole_Shift.eval (k : Nat) (a0 : Dt25) (a1 : Int) : evalF whole_Shift.spec whole_Shift.cals T Try.f41 k (a0, a1, ()) = whole_Shift.e  a0 a1 := by kernel_rfl
theorem whole_Shift.F_eq (a0 : Dt25) (a1 : Int) : whole_Shift.F (a0, a1, ()) = limF whole_Shift.spec whole_Shift.cals T Try.f41 (a0, a1, ()) := by kernel_rfl
theorem whole_Shift.of (k : Nat) (a0 : Dt25) (a1 : Int) {y : Dt25 × Int × Unit} (h : whole_Shift.e  a0 a1 = some y) : whole_Shift.F (a0, a1, ()) = some y := (whole_Shift.F_eq a0 a1).trans (limF_of (q := whole_Shift.spec) (C := whole_Shift.cals) (T := T) (f := Try.f41) (x := (a0, a1, ())) (y := y) k ((whole_Shift.eval k a0 a1).trans h))
def nat_Pow.spec : Spec := ⟨[(false, Kt23), (false, (.int .i64))], [(false, Kt23), (false, (.int .i64))], .own, fun j => match j with | 5 => [(1, .lf (.v false)), (6, .lf (.o 70 (.int .u32) true)), (7, .lf (.o 70 (.int .u32) true))] | _ => []⟩
noncomputable def nat_Pow.cals : Cals := (Cals.cons 99 nat_own.sig (Cals.cons 85 nat_Mul.sig (Cals.base tabs)))
noncomputable def nat_Pow.sig : Sig := nat_Pow.spec.sig nat_Pow.cals T Try.f93
noncomputable def nat_Pow.F (x : Dt23 × Int × Unit) : Option (Dt23 × Int × Unit) := limF nat_Pow.spec nat_Pow.cals T Try.f93 x
theorem nat_Pow.ck : CalsOk Try.prog nat_Pow.cals := (CalsOk.cons nat_own.cal (CalsOk.cons nat_Mul.cal (CalsOk.base tabsOk)))
theorem nat_Pow.cal : CalOk Try.prog tabs 93 nat_Pow.sig := calOk_lim' tabOk nat_Pow.ck mix Try.func93 (by kernel_rfl) (by kernel_rfl) (by kernel_rfl) (by kernel_rfl)
def nat_Pow.m5 (x1 : Int) (x6 : Dt23) (x7 : Dt23) : S := ⟨[(1, .one (.lf (.val false (.int .i64) x1))), (6, .one (.lf (.own 0))), (7, .one (.lf (.own 1)))], ⟨[some ⟨70, (.int .u32), true, true, x6⟩, some ⟨70, (.int .u32), true, true, x7⟩], []⟩⟩
noncomputable def nat_Pow.b5 (f5 : Int → Dt23 → Dt23 → Option (Dt23 × Int × Unit)) (x1 : Int) (x6 : Dt23) (x7 : Dt23) : Option (Dt23 × Int × Unit) :=
  let v1 := decide (x1 > (0 : Int))
  bif v1 then (bif decide ((2 : Int) = 0) then none
  else (let v2 := Int.tmod x1 (2 : Int)
  let v3 := (v2 == (1 : Int))
  bif v3 then ((nat_Mul.F (x6, x7, ())).bind fun y4 =>
  let v5 := decide (x1 > (1 : Int))
  bif v5 then ((nat_Mul.F (x7, x7, ())).bind fun y6 =>
  bif decide ((2 : Int) = 0) then none
  else (let v7 := IntKind.i64.wrap (Int.tdiv x1 (2 : Int))
  f5 v7 y4.1 y6.1))
  else (bif decide ((2 : Int) = 0) then none
  else (let v8 := IntKind.i64.wrap (Int.tdiv x1 (2 : Int))
  f5 v8 y4.1 x7)))
  else (let v9 := decide (x1 > (1 : Int))
  bif v9 then ((nat_Mul.F (x7, x7, ())).bind fun y10 =>
  bif decide ((2 : Int) = 0) then none
  else (let v11 := IntKind.i64.wrap (Int.tdiv x1 (2 : Int))
  f5 v11 x6 y10.1))
  else (bif decide ((2 : Int) = 0) then none
  else (let v12 := IntKind.i64.wrap (Int.tdiv x1 (2 : Int))
  f5 v12 x6 x7)))))
  else (some (x6, (0 : Int), ()))
noncomputable def nat_Pow.e (f5 : Int → Dt23 → Dt23 → Option (Dt23 × Int × Unit)) (a0 : Dt23) (a1 : Int) : Option (Dt23 × Int × Unit) :=
  let v1 := decide (a1 < (0 : Int))
  bif v1 then (some (zt23, (13 : Int), ()))
  else (let v2 := decide (a1 > (4096 : Int))
  bif v2 then (some (zt23, (13 : Int), ()))
  else (let v3 := ([(1 : Int)] : List Int)
  (nat_own.F (a0, ())).bind fun y4 =>
  f5 a1 v3 y4.1))
noncomputable def nat_Pow.L5 (k : Nat) (x1 : Int) (x6 : Dt23) (x7 : Dt23) : Option (Dt23 × Int × Unit) := heads (nat_Pow.spec.env nat_Pow.cals T Try.f93) (Func.pts Try.f93) k 5 (nat_Pow.m5 x1 x6 x7)
theorem nat_Pow.L5_succ (k : Nat) (x1 : Int) (x6 : Dt23) (x7 : Dt23) : nat_Pow.L5 (k + 1) x1 x6 x7 = nat_Pow.b5 (nat_Pow.L5 k) x1 x6 x7 := by kernel_rfl
theorem nat_Pow.eval (k : Nat) (a0 : Dt23) (a1 : Int) : evalF nat_Pow.spec nat_Pow.cals T Try.f93 k (a0, a1, ()) = nat_Pow.e (nat_Pow.L5 k) a0 a1 := by kernel_rfl
theorem nat_Pow.F_eq (a0 : Dt23) (a1 : Int) : nat_Pow.F (a0, a1, ()) = limF nat_Pow.spec nat_Pow.cals T Try.f93 (a0, a1, ()) := by kernel_rfl
theorem nat_Pow.of (k : Nat) (a0 : Dt23) (a1 : Int) {y : Dt23 × Int × Unit} (h : nat_Pow.e (nat_Pow.L5 k) a0 a1 = some y) : nat_Pow.F (a0, a1, ()) = some y := (nat_Pow.F_eq a0 a1).trans (limF_of (q := nat_Pow.spec) (C := nat_Pow.cals) (T := T) (f := Try.f93) (x := (a0, a1, ())) (y := y) k ((nat_Pow.eval k a0 a1).trans h))
def whole_Pow.spec : Spec := ⟨[(true, Kt25), (false, (.int .i64))], [(true, Kt25), (false, (.int .i64))], .own, fun j => match j with  | _ => []⟩
noncomputable def whole_Pow.cals : Cals := (Cals.cons 93 nat_Pow.sig (Cals.cons 72 whole_signed.sig (Cals.cons 29 whole_Sign.sig (Cals.base tabs))))
noncomputable def whole_Pow.sig : Sig := whole_Pow.spec.sig whole_Pow.cals T Try.f53
noncomputable def whole_Pow.F (x : Dt25 × Int × Unit) : Option (Dt25 × Int × Unit) := limF whole_Pow.spec whole_Pow.cals T Try.f53 x
theorem whole_Pow.ck : CalsOk Try.prog whole_Pow.cals := (CalsOk.cons nat_Pow.cal (CalsOk.cons whole_signed.cal (CalsOk.cons whole_Sign.cal (CalsOk.base tabsOk))))
theorem whole_Pow.cal : CalOk Try.prog tabs 53 whole_Pow.sig := calOk_lim' tabOk whole_Pow.ck mix Try.func53 (by kernel_rfl) (by kernel_rfl) (by kernel_rfl) (by kernel_rfl)
noncomputable def whole_Pow.e  (a0 : Dt25) (a1 : Int) : Option (Dt25 × Int × Unit) :=
  (nat_Pow.F (a0.2, a1, ())).bind fun y1 =>
  let v2 := (y1.2.1 != (0 : Int))
  bif v2 then (some (zt25, y1.2.1, ()))
  else (bif decide ((2 : Int) = 0) then none
  else (let v3 := Int.tmod a1 (2 : Int)
  let v4 := (v3 == (0 : Int))
  bif v4 then ((whole_signed.F (y1.1, zt23, ())).bind fun y5 =>
  some ((y5.1.1, y5.1.2), (0 : Int), ()))
  else ((whole_Sign.F ((a0.1, a0.2), ())).bind fun y6 =>
  let v7 := ([y6.1] : List Int)
  (whole_signed.F (y1.1, v7, ())).bind fun y8 =>
  some ((y8.1.1, y8.1.2), (0 : Int), ()))))
theorem whole_Pow.eval (k : Nat) (a0 : Dt25) (a1 : Int) : evalF whole_Pow.spec whole_Pow.cals T Try.f53 k (a0, a1, ()) = whole_Pow.e  a0 a1 := by kernel_rfl
theorem whole_Pow.F_eq (a0 : Dt25) (a1 : Int) : whole_Pow.F (a0, a1, ()) = limF whole_Pow.spec whole_Pow.cals T Try.f53 (a0, a1, ()) := by kernel_rfl
theorem whole_Pow.of (k : Nat) (a0 : Dt25) (a1 : Int) {y : Dt25 × Int × Unit} (h : whole_Pow.e  a0 a1 = some y) : whole_Pow.F (a0, a1, ()) = some y := (whole_Pow.F_eq a0 a1).trans (limF_of (q := whole_Pow.spec) (C := whole_Pow.cals) (T := T) (f := Try.f53) (x := (a0, a1, ())) (y := y) k ((whole_Pow.eval k a0 a1).trans h))
def nat_Bits.spec : Spec := ⟨[(false, Kt23)], [(false, (.int .i64))], .own, fun j => match j with  | _ => []⟩
noncomputable def nat_Bits.cals : Cals := (Cals.cons 98 nat_trim.sig (Cals.cons 113 bits_Len32.sig (Cals.base tabs)))
noncomputable def nat_Bits.sig : Sig := nat_Bits.spec.sig nat_Bits.cals T Try.f108
noncomputable def nat_Bits.F (x : Dt23 × Unit) : Option (Int × Unit) := limF nat_Bits.spec nat_Bits.cals T Try.f108 x
theorem nat_Bits.ck : CalsOk Try.prog nat_Bits.cals := (CalsOk.cons nat_trim.cal (CalsOk.cons bits_Len32.cal (CalsOk.base tabsOk)))
theorem nat_Bits.cal : CalOk Try.prog tabs 108 nat_Bits.sig := calOk_lim' tabOk nat_Bits.ck mix Try.func108 (by kernel_rfl) (by kernel_rfl) (by kernel_rfl) (by kernel_rfl)
noncomputable def nat_Bits.e  (a0 : Dt23) : Option (Int × Unit) :=
  (nat_trim.F (a0, ())).bind fun y1 =>
  let v2 := (List.length y1.1 : Int)
  let v3 := (v2 == (0 : Int))
  bif v3 then (some ((0 : Int), ()))
  else (let v4 := (List.length y1.1 : Int)
  let v5 := IntKind.i64.wrap (v4 - (1 : Int))
  let v6 := IntKind.i64.wrap ((32 : Int) * v5)
  let v7 := (List.length y1.1 : Int)
  let v8 := IntKind.i64.wrap (v7 - (1 : Int))
  bif decide (0 ≤ v8) && decide (v8 < (List.length y1.1 : Int)) then (let v9 := List.getD y1.1 (Int.toNat v8) (0 : Int)
  (bits_Len32.F (v9, ())).bind fun y10 =>
  let v11 := IntKind.i64.wrap (v6 + y10.1)
  some (v11, ()))
  else none)
theorem nat_Bits.eval (k : Nat) (a0 : Dt23) : evalF nat_Bits.spec nat_Bits.cals T Try.f108 k (a0, ()) = nat_Bits.e  a0 := by kernel_rfl
theorem nat_Bits.F_eq (a0 : Dt23) : nat_Bits.F (a0, ()) = limF nat_Bits.spec nat_Bits.cals T Try.f108 (a0, ()) := by kernel_rfl
theorem nat_Bits.of (k : Nat) (a0 : Dt23) {y : Int × Unit} (h : nat_Bits.e  a0 = some y) : nat_Bits.F (a0, ()) = some y := (nat_Bits.F_eq a0).trans (limF_of (q := nat_Bits.spec) (C := nat_Bits.cals) (T := T) (f := Try.f108) (x := (a0, ())) (y := y) k ((nat_Bits.eval k a0).trans h))
def nat_Root.spec : Spec := ⟨[(false, Kt23)], [(false, Kt23)], .own, fun j => match j with | 5 => [(0, .lf (.o 70 (.int .u32) true)), (3, .lf (.o 70 (.int .u32) true))] | _ => []⟩
noncomputable def nat_Root.cals : Cals := (Cals.cons 99 nat_own.sig (Cals.cons 108 nat_Bits.sig (Cals.cons 87 nat_Shift.sig (Cals.cons 89 nat_Div.sig (Cals.cons 79 nat_Add.sig (Cals.cons 80 nat_Cmp.sig (Cals.base tabs)))))))
noncomputable def nat_Root.sig : Sig := nat_Root.spec.sig nat_Root.cals T Try.f92
noncomputable def nat_Root.F (x : Dt23 × Unit) : Option (Dt23 × Unit) := limF nat_Root.spec nat_Root.cals T Try.f92 x
theorem nat_Root.ck : CalsOk Try.prog nat_Root.cals := (CalsOk.cons nat_own.cal (CalsOk.cons nat_Bits.cal (CalsOk.cons nat_Shift.cal (CalsOk.cons nat_Div.cal (CalsOk.cons nat_Add.cal (CalsOk.cons nat_Cmp.cal (CalsOk.base tabsOk)))))))
theorem nat_Root.cal : CalOk Try.prog tabs 92 nat_Root.sig := calOk_lim' tabOk nat_Root.ck mix Try.func92 (by kernel_rfl) (by kernel_rfl) (by kernel_rfl) (by kernel_rfl)
def nat_Root.m5 (x0 : Dt23) (x3 : Dt23) : S := ⟨[(0, .one (.lf (.own 0))), (3, .one (.lf (.own 1)))], ⟨[some ⟨70, (.int .u32), true, true, x0⟩, some ⟨70, (.int .u32), true, true, x3⟩], []⟩⟩
noncomputable def nat_Root.b5 (f5 : Dt23 → Dt23 → Option (Dt23 × Unit)) (x0 : Dt23) (x3 : Dt23) : Option (Dt23 × Unit) :=
  (nat_Div.F (x0, x3, ())).bind fun y1 =>
  (nat_Add.F (x3, y1.1, ())).bind fun y2 =>
  (nat_Shift.F (y2.1, (-1 : Int), ())).bind fun y3 =>
  (nat_Cmp.F (y3.1, x3, ())).bind fun y4 =>
  let v5 := decide (y4.1 ≥ (0 : Int))
  bif v5 then (some (x3, ()))
  else (f5 x0 y3.1)
noncomputable def nat_Root.e (f5 : Dt23 → Dt23 → Option (Dt23 × Unit)) (a0 : Dt23) : Option (Dt23 × Unit) :=
  (nat_own.F (a0, ())).bind fun y1 =>
  let v2 := (List.length y1.1 : Int)
  let v3 := (v2 == (0 : Int))
  bif v3 then (some (zt23, ()))
  else (let v4 := ([(1 : Int)] : List Int)
  (nat_Bits.F (y1.1, ())).bind fun y5 =>
  let v6 := IntKind.i64.wrap (y5.1 + (1 : Int))
  bif decide ((2 : Int) = 0) then none
  else (let v7 := IntKind.i64.wrap (Int.tdiv v6 (2 : Int))
  (nat_Shift.F (v4, v7, ())).bind fun y8 =>
  f5 y1.1 y8.1))
noncomputable def nat_Root.L5 (k : Nat) (x0 : Dt23) (x3 : Dt23) : Option (Dt23 × Unit) := heads (nat_Root.spec.env nat_Root.cals T Try.f92) (Func.pts Try.f92) k 5 (nat_Root.m5 x0 x3)
theorem nat_Root.L5_succ (k : Nat) (x0 : Dt23) (x3 : Dt23) : nat_Root.L5 (k + 1) x0 x3 = nat_Root.b5 (nat_Root.L5 k) x0 x3 := by kernel_rfl
theorem nat_Root.eval (k : Nat) (a0 : Dt23) : evalF nat_Root.spec nat_Root.cals T Try.f92 k (a0, ()) = nat_Root.e (nat_Root.L5 k) a0 := by kernel_rfl
theorem nat_Root.F_eq (a0 : Dt23) : nat_Root.F (a0, ()) = limF nat_Root.spec nat_Root.cals T Try.f92 (a0, ()) := by kernel_rfl
theorem nat_Root.of (k : Nat) (a0 : Dt23) {y : Dt23 × Unit} (h : nat_Root.e (nat_Root.L5 k) a0 = some y) : nat_Root.F (a0, ()) = some y := (nat_Root.F_eq a0).trans (limF_of (q := nat_Root.spec) (C := nat_Root.cals) (T := T) (f := Try.f92) (x := (a0, ())) (y := y) k ((nat_Root.eval k a0).trans h))
def whole_Root.spec : Spec := ⟨[(true, Kt25)], [(true, Kt25), (false, (.int .i64))], .own, fun j => match j with  | _ => []⟩
noncomputable def whole_Root.cals : Cals := (Cals.cons 29 whole_Sign.sig (Cals.cons 92 nat_Root.sig (Cals.cons 72 whole_signed.sig (Cals.base tabs))))
noncomputable def whole_Root.sig : Sig := whole_Root.spec.sig whole_Root.cals T Try.f50
noncomputable def whole_Root.F (x : Dt25 × Unit) : Option (Dt25 × Int × Unit) := limF whole_Root.spec whole_Root.cals T Try.f50 x
theorem whole_Root.ck : CalsOk Try.prog whole_Root.cals := (CalsOk.cons whole_Sign.cal (CalsOk.cons nat_Root.cal (CalsOk.cons whole_signed.cal (CalsOk.base tabsOk))))
theorem whole_Root.cal : CalOk Try.prog tabs 50 whole_Root.sig := calOk_lim' tabOk whole_Root.ck mix Try.func50 (by kernel_rfl) (by kernel_rfl) (by kernel_rfl) (by kernel_rfl)
noncomputable def whole_Root.e  (a0 : Dt25) : Option (Dt25 × Int × Unit) :=
  (whole_Sign.F ((a0.1, a0.2), ())).bind fun y1 =>
  let v2 := decide (y1.1 < (0 : Int))
  bif v2 then (some (zt25, (10 : Int), ()))
  else ((nat_Root.F (a0.2, ())).bind fun y3 =>
  (whole_signed.F (y3.1, zt23, ())).bind fun y4 =>
  some ((y4.1.1, y4.1.2), (0 : Int), ()))
theorem whole_Root.eval (k : Nat) (a0 : Dt25) : evalF whole_Root.spec whole_Root.cals T Try.f50 k (a0, ()) = whole_Root.e  a0 := by kernel_rfl
theorem whole_Root.F_eq (a0 : Dt25) : whole_Root.F (a0, ()) = limF whole_Root.spec whole_Root.cals T Try.f50 (a0, ()) := by kernel_rfl
theorem whole_Root.of (k : Nat) (a0 : Dt25) {y : Dt25 × Int × Unit} (h : whole_Root.e  a0 = some y) : whole_Root.F (a0, ()) = some y := (whole_Root.F_eq a0).trans (limF_of (q := whole_Root.spec) (C := whole_Root.cals) (T := T) (f := Try.f50) (x := (a0, ())) (y := y) k ((whole_Root.eval k a0).trans h))
def fulcrummem_Nat.spec : Spec := ⟨[(false, Kt23)], [(false, Kt23)], .own, fun j => match j with | 3 => [(0, .lf (.z 70 (.int .u32) false)), (3, .lf (.o 70 (.int .u32) true)), (4, .lf (.v true))] | _ => []⟩
noncomputable def fulcrummem_Nat.cals : Cals := (Cals.base tabs)
noncomputable def fulcrummem_Nat.sig : Sig := fulcrummem_Nat.spec.sig fulcrummem_Nat.cals T Try.f109
noncomputable def fulcrummem_Nat.F (x : Dt23 × Unit) : Option (Dt23 × Unit) := limF fulcrummem_Nat.spec fulcrummem_Nat.cals T Try.f109 x
theorem fulcrummem_Nat.ck : CalsOk Try.prog fulcrummem_Nat.cals := (CalsOk.base tabsOk)
theorem fulcrummem_Nat.cal : CalOk Try.prog tabs 109 fulcrummem_Nat.sig := calOk_lim' tabOk fulcrummem_Nat.ck mix Try.func109 (by kernel_rfl) (by kernel_rfl) (by kernel_rfl) (by kernel_rfl)
def fulcrummem_Nat.m3 (x0 : Dt23) (x3 : Dt23) (x4 : Int) : S := ⟨[(0, .one (.lf (.val false Kt23 x0))), (3, .one (.lf (.own 0))), (4, .one (.lf (.val true (.int .i64) x4)))], ⟨[some ⟨70, (.int .u32), true, true, x3⟩], []⟩⟩
noncomputable def fulcrummem_Nat.b3 (f3 : Dt23 → Dt23 → Int → Option (Dt23 × Unit)) (x0 : Dt23) (x3 : Dt23) (x4 : Int) : Option (Dt23 × Unit) :=
  let v1 := (List.length x0 : Int)
  let v2 := decide (x4 < v1)
  bif v2 then (bif decide (0 ≤ x4) && decide (x4 < (List.length x0 : Int)) then (let v3 := List.getD x0 (Int.toNat x4) (0 : Int)
  let v4 := ([v3] : List Int)
  bif decide (List.length x3 + List.length v4 < 35184372088832) then (let v5 := List.append x3 v4
  let v6 := IntKind.i64.wrap (x4 + (1 : Int))
  f3 x0 v5 v6)
  else none)
  else none)
  else (some (x3, ()))
noncomputable def fulcrummem_Nat.e (f3 : Dt23 → Dt23 → Int → Option (Dt23 × Unit)) (a0 : Dt23) : Option (Dt23 × Unit) :=
  f3 a0 zt23 (0 : Int)
noncomputable def fulcrummem_Nat.L3 (k : Nat) (x0 : Dt23) (x3 : Dt23) (x4 : Int) : Option (Dt23 × Unit) := heads (fulcrummem_Nat.spec.env fulcrummem_Nat.cals T Try.f109) (Func.pts Try.f109) k 3 (fulcrummem_Nat.m3 x0 x3 x4)
theorem fulcrummem_Nat.L3_succ (k : Nat) (x0 : Dt23) (x3 : Dt23) (x4 : Int) : fulcrummem_Nat.L3 (k + 1) x0 x3 x4 = fulcrummem_Nat.b3 (fulcrummem_Nat.L3 k) x0 x3 x4 := by kernel_rfl
theorem fulcrummem_Nat.eval (k : Nat) (a0 : Dt23) : evalF fulcrummem_Nat.spec fulcrummem_Nat.cals T Try.f109 k (a0, ()) = fulcrummem_Nat.e (fulcrummem_Nat.L3 k) a0 := by kernel_rfl
theorem fulcrummem_Nat.F_eq (a0 : Dt23) : fulcrummem_Nat.F (a0, ()) = limF fulcrummem_Nat.spec fulcrummem_Nat.cals T Try.f109 (a0, ()) := by kernel_rfl
theorem fulcrummem_Nat.of (k : Nat) (a0 : Dt23) {y : Dt23 × Unit} (h : fulcrummem_Nat.e (fulcrummem_Nat.L3 k) a0 = some y) : fulcrummem_Nat.F (a0, ()) = some y := (fulcrummem_Nat.F_eq a0).trans (limF_of (q := fulcrummem_Nat.spec) (C := fulcrummem_Nat.cals) (T := T) (f := Try.f109) (x := (a0, ())) (y := y) k ((fulcrummem_Nat.eval k a0).trans h))
def fulcrummem_Int.spec : Spec := ⟨[(true, Kt25)], [(true, Kt25)], .own, fun j => match j with  | _ => []⟩
noncomputable def fulcrummem_Int.cals : Cals := (Cals.cons 109 fulcrummem_Nat.sig (Cals.base tabs))
noncomputable def fulcrummem_Int.sig : Sig := fulcrummem_Int.spec.sig fulcrummem_Int.cals T Try.f96
noncomputable def fulcrummem_Int.F (x : Dt25 × Unit) : Option (Dt25 × Unit) := limF fulcrummem_Int.spec fulcrummem_Int.cals T Try.f96 x
theorem fulcrummem_Int.ck : CalsOk Try.prog fulcrummem_Int.cals := (CalsOk.cons fulcrummem_Nat.cal (CalsOk.base tabsOk))
theorem fulcrummem_Int.cal : CalOk Try.prog tabs 96 fulcrummem_Int.sig := calOk_lim' tabOk fulcrummem_Int.ck mix Try.func96 (by kernel_rfl) (by kernel_rfl) (by kernel_rfl) (by kernel_rfl)
noncomputable def fulcrummem_Int.e  (a0 : Dt25) : Option (Dt25 × Unit) :=
  (fulcrummem_Nat.F (a0.2, ())).bind fun y1 =>
  some ((a0.1, y1.1), ())
theorem fulcrummem_Int.eval (k : Nat) (a0 : Dt25) : evalF fulcrummem_Int.spec fulcrummem_Int.cals T Try.f96 k (a0, ()) = fulcrummem_Int.e  a0 := by kernel_rfl
theorem fulcrummem_Int.F_eq (a0 : Dt25) : fulcrummem_Int.F (a0, ()) = limF fulcrummem_Int.spec fulcrummem_Int.cals T Try.f96 (a0, ()) := by kernel_rfl
theorem fulcrummem_Int.of (k : Nat) (a0 : Dt25) {y : Dt25 × Unit} (h : fulcrummem_Int.e  a0 = some y) : fulcrummem_Int.F (a0, ()) = some y := (fulcrummem_Int.F_eq a0).trans (limF_of (q := fulcrummem_Int.spec) (C := fulcrummem_Int.cals) (T := T) (f := Try.f96) (x := (a0, ())) (y := y) k ((fulcrummem_Int.eval k a0).trans h))
def fulcrumlaw02_ints.spec : Spec := ⟨[(false, Kt56)], [(false, Kt56)], .own, fun j => match j with | 3 => [(0, .lf (.z 25 Kt25 false)), (3, .lf (.o 25 Kt25 true)), (4, .lf (.v true))] | _ => []⟩
noncomputable def fulcrumlaw02_ints.cals : Cals := (Cals.cons 96 fulcrummem_Int.sig (Cals.base tabs))
noncomputable def fulcrumlaw02_ints.sig : Sig := fulcrumlaw02_ints.spec.sig fulcrumlaw02_ints.cals T Try.f65
noncomputable def fulcrumlaw02_ints.F (x : Dt56 × Unit) : Option (Dt56 × Unit) := limF fulcrumlaw02_ints.spec fulcrumlaw02_ints.cals T Try.f65 x
theorem fulcrumlaw02_ints.ck : CalsOk Try.prog fulcrumlaw02_ints.cals := (CalsOk.cons fulcrummem_Int.cal (CalsOk.base tabsOk))
theorem fulcrumlaw02_ints.cal : CalOk Try.prog tabs 65 fulcrumlaw02_ints.sig := calOk_lim' tabOk fulcrumlaw02_ints.ck mix Try.func65 (by kernel_rfl) (by kernel_rfl) (by kernel_rfl) (by kernel_rfl)
def fulcrumlaw02_ints.m3 (x0 : Dt56) (x3 : Dt56) (x4 : Int) : S := ⟨[(0, .one (.lf (.val false Kt56 x0))), (3, .one (.lf (.own 0))), (4, .one (.lf (.val true (.int .i64) x4)))], ⟨[some ⟨25, Kt25, true, true, x3⟩], []⟩⟩
noncomputable def fulcrumlaw02_ints.b3 (f3 : Dt56 → Dt56 → Int → Option (Dt56 × Unit)) (x0 : Dt56) (x3 : Dt56) (x4 : Int) : Option (Dt56 × Unit) :=
  let v1 := (List.length x0 : Int)
  let v2 := decide (x4 < v1)
  bif v2 then (bif decide (0 ≤ x4) && decide (x4 < (List.length x0 : Int)) then (let v3 := (List.getD x0 (Int.toNat x4) zt25).1
  let v4 := (List.getD x0 (Int.toNat x4) zt25).2
  (fulcrummem_Int.F ((v3, v4), ())).bind fun y5 =>
  let v6 := ([(y5.1.1, y5.1.2)] : List Dt25)
  bif decide (List.length x3 + List.length v6 < 4398046511104) then (let v7 := List.append x3 v6
  let v8 := IntKind.i64.wrap (x4 + (1 : Int))
  f3 x0 v7 v8)
  else none)
  else none)
  else (some (x3, ()))
noncomputable def fulcrumlaw02_ints.e (f3 : Dt56 → Dt56 → Int → Option (Dt56 × Unit)) (a0 : Dt56) : Option (Dt56 × Unit) :=
  f3 a0 zt56 (0 : Int)
noncomputable def fulcrumlaw02_ints.L3 (k : Nat) (x0 : Dt56) (x3 : Dt56) (x4 : Int) : Option (Dt56 × Unit) := heads (fulcrumlaw02_ints.spec.env fulcrumlaw02_ints.cals T Try.f65) (Func.pts Try.f65) k 3 (fulcrumlaw02_ints.m3 x0 x3 x4)
theorem fulcrumlaw02_ints.L3_succ (k : Nat) (x0 : Dt56) (x3 : Dt56) (x4 : Int) : fulcrumlaw02_ints.L3 (k + 1) x0 x3 x4 = fulcrumlaw02_ints.b3 (fulcrumlaw02_ints.L3 k) x0 x3 x4 := by kernel_rfl
theorem fulcrumlaw02_ints.eval (k : Nat) (a0 : Dt56) : evalF fulcrumlaw02_ints.spec fulcrumlaw02_ints.cals T Try.f65 k (a0, ()) = fulcrumlaw02_ints.e (fulcrumlaw02_ints.L3 k) a0 := by kernel_rfl
theorem fulcrumlaw02_ints.F_eq (a0 : Dt56) : fulcrumlaw02_ints.F (a0, ()) = limF fulcrumlaw02_ints.spec fulcrumlaw02_ints.cals T Try.f65 (a0, ()) := by kernel_rfl
theorem fulcrumlaw02_ints.of (k : Nat) (a0 : Dt56) {y : Dt56 × Unit} (h : fulcrumlaw02_ints.e (fulcrumlaw02_ints.L3 k) a0 = some y) : fulcrumlaw02_ints.F (a0, ()) = some y := (fulcrumlaw02_ints.F_eq a0).trans (limF_of (q := fulcrumlaw02_ints.spec) (C := fulcrumlaw02_ints.cals) (T := T) (f := Try.f65) (x := (a0, ())) (y := y) k ((fulcrumlaw02_ints.eval k a0).trans h))
def fulcrummem_Kept.spec : Spec := ⟨[(false, Kt23), (false, Kt23)], [(false, .bool)], .own, fun j => match j with | 4 => [(0, .lf (.z 70 (.int .u32) false)), (1, .lf (.z 70 (.int .u32) false)), (5, .lf (.v true))] | 9 => [(0, .lf (.z 70 (.int .u32) false)), (1, .lf (.z 70 (.int .u32) false)), (6, .lf (.v true))] | _ => []⟩
noncomputable def fulcrummem_Kept.cals : Cals := (Cals.base tabs)
noncomputable def fulcrummem_Kept.sig : Sig := fulcrummem_Kept.spec.sig fulcrummem_Kept.cals T Try.f68
noncomputable def fulcrummem_Kept.F (x : Dt23 × Dt23 × Unit) : Option (Bool × Unit) := limF fulcrummem_Kept.spec fulcrummem_Kept.cals T Try.f68 x
theorem fulcrummem_Kept.ck : CalsOk Try.prog fulcrummem_Kept.cals := (CalsOk.base tabsOk)
theorem fulcrummem_Kept.cal : CalOk Try.prog tabs 68 fulcrummem_Kept.sig := calOk_lim' tabOk fulcrummem_Kept.ck mix Try.func68 (by kernel_rfl) (by kernel_rfl) (by kernel_rfl) (by kernel_rfl)
def fulcrummem_Kept.m4 (x0 : Dt23) (x1 : Dt23) (x5 : Int) : S := ⟨[(0, .one (.lf (.val false Kt23 x0))), (1, .one (.lf (.val false Kt23 x1))), (5, .one (.lf (.val true (.int .i64) x5)))], ⟨[], []⟩⟩
def fulcrummem_Kept.m9 (x0 : Dt23) (x1 : Dt23) (x6 : Int) : S := ⟨[(0, .one (.lf (.val false Kt23 x0))), (1, .one (.lf (.val false Kt23 x1))), (6, .one (.lf (.val true (.int .i64) x6)))], ⟨[], []⟩⟩
noncomputable def fulcrummem_Kept.b4 (f4 : Dt23 → Dt23 → Int → Option (Bool × Unit)) (f9 : Dt23 → Dt23 → Int → Option (Bool × Unit)) (x0 : Dt23) (x1 : Dt23) (x5 : Int) : Option (Bool × Unit) :=
  let v1 := (List.length x1 : Int)
  let v2 := decide (x5 < v1)
  bif v2 then (bif decide (0 ≤ x5) && decide (x5 < (List.length x0 : Int)) then (let v3 := List.getD x0 (Int.toNat x5) (0 : Int)
  bif decide (0 ≤ x5) && decide (x5 < (List.length x1 : Int)) then (let v4 := List.getD x1 (Int.toNat x5) (0 : Int)
  let v5 := (v3 != v4)
  bif v5 then (some (false, ()))
  else (let v6 := IntKind.i64.wrap (x5 + (1 : Int))
  f4 x0 x1 v6))
  else none)
  else none)
  else (f9 x0 x1 (0 : Int))
noncomputable def fulcrummem_Kept.b9 (f4 : Dt23 → Dt23 → Int → Option (Bool × Unit)) (f9 : Dt23 → Dt23 → Int → Option (Bool × Unit)) (x0 : Dt23) (x1 : Dt23) (x6 : Int) : Option (Bool × Unit) :=
  let v1 := decide (x6 < (5 : Int))
  bif v1 then (let v2 := (List.length x1 : Int)
  let v3 := IntKind.i64.wrap (v2 + x6)
  bif decide (0 ≤ v3) && decide (v3 < (List.length x0 : Int)) then (let v4 := List.getD x0 (Int.toNat v3) (0 : Int)
  let v5 := IntKind.u32.wrap x6
  let v6 := IntKind.u32.wrap ((1515847680 : Int) + v5)
  let v7 := (v4 != v6)
  bif v7 then (some (false, ()))
  else (let v8 := IntKind.i64.wrap (x6 + (1 : Int))
  f9 x0 x1 v8))
  else none)
  else (some (true, ()))
noncomputable def fulcrummem_Kept.e (f4 : Dt23 → Dt23 → Int → Option (Bool × Unit)) (f9 : Dt23 → Dt23 → Int → Option (Bool × Unit)) (a0 : Dt23) (a1 : Dt23) : Option (Bool × Unit) :=
  let v1 := (List.length a0 : Int)
  let v2 := (List.length a1 : Int)
  let v3 := IntKind.i64.wrap (v2 + (5 : Int))
  let v4 := (v1 != v3)
  bif v4 then (some (false, ()))
  else (f4 a0 a1 (0 : Int))
noncomputable def fulcrummem_Kept.L4 (k : Nat) (x0 : Dt23) (x1 : Dt23) (x5 : Int) : Option (Bool × Unit) := heads (fulcrummem_Kept.spec.env fulcrummem_Kept.cals T Try.f68) (Func.pts Try.f68) k 4 (fulcrummem_Kept.m4 x0 x1 x5)
noncomputable def fulcrummem_Kept.L9 (k : Nat) (x0 : Dt23) (x1 : Dt23) (x6 : Int) : Option (Bool × Unit) := heads (fulcrummem_Kept.spec.env fulcrummem_Kept.cals T Try.f68) (Func.pts Try.f68) k 9 (fulcrummem_Kept.m9 x0 x1 x6)
theorem fulcrummem_Kept.L4_succ (k : Nat) (x0 : Dt23) (x1 : Dt23) (x5 : Int) : fulcrummem_Kept.L4 (k + 1) x0 x1 x5 = fulcrummem_Kept.b4 (fulcrummem_Kept.L4 k) (fulcrummem_Kept.L9 k) x0 x1 x5 := by kernel_rfl
theorem fulcrummem_Kept.L9_succ (k : Nat) (x0 : Dt23) (x1 : Dt23) (x6 : Int) : fulcrummem_Kept.L9 (k + 1) x0 x1 x6 = fulcrummem_Kept.b9 (fulcrummem_Kept.L4 k) (fulcrummem_Kept.L9 k) x0 x1 x6 := by kernel_rfl
theorem fulcrummem_Kept.eval (k : Nat) (a0 : Dt23) (a1 : Dt23) : evalF fulcrummem_Kept.spec fulcrummem_Kept.cals T Try.f68 k (a0, a1, ()) = fulcrummem_Kept.e (fulcrummem_Kept.L4 k) (fulcrummem_Kept.L9 k) a0 a1 := by kernel_rfl
theorem fulcrummem_Kept.F_eq (a0 : Dt23) (a1 : Dt23) : fulcrummem_Kept.F (a0, a1, ()) = limF fulcrummem_Kept.spec fulcrummem_Kept.cals T Try.f68 (a0, a1, ()) := by kernel_rfl
theorem fulcrummem_Kept.of (k : Nat) (a0 : Dt23) (a1 : Dt23) {y : Bool × Unit} (h : fulcrummem_Kept.e (fulcrummem_Kept.L4 k) (fulcrummem_Kept.L9 k) a0 a1 = some y) : fulcrummem_Kept.F (a0, a1, ()) = some y := (fulcrummem_Kept.F_eq a0 a1).trans (limF_of (q := fulcrummem_Kept.spec) (C := fulcrummem_Kept.cals) (T := T) (f := Try.f68) (x := (a0, a1, ())) (y := y) k ((fulcrummem_Kept.eval k a0 a1).trans h))
def fulcrummem_mark.spec : Spec := ⟨[(false, (.int .i64)), (false, (.int .i64))], [(false, (.int .u32))], .own, fun j => match j with  | _ => []⟩
noncomputable def fulcrummem_mark.cals : Cals := (Cals.base tabs)
noncomputable def fulcrummem_mark.sig : Sig := fulcrummem_mark.spec.sig fulcrummem_mark.cals T Try.f97
noncomputable def fulcrummem_mark.F (x : Int × Int × Unit) : Option (Int × Unit) := limF fulcrummem_mark.spec fulcrummem_mark.cals T Try.f97 x
theorem fulcrummem_mark.ck : CalsOk Try.prog fulcrummem_mark.cals := (CalsOk.base tabsOk)
theorem fulcrummem_mark.cal : CalOk Try.prog tabs 97 fulcrummem_mark.sig := calOk_lim' tabOk fulcrummem_mark.ck mix Try.func97 (by kernel_rfl) (by kernel_rfl) (by kernel_rfl) (by kernel_rfl)
noncomputable def fulcrummem_mark.e  (a0 : Int) (a1 : Int) : Option (Int × Unit) :=
  let v1 := IntKind.i64.wrap (a0 * (4096 : Int))
  let v2 := IntKind.i64.wrap (v1 + a1)
  let v3 := IntKind.u32.wrap v2
  let v4 := IntKind.u32.wrap ((2768240640 : Int) + v3)
  some (v4, ())
theorem fulcrummem_mark.eval (k : Nat) (a0 : Int) (a1 : Int) : evalF fulcrummem_mark.spec fulcrummem_mark.cals T Try.f97 k (a0, a1, ()) = fulcrummem_mark.e  a0 a1 := by kernel_rfl
theorem fulcrummem_mark.F_eq (a0 : Int) (a1 : Int) : fulcrummem_mark.F (a0, a1, ()) = limF fulcrummem_mark.spec fulcrummem_mark.cals T Try.f97 (a0, a1, ()) := by kernel_rfl
theorem fulcrummem_mark.of (k : Nat) (a0 : Int) (a1 : Int) {y : Int × Unit} (h : fulcrummem_mark.e  a0 a1 = some y) : fulcrummem_mark.F (a0, a1, ()) = some y := (fulcrummem_mark.F_eq a0 a1).trans (limF_of (q := fulcrummem_mark.spec) (C := fulcrummem_mark.cals) (T := T) (f := Try.f97) (x := (a0, a1, ())) (y := y) k ((fulcrummem_mark.eval k a0 a1).trans h))
def fulcrummem_Room.spec : Spec := ⟨[(false, Kt23)], [(false, Kt23), (false, Kt23)], .fresh, fun j => match j with | 3 => [(0, .lf (.z 70 (.int .u32) false)), (4, .lf (.o 70 (.int .u32) true)), (5, .lf (.v true))] | 7 => [(0, .lf (.z 70 (.int .u32) false)), (4, .lf (.o 70 (.int .u32) true)), (6, .lf (.v true))] | _ => []⟩
noncomputable def fulcrummem_Room.cals : Cals := (Cals.withSubs [33] (Cals.base tabs))
noncomputable def fulcrummem_Room.sig : Sig := fulcrummem_Room.spec.sig fulcrummem_Room.cals T Try.f63
noncomputable def fulcrummem_Room.F (x : Dt23 × Unit) : Option (Dt23 × Dt23 × Unit) := limF fulcrummem_Room.spec fulcrummem_Room.cals T Try.f63 x
theorem fulcrummem_Room.ck : CalsOk Try.prog fulcrummem_Room.cals := (CalsOk.withSubs [33] (CalsOk.base tabsOk))
theorem fulcrummem_Room.cal : CalOk Try.prog tabs 63 fulcrummem_Room.sig := calOk_lim' tabOk fulcrummem_Room.ck mix Try.func63 (by kernel_rfl) (by kernel_rfl) (by kernel_rfl) (by kernel_rfl)
def fulcrummem_Room.m3 (x0 : Dt23) (x4 : Dt23) (x5 : Int) : S := ⟨[(0, .one (.lf (.val false Kt23 x0))), (4, .one (.lf (.own 0))), (5, .one (.lf (.val true (.int .i64) x5)))], ⟨[some ⟨70, (.int .u32), true, true, x4⟩], []⟩⟩
def fulcrummem_Room.m7 (x0 : Dt23) (x4 : Dt23) (x6 : Int) : S := ⟨[(0, .one (.lf (.val false Kt23 x0))), (4, .one (.lf (.own 0))), (6, .one (.lf (.val true (.int .i64) x6)))], ⟨[some ⟨70, (.int .u32), true, true, x4⟩], []⟩⟩
noncomputable def fulcrummem_Room.b3 (f3 : Dt23 → Dt23 → Int → Option (Dt23 × Dt23 × Unit)) (f7 : Dt23 → Dt23 → Int → Option (Dt23 × Dt23 × Unit)) (x0 : Dt23) (x4 : Dt23) (x5 : Int) : Option (Dt23 × Dt23 × Unit) :=
  let v1 := (List.length x0 : Int)
  let v2 := decide (x5 < v1)
  bif v2 then (bif decide (0 ≤ x5) && decide (x5 < (List.length x0 : Int)) then (let v3 := List.getD x0 (Int.toNat x5) (0 : Int)
  let v4 := ([v3] : List Int)
  bif decide (List.length x4 + List.length v4 < 35184372088832) then (let v5 := List.append x4 v4
  let v6 := IntKind.i64.wrap (x5 + (1 : Int))
  f3 x0 v5 v6)
  else none)
  else none)
  else (f7 x0 x4 (0 : Int))
noncomputable def fulcrummem_Room.b7 (f3 : Dt23 → Dt23 → Int → Option (Dt23 × Dt23 × Unit)) (f7 : Dt23 → Dt23 → Int → Option (Dt23 × Dt23 × Unit)) (x0 : Dt23) (x4 : Dt23) (x6 : Int) : Option (Dt23 × Dt23 × Unit) :=
  let v1 := decide (x6 < (5 : Int))
  bif v1 then (let v2 := IntKind.u32.wrap x6
  let v3 := IntKind.u32.wrap ((1515847680 : Int) + v2)
  let v4 := ([v3] : List Int)
  bif decide (List.length x4 + List.length v4 < 35184372088832) then (let v5 := List.append x4 v4
  let v6 := IntKind.i64.wrap (x6 + (1 : Int))
  f7 x0 v5 v6)
  else none)
  else (let v7 := (List.length x0 : Int)
  bif decide (0 ≤ (0 : Int)) && (decide ((0 : Int) ≤ v7) && decide (v7 ≤ (List.length x4 : Int))) then (bif Nat.ble ((Int.toNat (0 : Int)) + (Int.toNat (v7 - (0 : Int)))) (List.length x4) then (some (List.take (Int.toNat (v7 - (0 : Int))) (List.drop (Int.toNat (0 : Int)) x4), x4, ()))
  else none)
  else none)
noncomputable def fulcrummem_Room.e (f3 : Dt23 → Dt23 → Int → Option (Dt23 × Dt23 × Unit)) (f7 : Dt23 → Dt23 → Int → Option (Dt23 × Dt23 × Unit)) (a0 : Dt23) : Option (Dt23 × Dt23 × Unit) :=
  f3 a0 zt23 (0 : Int)
noncomputable def fulcrummem_Room.L3 (k : Nat) (x0 : Dt23) (x4 : Dt23) (x5 : Int) : Option (Dt23 × Dt23 × Unit) := heads (fulcrummem_Room.spec.env fulcrummem_Room.cals T Try.f63) (Func.pts Try.f63) k 3 (fulcrummem_Room.m3 x0 x4 x5)
noncomputable def fulcrummem_Room.L7 (k : Nat) (x0 : Dt23) (x4 : Dt23) (x6 : Int) : Option (Dt23 × Dt23 × Unit) := heads (fulcrummem_Room.spec.env fulcrummem_Room.cals T Try.f63) (Func.pts Try.f63) k 7 (fulcrummem_Room.m7 x0 x4 x6)
theorem fulcrummem_Room.L3_succ (k : Nat) (x0 : Dt23) (x4 : Dt23) (x5 : Int) : fulcrummem_Room.L3 (k + 1) x0 x4 x5 = fulcrummem_Room.b3 (fulcrummem_Room.L3 k) (fulcrummem_Room.L7 k) x0 x4 x5 := by kernel_rfl
theorem fulcrummem_Room.L7_succ (k : Nat) (x0 : Dt23) (x4 : Dt23) (x6 : Int) : fulcrummem_Room.L7 (k + 1) x0 x4 x6 = fulcrummem_Room.b7 (fulcrummem_Room.L3 k) (fulcrummem_Room.L7 k) x0 x4 x6 := by kernel_rfl
theorem fulcrummem_Room.eval (k : Nat) (a0 : Dt23) : evalF fulcrummem_Room.spec fulcrummem_Room.cals T Try.f63 k (a0, ()) = fulcrummem_Room.e (fulcrummem_Room.L3 k) (fulcrummem_Room.L7 k) a0 := by kernel_rfl
theorem fulcrummem_Room.F_eq (a0 : Dt23) : fulcrummem_Room.F (a0, ()) = limF fulcrummem_Room.spec fulcrummem_Room.cals T Try.f63 (a0, ()) := by kernel_rfl
theorem fulcrummem_Room.of (k : Nat) (a0 : Dt23) {y : Dt23 × Dt23 × Unit} (h : fulcrummem_Room.e (fulcrummem_Room.L3 k) (fulcrummem_Room.L7 k) a0 = some y) : fulcrummem_Room.F (a0, ()) = some y := (fulcrummem_Room.F_eq a0).trans (limF_of (q := fulcrummem_Room.spec) (C := fulcrummem_Room.cals) (T := T) (f := Try.f63) (x := (a0, ())) (y := y) k ((fulcrummem_Room.eval k a0).trans h))
end Go.Fx.Try
