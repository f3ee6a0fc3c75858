import Derived.Test.YtjojmgadmdgdgaaEv32
import Derived.Test.YtjojmgadmdgdgaaProg
namespace Go.Fx.Try
open Go Go.Proofs Go.Fx
set_option linter.unusedVariables false
set_option maxRecDepth 100000
def ti55 : TI := ⟨.int .u32, (.int .u32), false, 4⟩
def T55 : Tab := Tab.cons 55 ti55 Tab.nil
theorem tab55 : TabOk Try.prog T55 := TabOk.cons (by kernel_rfl) { info := ⟨Try.t55, by kernel_rfl, by kernel_rfl, by kernel_rfl, (.int .u32 0), by kernel_rfl, by kernel_rfl⟩, agg := ⟨_, Try.underlying55, rfl⟩, desc := ⟨Try.underlying55, rfl⟩ } TabOk.nil
def ti29 : TI := ⟨.sl 55, (.sl 55 (.int .u32)), false, 24⟩
def T29 : Tab := Tab.cons 29 ti29 T55
theorem tab29 : TabOk Try.prog T29 := TabOk.cons (by kernel_rfl) { info := ⟨Try.t29, by kernel_rfl, by kernel_rfl, by kernel_rfl, (.slice none 0 0), by kernel_rfl, by kernel_rfl⟩, agg := ⟨_, Try.underlying29, rfl⟩, desc := ⟨Try.underlying29, ti55, by kernel_rfl, rfl, by decide⟩ } tab55
def ti4 : TI := ⟨.bool, .bool, false, 1⟩
def T4 : Tab := Tab.cons 4 ti4 T29
theorem tab4 : TabOk Try.prog T4 := TabOk.cons (by kernel_rfl) { info := ⟨Try.t4, by kernel_rfl, by kernel_rfl, by kernel_rfl, (.bool false), by kernel_rfl, by kernel_rfl⟩, agg := ⟨_, Try.underlying4, rfl⟩, desc := ⟨Try.underlying4, rfl⟩ } tab29
def ti31 : TI := ⟨.struct [(0, 4), (1, 29)], (.prod .bool (.sl 55 (.int .u32))), true, 32⟩
def T31 : Tab := Tab.cons 31 ti31 T4
theorem tab31 : TabOk Try.prog T31 := TabOk.cons (by kernel_rfl) { info := ⟨Try.t31, by kernel_rfl, by kernel_rfl, by kernel_rfl, (.agg #[.bool false, .slice none 0 0]), by kernel_rfl, by kernel_rfl⟩, agg := ⟨_, Try.underlying31, rfl⟩, desc := ⟨_, Try.underlying31, rfl, fun i o ft h => match i, h with | 0, h => by simp at h; obtain ⟨rfl, rfl⟩ := h; exact ⟨_, rfl, rfl, rfl, ti4, by kernel_rfl, by decide⟩ | 1, h => by simp at h; obtain ⟨rfl, rfl⟩ := h; exact ⟨_, rfl, rfl, rfl, ti29, by kernel_rfl, by decide⟩ | n + 2, h => by simp at h⟩ } tab4
def ti3 : TI := ⟨.int .i64, (.int .i64), false, 8⟩
def T3 : Tab := Tab.cons 3 ti3 T31
theorem tab3 : TabOk Try.prog T3 := TabOk.cons (by kernel_rfl) { info := ⟨Try.t3, by kernel_rfl, by kernel_rfl, by kernel_rfl, (.int .i64 0), by kernel_rfl, by kernel_rfl⟩, agg := ⟨_, Try.underlying3, rfl⟩, desc := ⟨Try.underlying3, rfl⟩ } tab31
def ti60 : TI := ⟨.int .u64, (.int .u64), false, 8⟩
def T60 : Tab := Tab.cons 60 ti60 T3
theorem tab60 : TabOk Try.prog T60 := TabOk.cons (by kernel_rfl) { info := ⟨Try.t60, by kernel_rfl, by kernel_rfl, by kernel_rfl, (.int .u64 0), by kernel_rfl, by kernel_rfl⟩, agg := ⟨_, Try.underlying60, rfl⟩, desc := ⟨Try.underlying60, rfl⟩ } tab3
def ti5 : TI := ⟨.int .u8, (.int .u8), false, 1⟩
def T5 : Tab := Tab.cons 5 ti5 T60
theorem tab5 : TabOk Try.prog T5 := TabOk.cons (by kernel_rfl) { info := ⟨Try.t5, by kernel_rfl, by kernel_rfl, by kernel_rfl, (.int .u8 0), by kernel_rfl, by kernel_rfl⟩, agg := ⟨_, Try.underlying5, rfl⟩, desc := ⟨Try.underlying5, rfl⟩ } tab60
def ti9 : TI := ⟨.str, .str, false, 16⟩
def T9 : Tab := Tab.cons 9 ti9 T5
theorem tab9 : TabOk Try.prog T9 := TabOk.cons (by kernel_rfl) { info := ⟨Try.t9, by kernel_rfl, by kernel_rfl, by kernel_rfl, (.string ByteArray.empty), by kernel_rfl, by kernel_rfl⟩, agg := ⟨_, Try.underlying9, rfl⟩, desc := ⟨Try.underlying9, rfl⟩ } tab5
def ti24 : TI := ⟨.int .i64, (.int .i64), false, 8⟩
def T24 : Tab := Tab.cons 24 ti24 T9
theorem tab24 : TabOk Try.prog T24 := TabOk.cons (by kernel_rfl) { info := ⟨Try.t24, by kernel_rfl, by kernel_rfl, by kernel_rfl, (.int .i64 0), by kernel_rfl, by kernel_rfl⟩, agg := ⟨_, Try.underlying24, rfl⟩, desc := ⟨Try.underlying24, rfl⟩ } tab9
def ti108 : TI := ⟨.sl 3, (.sl 3 (.int .i64)), false, 24⟩
def T108 : Tab := Tab.cons 108 ti108 T24
theorem tab108 : TabOk Try.prog T108 := TabOk.cons (by kernel_rfl) { info := ⟨Try.t108, by kernel_rfl, by kernel_rfl, by kernel_rfl, (.slice none 0 0), by kernel_rfl, by kernel_rfl⟩, agg := ⟨_, Try.underlying108, rfl⟩, desc := ⟨Try.underlying108, ti3, by kernel_rfl, rfl, by decide⟩ } tab24
def ti33 : TI := ⟨.struct [(0, 31), (2, 29)], (.prod (.prod .bool (.sl 55 (.int .u32))) (.sl 55 (.int .u32))), true, 56⟩
def T33 : Tab := Tab.cons 33 ti33 T108
theorem tab33 : TabOk Try.prog T33 := TabOk.cons (by kernel_rfl) { info := ⟨Try.t33, by kernel_rfl, by kernel_rfl, by kernel_rfl, (.agg #[.bool false, .slice none 0 0, .slice none 0 0]), by kernel_rfl, by kernel_rfl⟩, agg := ⟨_, Try.underlying33, rfl⟩, desc := ⟨_, Try.underlying33, rfl, fun i o ft h => match i, h with | 0, h => by simp at h; obtain ⟨rfl, rfl⟩ := h; exact ⟨_, rfl, rfl, rfl, ti31, by kernel_rfl, by decide⟩ | 1, h => by simp at h; obtain ⟨rfl, rfl⟩ := h; exact ⟨_, rfl, rfl, rfl, ti29, by kernel_rfl, by decide⟩ | n + 2, h => by simp at h⟩ } tab108
def ti36 : TI := ⟨.struct [(0, 3), (1, 33)], (.prod (.int .i64) (.prod (.prod .bool (.sl 55 (.int .u32))) (.sl 55 (.int .u32)))), true, 64⟩
def T36 : Tab := Tab.cons 36 ti36 T33
theorem tab36 : TabOk Try.prog T36 := TabOk.cons (by kernel_rfl) { info := ⟨Try.t36, by kernel_rfl, by kernel_rfl, by kernel_rfl, (.agg #[ .int .i64 0, .bool false, .slice none 0 0, .slice none 0 0]), by kernel_rfl, by kernel_rfl⟩, agg := ⟨_, Try.underlying36, rfl⟩, desc := ⟨_, Try.underlying36, rfl, fun i o ft h => match i, h with | 0, h => by simp at h; obtain ⟨rfl, rfl⟩ := h; exact ⟨_, rfl, rfl, rfl, ti3, by kernel_rfl, by decide⟩ | 1, h => by simp at h; obtain ⟨rfl, rfl⟩ := h; exact ⟨_, rfl, rfl, rfl, ti33, by kernel_rfl, by decide⟩ | n + 2, h => by simp at h⟩ } tab33
def ti37 : TI := ⟨.sl 36, (.sl 36 (.prod (.int .i64) (.prod (.prod .bool (.sl 55 (.int .u32))) (.sl 55 (.int .u32))))), false, 24⟩
def T37 : Tab := Tab.cons 37 ti37 T36
theorem tab37 : TabOk Try.prog T37 := TabOk.cons (by kernel_rfl) { info := ⟨Try.t37, by kernel_rfl, by kernel_rfl, by kernel_rfl, (.slice none 0 0), by kernel_rfl, by kernel_rfl⟩, agg := ⟨_, Try.underlying37, rfl⟩, desc := ⟨Try.underlying37, ti36, by kernel_rfl, rfl, by decide⟩ } tab36
def ti38 : TI := ⟨.sl 36, (.sl 36 (.prod (.int .i64) (.prod (.prod .bool (.sl 55 (.int .u32))) (.sl 55 (.int .u32))))), false, 24⟩
def T38 : Tab := Tab.cons 38 ti38 T37
theorem tab38 : TabOk Try.prog T38 := TabOk.cons (by kernel_rfl) { info := ⟨Try.t38, by kernel_rfl, by kernel_rfl, by kernel_rfl, (.slice none 0 0), by kernel_rfl, by kernel_rfl⟩, agg := ⟨_, Try.underlying38, rfl⟩, desc := ⟨Try.underlying38, ti36, by kernel_rfl, rfl, by decide⟩ } tab37
def ti113 : TI := ⟨.sl 5, (.sl 5 (.int .u8)), false, 24⟩
def T113 : Tab := Tab.cons 113 ti113 T38
theorem tab113 : TabOk Try.prog T113 := TabOk.cons (by kernel_rfl) { info := ⟨Try.t113, by kernel_rfl, by kernel_rfl, by kernel_rfl, (.slice none 0 0), by kernel_rfl, by kernel_rfl⟩, agg := ⟨_, Try.underlying113, rfl⟩, desc := ⟨Try.underlying113, ti5, by kernel_rfl, rfl, by decide⟩ } tab38
def ti2 : TI := ⟨.int .i64, (.int .i64), false, 8⟩
def T2 : Tab := Tab.cons 2 ti2 T113
theorem tab2 : TabOk Try.prog T2 := TabOk.cons (by kernel_rfl) { info := ⟨Try.t2, by kernel_rfl, by kernel_rfl, by kernel_rfl, (.int .i64 0), by kernel_rfl, by kernel_rfl⟩, agg := ⟨_, Try.underlying2, rfl⟩, desc := ⟨Try.underlying2, rfl⟩ } tab113
def ti50 : TI := ⟨.struct [(0, 9), (1, 38), (2, 33), (5, 4)], (.prod .str (.prod (.sl 36 (.prod (.int .i64) (.prod (.prod .bool (.sl 55 (.int .u32))) (.sl 55 (.int .u32))))) (.prod (.prod (.prod .bool (.sl 55 (.int .u32))) (.sl 55 (.int .u32))) .bool))), true, 104⟩
def T50 : Tab := Tab.cons 50 ti50 T2
theorem tab50 : TabOk Try.prog T50 := TabOk.cons (by kernel_rfl) { info := ⟨Try.t50, by kernel_rfl, by kernel_rfl, by kernel_rfl, (.agg #[.string ByteArray.empty, .slice none 0 0, .bool false, .slice none 0 0, .slice none 0 0, .bool false]), by kernel_rfl, by kernel_rfl⟩, agg := ⟨_, Try.underlying50, rfl⟩, desc := ⟨_, Try.underlying50, rfl, fun i o ft h => match i, h with | 0, h => by simp at h; obtain ⟨rfl, rfl⟩ := h; exact ⟨_, rfl, rfl, rfl, ti9, by kernel_rfl, by decide⟩ | 1, h => by simp at h; obtain ⟨rfl, rfl⟩ := h; exact ⟨_, rfl, rfl, rfl, ti38, by kernel_rfl, by decide⟩ | 2, h => by simp at h; obtain ⟨rfl, rfl⟩ := h; exact ⟨_, rfl, rfl, rfl, ti33, by kernel_rfl, by decide⟩ | 3, h => by simp at h; obtain ⟨rfl, rfl⟩ := h; exact ⟨_, rfl, rfl, rfl, ti4, by kernel_rfl, by decide⟩ | n + 4, h => by simp at h⟩ } tab2
def ti23 : TI := ⟨.sl 50, (.sl 50 (.prod .str (.prod (.sl 36 (.prod (.int .i64) (.prod (.prod .bool (.sl 55 (.int .u32))) (.sl 55 (.int .u32))))) (.prod (.prod (.prod .bool (.sl 55 (.int .u32))) (.sl 55 (.int .u32))) .bool)))), false, 24⟩
def T23 : Tab := Tab.cons 23 ti23 T50
theorem tab23 : TabOk Try.prog T23 := TabOk.cons (by kernel_rfl) { info := ⟨Try.t23, by kernel_rfl, by kernel_rfl, by kernel_rfl, (.slice none 0 0), by kernel_rfl, by kernel_rfl⟩, agg := ⟨_, Try.underlying23, rfl⟩, desc := ⟨Try.underlying23, ti50, by kernel_rfl, rfl, by decide⟩ } tab50
def ti41 : TI := ⟨.map, .mp, false, 8⟩
def T41 : Tab := Tab.cons 41 ti41 T23
theorem tab41 : TabOk Try.prog T41 := TabOk.cons (by kernel_rfl) { info := ⟨Try.t41, by kernel_rfl, by kernel_rfl, by kernel_rfl, (.map none), by kernel_rfl, by kernel_rfl⟩, agg := ⟨_, Try.underlying41, rfl⟩, desc := ⟨rfl, _, _, Try.underlying41, Try.underlying9, Try.t3, by kernel_rfl, by kernel_rfl⟩ } tab23
def ti40 : TI := ⟨.struct [(0, 38), (1, 33)], (.prod (.sl 36 (.prod (.int .i64) (.prod (.prod .bool (.sl 55 (.int .u32))) (.sl 55 (.int .u32))))) (.prod (.prod .bool (.sl 55 (.int .u32))) (.sl 55 (.int .u32)))), true, 80⟩
def T40 : Tab := Tab.cons 40 ti40 T41
theorem tab40 : TabOk Try.prog T40 := TabOk.cons (by kernel_rfl) { info := ⟨Try.t40, by kernel_rfl, by kernel_rfl, by kernel_rfl, (.agg #[.slice none 0 0, .bool false, .slice none 0 0, .slice none 0 0]), by kernel_rfl, by kernel_rfl⟩, agg := ⟨_, Try.underlying40, rfl⟩, desc := ⟨_, Try.underlying40, rfl, fun i o ft h => match i, h with | 0, h => by simp at h; obtain ⟨rfl, rfl⟩ := h; exact ⟨_, rfl, rfl, rfl, ti38, by kernel_rfl, by decide⟩ | 1, h => by simp at h; obtain ⟨rfl, rfl⟩ := h; exact ⟨_, rfl, rfl, rfl, ti33, by kernel_rfl, by decide⟩ | n + 2, h => by simp at h⟩ } tab41
def ti78 : TI := ⟨.int .u64, (.int .u64), false, 8⟩
def T78 : Tab := Tab.cons 78 ti78 T40
theorem tab78 : TabOk Try.prog T78 := TabOk.cons (by kernel_rfl) { info := ⟨Try.t78, by kernel_rfl, by kernel_rfl, by kernel_rfl, (.int .u64 0), by kernel_rfl, by kernel_rfl⟩, agg := ⟨_, Try.underlying78, rfl⟩, desc := ⟨Try.underlying78, rfl⟩ } tab40
def T : Tab := T78
theorem tabOk : TabOk Try.prog T := tab78
theorem mix : Try.prog.follows .mixedOrders = true := by kernel_rfl
def tabs : Nat → Option Tbl := noTabs
theorem tabsOk : ∀ g tb, tabs g = some tb → TblOk Try.prog tb := noTabs_ok
abbrev Dt113 : Type := (List Int)
abbrev zt113 : Dt113 := ([] : List Int)
abbrev t8 : ByteArray := ⟨#[0, 1, 2, 2, 3, 3, 3, 3, 4, 4, 4, 4, 4, 4, 4, 4, 5, 5, 5, 5, 5, 5, 5, 5, 5, 5, 5, 5, 5, 5, 5, 5, 6, 6, 6, 6, 6, 6, 6, 6, 6, 6, 6, 6, 6, 6, 6, 6, 6, 6, 6, 6, 6, 6, 6, 6, 6, 6, 6, 6, 6, 6, 6, 6, 7, 7, 7, 7, 7, 7, 7, 7, 7, 7, 7, 7, 7, 7, 7, 7, 7, 7, 7, 7, 7, 7, 7, 7, 7, 7, 7, 7, 7, 7, 7, 7, 7, 7, 7, 7, 7, 7, 7, 7, 7, 7, 7, 7, 7, 7, 7, 7, 7, 7, 7, 7, 7, 7, 7, 7, 7, 7, 7, 7, 7, 7, 7, 7, 8, 8, 8, 8, 8, 8, 8, 8, 8, 8, 8, 8, 8, 8, 8, 8, 8, 8, 8, 8, 8, 8, 8, 8, 8, 8, 8, 8, 8, 8, 8, 8, 8, 8, 8, 8, 8, 8, 8, 8, 8, 8, 8, 8, 8, 8, 8, 8, 8, 8, 8, 8, 8, 8, 8, 8, 8, 8, 8, 8, 8, 8, 8, 8, 8, 8, 8, 8, 8, 8, 8, 8, 8, 8, 8, 8, 8, 8, 8, 8, 8, 8, 8, 8, 8, 8, 8, 8, 8, 8, 8, 8, 8, 8, 8, 8, 8, 8, 8, 8, 8, 8, 8, 8, 8, 8, 8, 8, 8, 8, 8, 8, 8, 8, 8, 8, 8, 8, 8, 8, 8, 8, 8, 8, 8, 8, 8, 8]⟩
noncomputable section
abbrev Kt108 : K := (.sl 3 (.int .i64))
abbrev Dt108 : Type := Dt113
abbrev zt108 : Dt108 := zt113
abbrev Kt29 : K := (.sl 55 (.int .u32))
abbrev Dt29 : Type := Dt108
abbrev zt29 : Dt29 := zt108
abbrev Kt31 : K := (.prod .bool Kt29)
abbrev Dt31 : Type := (Bool × Dt29)
abbrev zt31 : Dt31 := (false, zt29)
abbrev Kt33 : K := (.prod Kt31 Kt29)
abbrev Dt33 : Type := (Dt31 × Dt29)
abbrev zt33 : Dt33 := (zt31, zt29)
abbrev Kt36 : K := (.prod (.int .i64) Kt33)
abbrev Dt36 : Type := (Int × Dt33)
abbrev zt36 : Dt36 := ((0 : Int), zt33)
abbrev Kt37 : K := (.sl 36 Kt36)
abbrev Dt37 : Type := (List Dt36)
abbrev zt37 : Dt37 := ([] : List (Int × ((Bool × (List Int)) × (List Int))))
abbrev Kt40 : K := (.prod Kt37 Kt33)
abbrev Dt40 : Type := (Dt37 × Dt33)
abbrev Kt50 : K := (.prod .str (.prod Kt37 (.prod Kt33 .bool)))
abbrev Dt50 : Type := (ByteArray × (Dt37 × (Dt33 × Bool)))
abbrev zt50 : Dt50 := (ByteArray.empty, (zt37, (zt33, false)))
abbrev Kt23 : K := (.sl 50 Kt50)
abbrev Dt23 : Type := (List Dt50)
abbrev zt23 : Dt23 := ([] : List (ByteArray × ((List (Int × ((Bool × (List Int)) × (List Int)))) × (((Bool × (List Int)) × (List Int)) × Bool))))
namespace whole_core
def spec : Spec := ⟨[(false, Kt29)], [(false, Kt29)], .shared, fun j => match j with | 2 => [(0, .lf (.z 55 (.int .u32) true)), (3, .lf (.v true))] | _ => []⟩
def cals : Cals := (Cals.base tabs)
def sig : Sig := spec.sig cals T Try.f51
def F (x : Dt29 × Unit) : Option (Dt29 × Unit) := limF spec cals T Try.f51 x
theorem ck : CalsOk Try.prog cals := (CalsOk.base tabsOk)
theorem cal : CalOk Try.prog tabs 51 sig := calOk_lim' tabOk ck mix Try.func51 (by kernel_rfl) (by kernel_rfl) (by kernel_rfl) (by kernel_rfl)
def m2 (x0 : Dt29) (x3 : Int) : S := ⟨[(0, .one (.lf (.val true Kt29 x0))), (3, .one (.lf (.val true (.int .i64) x3)))], ⟨[], []⟩⟩
def b2 (f2 : Dt29 → Int → Option (Dt29 × Unit)) (x0 : Dt29) (x3 : Int) : Option (Dt29 × Unit) :=
 let v1 := decide (x3 > (0 : Int))
 bif v1 then (let v2 := IntKind.i64.wrap (x3 - (1 : Int))
 bif decide (0 ≤ v2) && decide (v2 < (List.length x0 : Int)) then (let v3 := List.getD x0 (Int.toNat v2) (0 : Int)
 let v4 := (v3 == (0 : Int))
 bif v4 then (let v5 := IntKind.i64.wrap (x3 - (1 : Int))
 f2 x0 v5)
 else (bif decide (0 ≤ x3) && (decide (x3 ≤ x3) && decide (x3 ≤ (List.length x0 : Int))) then (let v6 := List.take (Int.toNat x3) x0
 some (v6, ()))
 else none))
 else none)
 else (bif decide (0 ≤ x3) && (decide (x3 ≤ x3) && decide (x3 ≤ (List.length x0 : Int))) then (let v7 := List.take (Int.toNat x3) x0
 some (v7, ()))
 else none)
def e (f2 : Dt29 → Int → Option (Dt29 × Unit)) (a0 : Dt29) : Option (Dt29 × Unit) :=
 let v1 := (List.length a0 : Int)
 f2 a0 v1
def L2 (k : Nat) (x0 : Dt29) (x3 : Int) : Option (Dt29 × Unit) := heads (spec.env cals T Try.f51) (Func.pts Try.f51) k 2 (m2 x0 x3)
theorem L2_succ (k : Nat) (x0 : Dt29) (x3 : Int) : L2 (k + 1) x0 x3 = b2 (L2 k) x0 x3 := by kernel_rfl
theorem eval (k : Nat) (a0 : Dt29) : evalF spec cals T Try.f51 k (a0, ()) = e (L2 k) a0 := by kernel_rfl
theorem of (k : Nat) (a0 : Dt29) {y : Dt29 × Unit} (h : e (L2 k) a0 = some y) : F (a0, ()) = some y := limF_of k ((eval k a0).trans h)
end whole_core
namespace whole_Sign
def spec : Spec := ⟨[(true, Kt31)], [(false, (.int .i64))], .own, fun j => match j with  | _ => []⟩
def cals : Cals := (Cals.cons 51 whole_core.sig (Cals.base tabs))
def sig : Sig := spec.sig cals T Try.f28
def F (x : Dt31 × Unit) : Option (Int × Unit) := limF spec cals T Try.f28 x
theorem ck : CalsOk Try.prog cals := (CalsOk.cons whole_core.cal (CalsOk.base tabsOk))
theorem cal : CalOk Try.prog tabs 28 sig := calOk_lim' tabOk ck mix Try.func28 (by kernel_rfl) (by kernel_rfl) (by kernel_rfl) (by kernel_rfl)
def e  (a0 : Dt31) : Option (Int × Unit) :=
 (whole_core.F (a0.2, ())).bind fun y1 =>
 let v2 := (List.length y1.1 : Int)
 let v3 := (v2 == (0 : Int))
 bif v3 then (some ((0 : Int), ()))
 else (bif a0.1 then (some ((-1 : Int), ()))
 else (some ((1 : Int), ())))
theorem eval (k : Nat) (a0 : Dt31) : evalF spec cals T Try.f28 k (a0, ()) = e  a0 := by kernel_rfl
theorem of (k : Nat) (a0 : Dt31) {y : Int × Unit} (h : e  a0 = some y) : F (a0, ()) = some y := limF_of k ((eval k a0).trans h)
end whole_Sign
namespace nat_trim
def spec : Spec := ⟨[(false, Kt29)], [(false, Kt29)], .shared, fun j => match j with | 2 => [(0, .lf (.z 55 (.int .u32) true)), (3, .lf (.v true))] | _ => []⟩
def cals : Cals := (Cals.base tabs)
def sig : Sig := spec.sig cals T Try.f46
def F (x : Dt29 × Unit) : Option (Dt29 × Unit) := limF spec cals T Try.f46 x
theorem ck : CalsOk Try.prog cals := (CalsOk.base tabsOk)
theorem cal : CalOk Try.prog tabs 46 sig := calOk_lim' tabOk ck mix Try.func46 (by kernel_rfl) (by kernel_rfl) (by kernel_rfl) (by kernel_rfl)
def m2 (x0 : Dt29) (x3 : Int) : S := ⟨[(0, .one (.lf (.val true Kt29 x0))), (3, .one (.lf (.val true (.int .i64) x3)))], ⟨[], []⟩⟩
def b2 (f2 : Dt29 → Int → Option (Dt29 × Unit)) (x0 : Dt29) (x3 : Int) : Option (Dt29 × Unit) :=
 let v1 := decide (x3 > (0 : Int))
 bif v1 then (let v2 := IntKind.i64.wrap (x3 - (1 : Int))
 bif decide (0 ≤ v2) && decide (v2 < (List.length x0 : Int)) then (let v3 := List.getD x0 (Int.toNat v2) (0 : Int)
 let v4 := (v3 == (0 : Int))
 bif v4 then (let v5 := IntKind.i64.wrap (x3 - (1 : Int))
 f2 x0 v5)
 else (bif decide (0 ≤ x3) && decide (x3 ≤ (List.length x0 : Int)) then (let v6 := List.take (Int.toNat x3) x0
 some (v6, ()))
 else none))
 else none)
 else (bif decide (0 ≤ x3) && decide (x3 ≤ (List.length x0 : Int)) then (let v7 := List.take (Int.toNat x3) x0
 some (v7, ()))
 else none)
def e (f2 : Dt29 → Int → Option (Dt29 × Unit)) (a0 : Dt29) : Option (Dt29 × Unit) :=
 let v1 := (List.length a0 : Int)
 f2 a0 v1
def L2 (k : Nat) (x0 : Dt29) (x3 : Int) : Option (Dt29 × Unit) := heads (spec.env cals T Try.f46) (Func.pts Try.f46) k 2 (m2 x0 x3)
theorem L2_succ (k : Nat) (x0 : Dt29) (x3 : Int) : L2 (k + 1) x0 x3 = b2 (L2 k) x0 x3 := by kernel_rfl
theorem eval (k : Nat) (a0 : Dt29) : evalF spec cals T Try.f46 k (a0, ()) = e (L2 k) a0 := by kernel_rfl
theorem of (k : Nat) (a0 : Dt29) {y : Dt29 × Unit} (h : e (L2 k) a0 = some y) : F (a0, ()) = some y := limF_of k ((eval k a0).trans h)
end nat_trim
namespace nat_own
def spec : Spec := ⟨[(false, Kt29)], [(false, Kt29)], .own, fun j => match j with  | _ => []⟩
def cals : Cals := (Cals.cons 46 nat_trim.sig (Cals.base tabs))
def sig : Sig := spec.sig cals T Try.f45
def F (x : Dt29 × Unit) : Option (Dt29 × Unit) := limF spec cals T Try.f45 x
theorem ck : CalsOk Try.prog cals := (CalsOk.cons nat_trim.cal (CalsOk.base tabsOk))
theorem cal : CalOk Try.prog tabs 45 sig := calOk_lim' tabOk ck mix Try.func45 (by kernel_rfl) (by kernel_rfl) (by kernel_rfl) (by kernel_rfl)
def e  (a0 : Dt29) : Option (Dt29 × Unit) :=
 (nat_trim.F (a0, ())).bind fun y1 =>
 let v2 := (List.length y1.1 : Int)
 let v3 := (v2 == (0 : Int))
 bif v3 then (some (zt29, ()))
 else (let v4 := (List.length y1.1 : Int)
 bif decide (0 ≤ v4) && (decide (v4 ≤ v4) && (decide (Int.toNat v4 * 4 ≤ 281474976710656) && Nat.blt 0 4)) then (let v5 := List.replicate (Int.toNat v4) (0 : Int)
 let v6 := List.take (List.length v5) y1.1 ++ List.drop (List.length y1.1) v5
 let v7 := ((Nat.min (List.length y1.1) (List.length v5) : Nat) : Int)
 some (v6, ()))
 else none)
theorem eval (k : Nat) (a0 : Dt29) : evalF spec cals T Try.f45 k (a0, ()) = e  a0 := by kernel_rfl
theorem of (k : Nat) (a0 : Dt29) {y : Dt29 × Unit} (h : e  a0 = some y) : F (a0, ()) = some y := limF_of k ((eval k a0).trans h)
end nat_own
namespace nat_Cmp
def spec : Spec := ⟨[(false, Kt29), (false, Kt29)], [(false, (.int .i64))], .own, fun j => match j with | 7 => [(0, .lf (.z 55 (.int .u32) false)), (1, .lf (.z 55 (.int .u32) false)), (5, .lf (.v true))] | _ => []⟩
def cals : Cals := (Cals.cons 46 nat_trim.sig (Cals.base tabs))
def sig : Sig := spec.sig cals T Try.f47
def F (x : Dt29 × Dt29 × Unit) : Option (Int × Unit) := limF spec cals T Try.f47 x
theorem ck : CalsOk Try.prog cals := (CalsOk.cons nat_trim.cal (CalsOk.base tabsOk))
theorem cal : CalOk Try.prog tabs 47 sig := calOk_lim' tabOk ck mix Try.func47 (by kernel_rfl) (by kernel_rfl) (by kernel_rfl) (by kernel_rfl)
def m7 (x0 : Dt29) (x1 : Dt29) (x5 : Int) : S := ⟨[(0, .one (.lf (.val false Kt29 x0))), (1, .one (.lf (.val false Kt29 x1))), (5, .one (.lf (.val true (.int .i64) x5)))], ⟨[], []⟩⟩
def b7 (f7 : Dt29 → Dt29 → Int → Option (Int × Unit)) (x0 : Dt29) (x1 : Dt29) (x5 : Int) : Option (Int × Unit) :=
 let v1 := decide (x5 ≥ (0 : Int))
 bif v1 then (bif decide (0 ≤ x5) && decide (x5 < (List.length x0 : Int)) then (let v2 := List.getD x0 (Int.toNat x5) (0 : Int)
 bif decide (0 ≤ x5) && decide (x5 < (List.length x1 : Int)) then (let v3 := List.getD x1 (Int.toNat x5) (0 : Int)
 let v4 := (v2 != v3)
 bif v4 then (bif decide (0 ≤ x5) && decide (x5 < (List.length x0 : Int)) then (let v5 := List.getD x0 (Int.toNat x5) (0 : Int)
 bif decide (0 ≤ x5) && decide (x5 < (List.length x1 : Int)) then (let v6 := List.getD x1 (Int.toNat x5) (0 : Int)
 let v7 := decide (v5 < v6)
 bif v7 then (some ((-1 : Int), ()))
 else (some ((1 : Int), ())))
 else none)
 else none)
 else (let v8 := IntKind.i64.wrap (x5 - (1 : Int))
 f7 x0 x1 v8))
 else none)
 else none)
 else (some ((0 : Int), ()))
def e (f7 : Dt29 → Dt29 → Int → Option (Int × Unit)) (a0 : Dt29) (a1 : Dt29) : Option (Int × Unit) :=
 (nat_trim.F (a0, ())).bind fun y1 =>
 (nat_trim.F (a1, ())).bind fun y2 =>
 let v3 := (List.length y1.1 : Int)
 let v4 := (List.length y2.1 : Int)
 let v5 := (v3 != v4)
 bif v5 then (let v6 := (List.length y1.1 : Int)
 let v7 := (List.length y2.1 : Int)
 let v8 := decide (v6 < v7)
 bif v8 then (some ((-1 : Int), ()))
 else (some ((1 : Int), ())))
 else (let v9 := (List.length y1.1 : Int)
 let v10 := IntKind.i64.wrap (v9 - (1 : Int))
 f7 y1.1 y2.1 v10)
def L7 (k : Nat) (x0 : Dt29) (x1 : Dt29) (x5 : Int) : Option (Int × Unit) := heads (spec.env cals T Try.f47) (Func.pts Try.f47) k 7 (m7 x0 x1 x5)
theorem L7_succ (k : Nat) (x0 : Dt29) (x1 : Dt29) (x5 : Int) : L7 (k + 1) x0 x1 x5 = b7 (L7 k) x0 x1 x5 := by kernel_rfl
theorem eval (k : Nat) (a0 : Dt29) (a1 : Dt29) : evalF spec cals T Try.f47 k (a0, a1, ()) = e (L7 k) a0 a1 := by kernel_rfl
theorem of (k : Nat) (a0 : Dt29) (a1 : Dt29) {y : Int × Unit} (h : e (L7 k) a0 a1 = some y) : F (a0, a1, ()) = some y := limF_of k ((eval k a0 a1).trans h)
end nat_Cmp
namespace bits_Div32
def spec : Spec := ⟨[(false, (.int .u32)), (false, (.int .u32)), (false, (.int .u32))], [(false, (.int .u32)), (false, (.int .u32))], .own, fun j => match j with  | _ => []⟩
def cals : Cals := (Cals.base tabs)
def sig : Sig := spec.sig cals T Try.f68
def F (x : Int × Int × Int × Unit) : Option (Int × Int × Unit) := limF spec cals T Try.f68 x
theorem ck : CalsOk Try.prog cals := (CalsOk.base tabsOk)
theorem cal : CalOk Try.prog tabs 68 sig := calOk_lim' tabOk ck mix Try.func68 (by kernel_rfl) (by kernel_rfl) (by kernel_rfl) (by kernel_rfl)
def e  (a0 : Int) (a1 : Int) (a2 : Int) : Option (Int × Int × Unit) :=
 let v1 := (a2 != (0 : Int))
 bif v1 then (let v2 := decide (a2 ≤ a0)
 bif v2 then (none)
 else (let v3 := IntKind.u64.wrap a0
 bif decide ((32 : Int) < 0) then none
 else (let v4 := shlI .u64 v3 (32 : Int)
 let v5 := IntKind.u64.wrap a1
 let v6 := bitsOp .or .u64 v4 v5
 let v7 := IntKind.u64.wrap a2
 bif decide (v7 = 0) then none
 else (let v8 := IntKind.u64.wrap (Int.tdiv v6 v7)
 let v9 := IntKind.u32.wrap v8
 let v10 := IntKind.u64.wrap a2
 bif decide (v10 = 0) then none
 else (let v11 := Int.tmod v6 v10
 let v12 := IntKind.u32.wrap v11
 some (v9, v12, ()))))))
 else (let v13 := IntKind.u64.wrap a0
 bif decide ((32 : Int) < 0) then none
 else (let v14 := shlI .u64 v13 (32 : Int)
 let v15 := IntKind.u64.wrap a1
 let v16 := bitsOp .or .u64 v14 v15
 let v17 := IntKind.u64.wrap a2
 bif decide (v17 = 0) then none
 else (let v18 := IntKind.u64.wrap (Int.tdiv v16 v17)
 let v19 := IntKind.u32.wrap v18
 let v20 := IntKind.u64.wrap a2
 bif decide (v20 = 0) then none
 else (let v21 := Int.tmod v16 v20
 let v22 := IntKind.u32.wrap v21
 some (v19, v22, ())))))
theorem eval (k : Nat) (a0 : Int) (a1 : Int) (a2 : Int) : evalF spec cals T Try.f68 k (a0, a1, a2, ()) = e  a0 a1 a2 := by kernel_rfl
theorem of (k : Nat) (a0 : Int) (a1 : Int) (a2 : Int) {y : Int × Int × Unit} (h : e  a0 a1 a2 = some y) : F (a0, a1, a2, ()) = some y := limF_of k ((eval k a0 a1 a2).trans h)
end bits_Div32
namespace nat_short
def spec : Spec := ⟨[(false, Kt29), (false, (.int .u32))], [(false, Kt29), (false, (.int .u32))], .own, fun j => match j with | 4 => [(0, .lf (.z 55 (.int .u32) false)), (1, .lf (.v false)), (6, .lf (.o 55 (.int .u32) true)), (7, .lf (.v true)), (8, .lf (.v true))] | _ => []⟩
def cals : Cals := (Cals.cons 68 bits_Div32.sig (Cals.base tabs))
def sig : Sig := spec.sig cals T Try.f48
def F (x : Dt29 × Int × Unit) : Option (Dt29 × Int × Unit) := limF spec cals T Try.f48 x
theorem ck : CalsOk Try.prog cals := (CalsOk.cons bits_Div32.cal (CalsOk.base tabsOk))
theorem cal : CalOk Try.prog tabs 48 sig := calOk_lim' tabOk ck mix Try.func48 (by kernel_rfl) (by kernel_rfl) (by kernel_rfl) (by kernel_rfl)
def m4 (x0 : Dt29) (x1 : Int) (x6 : Dt29) (x7 : Int) (x8 : Int) : S := ⟨[(0, .one (.lf (.val false Kt29 x0))), (1, .one (.lf (.val false (.int .u32) x1))), (6, .one (.lf (.own 0))), (7, .one (.lf (.val true (.int .u32) x7))), (8, .one (.lf (.val true (.int .i64) x8)))], ⟨[some ⟨55, (.int .u32), true, true, x6⟩], []⟩⟩
def b4 (f4 : Dt29 → Int → Dt29 → Int → Int → Option (Dt29 × Int × Unit)) (x0 : Dt29) (x1 : Int) (x6 : Dt29) (x7 : Int) (x8 : Int) : Option (Dt29 × Int × Unit) :=
 let v1 := decide (x8 ≥ (0 : Int))
 bif v1 then (bif decide (0 ≤ x8) && decide (x8 < (List.length x0 : Int)) then (let v2 := List.getD x0 (Int.toNat x8) (0 : Int)
 (bits_Div32.F (x7, v2, x1, ())).bind fun y3 =>
 bif decide (0 ≤ x8) && decide (x8 < (List.length x6 : Int)) then (let v4 := List.set x6 (Int.toNat x8) y3.1
 let v5 := IntKind.i64.wrap (x8 - (1 : Int))
 f4 x0 x1 v4 y3.2.1 v5)
 else none)
 else none)
 else (some (x6, x7, ()))
def e (f4 : Dt29 → Int → Dt29 → Int → Int → Option (Dt29 × Int × Unit)) (a0 : Dt29) (a1 : Int) : Option (Dt29 × Int × Unit) :=
 let v1 := (List.length a0 : Int)
 bif decide (0 ≤ v1) && (decide (v1 ≤ v1) && (decide (Int.toNat v1 * 4 ≤ 281474976710656) && Nat.blt 0 4)) then (let v2 := List.replicate (Int.toNat v1) (0 : Int)
 let v3 := (List.length a0 : Int)
 let v4 := IntKind.i64.wrap (v3 - (1 : Int))
 f4 a0 a1 v2 (0 : Int) v4)
 else none
def L4 (k : Nat) (x0 : Dt29) (x1 : Int) (x6 : Dt29) (x7 : Int) (x8 : Int) : Option (Dt29 × Int × Unit) := heads (spec.env cals T Try.f48) (Func.pts Try.f48) k 4 (m4 x0 x1 x6 x7 x8)
theorem L4_succ (k : Nat) (x0 : Dt29) (x1 : Int) (x6 : Dt29) (x7 : Int) (x8 : Int) : L4 (k + 1) x0 x1 x6 x7 x8 = b4 (L4 k) x0 x1 x6 x7 x8 := by kernel_rfl
theorem eval (k : Nat) (a0 : Dt29) (a1 : Int) : evalF spec cals T Try.f48 k (a0, a1, ()) = e (L4 k) a0 a1 := by kernel_rfl
theorem of (k : Nat) (a0 : Dt29) (a1 : Int) {y : Dt29 × Int × Unit} (h : e (L4 k) a0 a1 = some y) : F (a0, a1, ()) = some y := limF_of k ((eval k a0 a1).trans h)
end nat_short
namespace bits_Len32
def spec : Spec := ⟨[(false, (.int .u32))], [(false, (.int .i64))], .own, fun j => match j with  | _ => []⟩
def cals : Cals := (Cals.base tabs)
def sig : Sig := spec.sig cals T Try.f73
def F (x : Int × Unit) : Option (Int × Unit) := limF spec cals T Try.f73 x
theorem ck : CalsOk Try.prog cals := (CalsOk.base tabsOk)
theorem cal : CalOk Try.prog tabs 73 sig := calOk_lim' tabOk ck mix Try.func73 (by kernel_rfl) (by kernel_rfl) (by kernel_rfl) (by kernel_rfl)
def e  (a0 : Int) : Option (Int × Unit) :=
 let v1 := decide (a0 ≥ (65536 : Int))
 bif v1 then (bif decide ((16 : Int) < 0) then none
 else (let v2 := shrI .u32 a0 (16 : Int)
 let v3 := decide (v2 ≥ (256 : Int))
 bif v3 then (bif decide ((8 : Int) < 0) then none
 else (let v4 := shrI .u32 v2 (8 : Int)
 let v5 := IntKind.i64.wrap ((16 : Int) + (8 : Int))
 let v6 := IntKind.u8.wrap v4
 bif decide (0 ≤ v6) && decide (v6 < (ByteArray.size t8 : Int)) then (let v7 := btI t8 v6
 let v8 := IntKind.i64.wrap v7
 let v9 := IntKind.i64.wrap (v5 + v8)
 some (v9, ()))
 else none))
 else (let v10 := IntKind.u8.wrap v2
 bif decide (0 ≤ v10) && decide (v10 < (ByteArray.size t8 : Int)) then (let v11 := btI t8 v10
 let v12 := IntKind.i64.wrap v11
 let v13 := IntKind.i64.wrap ((16 : Int) + v12)
 some (v13, ()))
 else none)))
 else (let v14 := decide (a0 ≥ (256 : Int))
 bif v14 then (bif decide ((8 : Int) < 0) then none
 else (let v15 := shrI .u32 a0 (8 : Int)
 let v16 := IntKind.i64.wrap ((0 : Int) + (8 : Int))
 let v17 := IntKind.u8.wrap v15
 bif decide (0 ≤ v17) && decide (v17 < (ByteArray.size t8 : Int)) then (let v18 := btI t8 v17
 let v19 := IntKind.i64.wrap v18
 let v20 := IntKind.i64.wrap (v16 + v19)
 some (v20, ()))
 else none))
 else (let v21 := IntKind.u8.wrap a0
 bif decide (0 ≤ v21) && decide (v21 < (ByteArray.size t8 : Int)) then (let v22 := btI t8 v21
 let v23 := IntKind.i64.wrap v22
 let v24 := IntKind.i64.wrap ((0 : Int) + v23)
 some (v24, ()))
 else none))
theorem eval (k : Nat) (a0 : Int) : evalF spec cals T Try.f73 k (a0, ()) = e  a0 := by kernel_rfl
theorem of (k : Nat) (a0 : Int) {y : Int × Unit} (h : e  a0 = some y) : F (a0, ()) = some y := limF_of k ((eval k a0).trans h)
end bits_Len32
namespace bits_LeadingZeros32
def spec : Spec := ⟨[(false, (.int .u32))], [(false, (.int .i64))], .own, fun j => match j with  | _ => []⟩
def cals : Cals := (Cals.cons 73 bits_Len32.sig (Cals.base tabs))
def sig : Sig := spec.sig cals T Try.f69
def F (x : Int × Unit) : Option (Int × Unit) := limF spec cals T Try.f69 x
theorem ck : CalsOk Try.prog cals := (CalsOk.cons bits_Len32.cal (CalsOk.base tabsOk))
theorem cal : CalOk Try.prog tabs 69 sig := calOk_lim' tabOk ck mix Try.func69 (by kernel_rfl) (by kernel_rfl) (by kernel_rfl) (by kernel_rfl)
def e  (a0 : Int) : Option (Int × Unit) :=
 (bits_Len32.F (a0, ())).bind fun y1 =>
 let v2 := IntKind.i64.wrap ((32 : Int) - y1.1)
 some (v2, ())
theorem eval (k : Nat) (a0 : Int) : evalF spec cals T Try.f69 k (a0, ()) = e  a0 := by kernel_rfl
theorem of (k : Nat) (a0 : Int) {y : Int × Unit} (h : e  a0 = some y) : F (a0, ()) = some y := limF_of k ((eval k a0).trans h)
end bits_LeadingZeros32
namespace nat_moved
def spec : Spec := ⟨[(false, Kt29), (false, (.int .i64))], [(false, Kt29)], .own, fun j => match j with | 3 => [(0, .lf (.z 55 (.int .u32) false)), (1, .lf (.v false)), (5, .lf (.o 55 (.int .u32) true)), (12, .lf (.v true)), (13, .lf (.v true))] | _ => []⟩
def cals : Cals := (Cals.base tabs)
def sig : Sig := spec.sig cals T Try.f70
def F (x : Dt29 × Int × Unit) : Option (Dt29 × Unit) := limF spec cals T Try.f70 x
theorem ck : CalsOk Try.prog cals := (CalsOk.base tabsOk)
theorem cal : CalOk Try.prog tabs 70 sig := calOk_lim' tabOk ck mix Try.func70 (by kernel_rfl) (by kernel_rfl) (by kernel_rfl) (by kernel_rfl)
def m3 (x0 : Dt29) (x1 : Int) (x5 : Dt29) (x12 : Int) (x13 : Int) : S := ⟨[(0, .one (.lf (.val false Kt29 x0))), (1, .one (.lf (.val false (.int .i64) x1))), (5, .one (.lf (.own 0))), (12, .one (.lf (.val true (.int .i64) x12))), (13, .one (.lf (.val true (.int .i64) x13)))], ⟨[some ⟨55, (.int .u32), true, true, x5⟩], []⟩⟩
def b3 (f3 : Dt29 → Int → Dt29 → Int → Int → Option (Dt29 × Unit)) (x0 : Dt29) (x1 : Int) (x5 : Dt29) (x12 : Int) (x13 : Int) : Option (Dt29 × Unit) :=
 let v1 := decide (x13 < x12)
 bif v1 then (bif decide (0 ≤ x13) && decide (x13 < (List.length x5 : Int)) then (let v2 := List.getD x5 (Int.toNat x13) (0 : Int)
 bif decide (0 ≤ x13) && decide (x13 < (List.length x0 : Int)) then (let v3 := List.getD x0 (Int.toNat x13) (0 : Int)
 bif decide (x1 < 0) then none
 else (let v4 := shlI .u32 v3 x1
 let v5 := bitsOp .or .u32 v2 v4
 bif decide (0 ≤ x13) && decide (x13 < (List.length x5 : Int)) then (let v6 := List.set x5 (Int.toNat x13) v5
 let v7 := IntKind.i64.wrap (x13 + (1 : Int))
 bif decide (0 ≤ x13) && decide (x13 < (List.length x0 : Int)) then (let v8 := List.getD x0 (Int.toNat x13) (0 : Int)
 let v9 := IntKind.u64.wrap v8
 let v10 := IntKind.i64.wrap ((32 : Int) - x1)
 bif decide (v10 < 0) then none
 else (let v11 := shrI .u64 v9 v10
 let v12 := IntKind.u32.wrap v11
 bif decide (0 ≤ v7) && decide (v7 < (List.length v6 : Int)) then (let v13 := List.set v6 (Int.toNat v7) v12
 let v14 := IntKind.i64.wrap (x13 + (1 : Int))
 f3 x0 x1 v13 x12 v14)
 else none))
 else none)
 else none))
 else none)
 else none)
 else (some (x5, ()))
def e (f3 : Dt29 → Int → Dt29 → Int → Int → Option (Dt29 × Unit)) (a0 : Dt29) (a1 : Int) : Option (Dt29 × Unit) :=
 let v1 := (List.length a0 : Int)
 let v2 := IntKind.i64.wrap (v1 + (1 : Int))
 bif decide (0 ≤ v2) && (decide (v2 ≤ v2) && (decide (Int.toNat v2 * 4 ≤ 281474976710656) && Nat.blt 0 4)) then (let v3 := List.replicate (Int.toNat v2) (0 : Int)
 let v4 := (List.length a0 : Int)
 f3 a0 a1 v3 v4 (0 : Int))
 else none
def L3 (k : Nat) (x0 : Dt29) (x1 : Int) (x5 : Dt29) (x12 : Int) (x13 : Int) : Option (Dt29 × Unit) := heads (spec.env cals T Try.f70) (Func.pts Try.f70) k 3 (m3 x0 x1 x5 x12 x13)
theorem L3_succ (k : Nat) (x0 : Dt29) (x1 : Int) (x5 : Dt29) (x12 : Int) (x13 : Int) : L3 (k + 1) x0 x1 x5 x12 x13 = b3 (L3 k) x0 x1 x5 x12 x13 := by kernel_rfl
theorem eval (k : Nat) (a0 : Dt29) (a1 : Int) : evalF spec cals T Try.f70 k (a0, a1, ()) = e (L3 k) a0 a1 := by kernel_rfl
theorem of (k : Nat) (a0 : Dt29) (a1 : Int) {y : Dt29 × Unit} (h : e (L3 k) a0 a1 = some y) : F (a0, a1, ()) = some y := limF_of k ((eval k a0 a1).trans h)
end nat_moved
namespace bits_Sub32
def spec : Spec := ⟨[(false, (.int .u32)), (false, (.int .u32)), (false, (.int .u32))], [(false, (.int .u32)), (false, (.int .u32))], .own, fun j => match j with  | _ => []⟩
def cals : Cals := (Cals.base tabs)
def sig : Sig := spec.sig cals T Try.f78
def F (x : Int × Int × Int × Unit) : Option (Int × Int × Unit) := limF spec cals T Try.f78 x
theorem ck : CalsOk Try.prog cals := (CalsOk.base tabsOk)
theorem cal : CalOk Try.prog tabs 78 sig := calOk_lim' tabOk ck mix Try.func78 (by kernel_rfl) (by kernel_rfl) (by kernel_rfl) (by kernel_rfl)
def e  (a0 : Int) (a1 : Int) (a2 : Int) : Option (Int × Int × Unit) :=
 let v1 := IntKind.u32.wrap (a0 - a1)
 let v2 := IntKind.u32.wrap (v1 - a2)
 let v3 := bitsOp .xor .u32 (if IntKind.u32.signed then -1 else IntKind.u32.max) a0
 let v4 := bitsOp .and .u32 v3 a1
 let v5 := bitsOp .xor .u32 a0 a1
 let v6 := bitsOp .xor .u32 (if IntKind.u32.signed then -1 else IntKind.u32.max) v5
 let v7 := bitsOp .and .u32 v6 v2
 let v8 := bitsOp .or .u32 v4 v7
 bif decide ((31 : Int) < 0) then none
 else (let v9 := shrI .u32 v8 (31 : Int)
 some (v2, v9, ()))
theorem eval (k : Nat) (a0 : Int) (a1 : Int) (a2 : Int) : evalF spec cals T Try.f78 k (a0, a1, a2, ()) = e  a0 a1 a2 := by kernel_rfl
theorem of (k : Nat) (a0 : Int) (a1 : Int) (a2 : Int) {y : Int × Int × Unit} (h : e  a0 a1 a2 = some y) : F (a0, a1, a2, ()) = some y := limF_of k ((eval k a0 a1 a2).trans h)
end bits_Sub32
namespace bits_Add32
def spec : Spec := ⟨[(false, (.int .u32)), (false, (.int .u32)), (false, (.int .u32))], [(false, (.int .u32)), (false, (.int .u32))], .own, fun j => match j with  | _ => []⟩
def cals : Cals := (Cals.base tabs)
def sig : Sig := spec.sig cals T Try.f79
def F (x : Int × Int × Int × Unit) : Option (Int × Int × Unit) := limF spec cals T Try.f79 x
theorem ck : CalsOk Try.prog cals := (CalsOk.base tabsOk)
theorem cal : CalOk Try.prog tabs 79 sig := calOk_lim' tabOk ck mix Try.func79 (by kernel_rfl) (by kernel_rfl) (by kernel_rfl) (by kernel_rfl)
def e  (a0 : Int) (a1 : Int) (a2 : Int) : Option (Int × Int × Unit) :=
 let v1 := IntKind.u64.wrap a0
 let v2 := IntKind.u64.wrap a1
 let v3 := IntKind.u64.wrap (v1 + v2)
 let v4 := IntKind.u64.wrap a2
 let v5 := IntKind.u64.wrap (v3 + v4)
 let v6 := IntKind.u32.wrap v5
 bif decide ((32 : Int) < 0) then none
 else (let v7 := shrI .u64 v5 (32 : Int)
 let v8 := IntKind.u32.wrap v7
 some (v6, v8, ()))
theorem eval (k : Nat) (a0 : Int) (a1 : Int) (a2 : Int) : evalF spec cals T Try.f79 k (a0, a1, a2, ()) = e  a0 a1 a2 := by kernel_rfl
theorem of (k : Nat) (a0 : Int) (a1 : Int) (a2 : Int) {y : Int × Int × Unit} (h : e  a0 a1 a2 = some y) : F (a0, a1, a2, ()) = some y := limF_of k ((eval k a0 a1 a2).trans h)
end bits_Add32
namespace nat_digit
def spec : IoSpec := ⟨55, (.int .u32), [(false, Kt29)], [(false, (.int .u32))], fun j => match j with | 4 => [(0, .sub true), (1, .lf (.z 55 (.int .u32) false)), (5, .lf (.v true)), (7, .lf (.v true)), (8, .lf (.v true))] | 10 => [(0, .sub true), (1, .lf (.z 55 (.int .u32) false)), (5, .lf (.v true)), (7, .lf (.v true)), (9, .lf (.v true)), (10, .lf (.v true)), (82, .lf (.v true)), (83, .lf (.v true))] | 21 => [(0, .sub true), (1, .lf (.z 55 (.int .u32) false)), (5, .lf (.v true)), (7, .lf (.v true)), (13, .lf (.v true)), (130, .lf (.v true)), (131, .lf (.v true))] | _ => []⟩
def cals : Cals := (Cals.cons 78 bits_Sub32.sig (Cals.cons 79 bits_Add32.sig (Cals.base tabs)))
def sig : IoSig := spec.sig cals T Try.f71
def F (zs : List Int) (o n : Nat) (x : Dt29 × Unit) : Option ((Int × Unit) × List Int) := limIO spec cals T Try.f71 zs o n x
theorem ck : CalsOk Try.prog cals := (CalsOk.cons bits_Sub32.cal (CalsOk.cons bits_Add32.cal (CalsOk.base tabsOk)))
theorem cal : IoOk Try.prog 71 sig := io_of' tabOk ck mix Try.func71 (by kernel_rfl) (by kernel_rfl) (by kernel_rfl) (by kernel_rfl) rfl
def m4 (x0 : Dt29) (x0_o : Nat) (x0_n : Nat) (x0_g : (Nat × Nat)) (x1 : Dt29) (x5 : Int) (x7 : Int) (x8 : Int) : S := ⟨[(0, .sub 0 x0_o x0_n (some x0_g)), (1, .one (.lf (.val false Kt29 x1))), (5, .one (.lf (.val true (.int .i64) x5))), (7, .one (.lf (.val true (.int .u64) x7))), (8, .one (.lf (.val true (.int .u64) x8)))], ⟨[some ⟨55, (.int .u32), true, true, x0⟩], []⟩⟩
def m10 (x0 : Dt29) (x0_o : Nat) (x0_n : Nat) (x0_g : (Nat × Nat)) (x1 : Dt29) (x5 : Int) (x7 : Int) (x9 : Int) (x10 : Int) (x82 : Int) (x83 : Int) : S := ⟨[(0, .sub 0 x0_o x0_n (some x0_g)), (1, .one (.lf (.val false Kt29 x1))), (5, .one (.lf (.val true (.int .i64) x5))), (7, .one (.lf (.val true (.int .u64) x7))), (9, .one (.lf (.val true (.int .u32) x9))), (10, .one (.lf (.val true (.int .u64) x10))), (82, .one (.lf (.val true (.int .i64) x82))), (83, .one (.lf (.val true (.int .i64) x83)))], ⟨[some ⟨55, (.int .u32), true, true, x0⟩], []⟩⟩
def m21 (x0 : Dt29) (x0_o : Nat) (x0_n : Nat) (x0_g : (Nat × Nat)) (x1 : Dt29) (x5 : Int) (x7 : Int) (x13 : Int) (x130 : Int) (x131 : Int) : S := ⟨[(0, .sub 0 x0_o x0_n (some x0_g)), (1, .one (.lf (.val false Kt29 x1))), (5, .one (.lf (.val true (.int .i64) x5))), (7, .one (.lf (.val true (.int .u64) x7))), (13, .one (.lf (.val true (.int .u32) x13))), (130, .one (.lf (.val true (.int .i64) x130))), (131, .one (.lf (.val true (.int .i64) x131)))], ⟨[some ⟨55, (.int .u32), true, true, x0⟩], []⟩⟩
def b4 (f4 : Dt29 → Nat → Nat → (Nat × Nat) → Dt29 → Int → Int → Int → Option ((Int × Unit) × List Int × (Nat × Nat))) (f10 : Dt29 → Nat → Nat → (Nat × Nat) → Dt29 → Int → Int → Int → Int → Int → Int → Option ((Int × Unit) × List Int × (Nat × Nat))) (f21 : Dt29 → Nat → Nat → (Nat × Nat) → Dt29 → Int → Int → Int → Int → Int → Option ((Int × Unit) × List Int × (Nat × Nat))) (x0 : Dt29) (x0_o : Nat) (x0_n : Nat) (x0_g : (Nat × Nat)) (x1 : Dt29) (x5 : Int) (x7 : Int) (x8 : Int) : Option ((Int × Unit) × List Int × (Nat × Nat)) :=
 bif decide ((32 : Int) < 0) then none
 else (let v1 := shrI .u64 x7 (32 : Int)
 let v2 := (v1 != (0 : Int))
 bif v2 then (let v3 := IntKind.u64.wrap (x7 - (1 : Int))
 let v4 := IntKind.i64.wrap (x5 - (1 : Int))
 bif decide (0 ≤ v4) && decide (v4 < (List.length x1 : Int)) then (let v5 := List.getD x1 (Int.toNat v4) (0 : Int)
 let v6 := IntKind.u64.wrap v5
 let v7 := IntKind.u64.wrap (x8 + v6)
 bif decide ((32 : Int) < 0) then none
 else (let v8 := shrI .u64 v7 (32 : Int)
 let v9 := (v8 != (0 : Int))
 bif v9 then (f10 x0 x0_o x0_n x0_g x1 x5 v3 (0 : Int) (0 : Int) x5 (0 : Int))
 else (f4 x0 x0_o x0_n x0_g x1 x5 v3 v7)))
 else none)
 else (let v10 := IntKind.i64.wrap (x5 - (2 : Int))
 bif decide (0 ≤ v10) && decide (v10 < (List.length x1 : Int)) then (let v11 := List.getD x1 (Int.toNat v10) (0 : Int)
 let v12 := IntKind.u64.wrap v11
 let v13 := IntKind.u64.wrap (x7 * v12)
 bif decide ((32 : Int) < 0) then none
 else (let v14 := shlI .u64 x8 (32 : Int)
 let v15 := IntKind.i64.wrap (x5 - (2 : Int))
 bif decide (0 ≤ v15) && decide (v15 < ((x0_n : Nat) : Int)) then (let v16 := List.getD x0 (x0_o + Int.toNat v15) (0 : Int)
 let v17 := IntKind.u64.wrap v16
 let v18 := bitsOp .or .u64 v14 v17
 let v19 := decide (v13 > v18)
 bif v19 then (let v20 := IntKind.u64.wrap (x7 - (1 : Int))
 let v21 := IntKind.i64.wrap (x5 - (1 : Int))
 bif decide (0 ≤ v21) && decide (v21 < (List.length x1 : Int)) then (let v22 := List.getD x1 (Int.toNat v21) (0 : Int)
 let v23 := IntKind.u64.wrap v22
 let v24 := IntKind.u64.wrap (x8 + v23)
 bif decide ((32 : Int) < 0) then none
 else (let v25 := shrI .u64 v24 (32 : Int)
 let v26 := (v25 != (0 : Int))
 bif v26 then (f10 x0 x0_o x0_n x0_g x1 x5 v20 (0 : Int) (0 : Int) x5 (0 : Int))
 else (f4 x0 x0_o x0_n x0_g x1 x5 v20 v24)))
 else none)
 else (f10 x0 x0_o x0_n x0_g x1 x5 x7 (0 : Int) (0 : Int) x5 (0 : Int)))
 else none))
 else none))
def b10 (f4 : Dt29 → Nat → Nat → (Nat × Nat) → Dt29 → Int → Int → Int → Option ((Int × Unit) × List Int × (Nat × Nat))) (f10 : Dt29 → Nat → Nat → (Nat × Nat) → Dt29 → Int → Int → Int → Int → Int → Int → Option ((Int × Unit) × List Int × (Nat × Nat))) (f21 : Dt29 → Nat → Nat → (Nat × Nat) → Dt29 → Int → Int → Int → Int → Int → Option ((Int × Unit) × List Int × (Nat × Nat))) (x0 : Dt29) (x0_o : Nat) (x0_n : Nat) (x0_g : (Nat × Nat)) (x1 : Dt29) (x5 : Int) (x7 : Int) (x9 : Int) (x10 : Int) (x82 : Int) (x83 : Int) : Option ((Int × Unit) × List Int × (Nat × Nat)) :=
 let v1 := decide (x83 < x82)
 bif v1 then (bif decide (0 ≤ x83) && decide (x83 < (List.length x1 : Int)) then (let v2 := List.getD x1 (Int.toNat x83) (0 : Int)
 let v3 := IntKind.u64.wrap v2
 let v4 := IntKind.u64.wrap (x7 * v3)
 let v5 := IntKind.u64.wrap (v4 + x10)
 bif decide ((32 : Int) < 0) then none
 else (let v6 := shrI .u64 v5 (32 : Int)
 bif decide (0 ≤ x83) && decide (x83 < ((x0_n : Nat) : Int)) then (let v7 := List.getD x0 (x0_o + Int.toNat x83) (0 : Int)
 let v8 := IntKind.u32.wrap v5
 (bits_Sub32.F (v7, v8, x9, ())).bind fun y9 =>
 bif decide (0 ≤ x83) && decide (x83 < ((x0_n : Nat) : Int)) then (let v10 := List.set x0 (x0_o + Int.toNat x83) y9.1
 let v11 := IntKind.i64.wrap (x83 + (1 : Int))
 f10 v10 x0_o x0_n x0_g x1 x5 x7 y9.2.1 v6 x82 v11)
 else none)
 else none))
 else none)
 else (bif decide (0 ≤ x5) && decide (x5 < ((x0_n : Nat) : Int)) then (let v12 := List.getD x0 (x0_o + Int.toNat x5) (0 : Int)
 let v13 := IntKind.u32.wrap x10
 (bits_Sub32.F (v12, v13, x9, ())).bind fun y14 =>
 bif decide (0 ≤ x5) && decide (x5 < ((x0_n : Nat) : Int)) then (let v15 := List.set x0 (x0_o + Int.toNat x5) y14.1
 let v16 := (y14.2.1 == (1 : Int))
 bif v16 then (let v17 := IntKind.u64.wrap (x7 - (1 : Int))
 f21 v15 x0_o x0_n x0_g x1 x5 v17 (0 : Int) x5 (0 : Int))
 else (let v18 := IntKind.u32.wrap x7
 bif Nat.blt 0 x0_n && true then (some ((v18, ()), v15, x0_g))
 else none))
 else none)
 else none)
def b21 (f4 : Dt29 → Nat → Nat → (Nat × Nat) → Dt29 → Int → Int → Int → Option ((Int × Unit) × List Int × (Nat × Nat))) (f10 : Dt29 → Nat → Nat → (Nat × Nat) → Dt29 → Int → Int → Int → Int → Int → Int → Option ((Int × Unit) × List Int × (Nat × Nat))) (f21 : Dt29 → Nat → Nat → (Nat × Nat) → Dt29 → Int → Int → Int → Int → Int → Option ((Int × Unit) × List Int × (Nat × Nat))) (x0 : Dt29) (x0_o : Nat) (x0_n : Nat) (x0_g : (Nat × Nat)) (x1 : Dt29) (x5 : Int) (x7 : Int) (x13 : Int) (x130 : Int) (x131 : Int) : Option ((Int × Unit) × List Int × (Nat × Nat)) :=
 let v1 := decide (x131 < x130)
 bif v1 then (bif decide (0 ≤ x131) && decide (x131 < ((x0_n : Nat) : Int)) then (let v2 := List.getD x0 (x0_o + Int.toNat x131) (0 : Int)
 bif decide (0 ≤ x131) && decide (x131 < (List.length x1 : Int)) then (let v3 := List.getD x1 (Int.toNat x131) (0 : Int)
 (bits_Add32.F (v2, v3, x13, ())).bind fun y4 =>
 bif decide (0 ≤ x131) && decide (x131 < ((x0_n : Nat) : Int)) then (let v5 := List.set x0 (x0_o + Int.toNat x131) y4.1
 let v6 := IntKind.i64.wrap (x131 + (1 : Int))
 f21 v5 x0_o x0_n x0_g x1 x5 x7 y4.2.1 x130 v6)
 else none)
 else none)
 else none)
 else (bif decide (0 ≤ x5) && decide (x5 < ((x0_n : Nat) : Int)) then (let v7 := List.getD x0 (x0_o + Int.toNat x5) (0 : Int)
 let v8 := IntKind.u32.wrap (v7 + x13)
 bif decide (0 ≤ x5) && decide (x5 < ((x0_n : Nat) : Int)) then (let v9 := List.set x0 (x0_o + Int.toNat x5) v8
 let v10 := IntKind.u32.wrap x7
 bif Nat.blt 0 x0_n && true then (some ((v10, ()), v9, x0_g))
 else none)
 else none)
 else none)
def e (f4 : Dt29 → Nat → Nat → (Nat × Nat) → Dt29 → Int → Int → Int → Option ((Int × Unit) × List Int × (Nat × Nat))) (f10 : Dt29 → Nat → Nat → (Nat × Nat) → Dt29 → Int → Int → Int → Int → Int → Int → Option ((Int × Unit) × List Int × (Nat × Nat))) (f21 : Dt29 → Nat → Nat → (Nat × Nat) → Dt29 → Int → Int → Int → Int → Int → Option ((Int × Unit) × List Int × (Nat × Nat))) (zs : List Int) (o n : Nat) (g : Nat × Nat) (a1 : Dt29) : Option ((Int × Unit) × List Int × (Nat × Nat)) :=
 let v1 := (List.length a1 : Int)
 bif decide (0 ≤ v1) && decide (v1 < ((n : Nat) : Int)) then (let v2 := List.getD zs (o + Int.toNat v1) (0 : Int)
 let v3 := IntKind.u64.wrap v2
 bif decide ((32 : Int) < 0) then none
 else (let v4 := shlI .u64 v3 (32 : Int)
 let v5 := IntKind.i64.wrap (v1 - (1 : Int))
 bif decide (0 ≤ v5) && decide (v5 < ((n : Nat) : Int)) then (let v6 := List.getD zs (o + Int.toNat v5) (0 : Int)
 let v7 := IntKind.u64.wrap v6
 let v8 := bitsOp .or .u64 v4 v7
 let v9 := IntKind.i64.wrap (v1 - (1 : Int))
 bif decide (0 ≤ v9) && decide (v9 < (List.length a1 : Int)) then (let v10 := List.getD a1 (Int.toNat v9) (0 : Int)
 let v11 := IntKind.u64.wrap v10
 bif decide (v11 = 0) then none
 else (let v12 := IntKind.u64.wrap (Int.tdiv v8 v11)
 let v13 := IntKind.i64.wrap (v1 - (1 : Int))
 bif decide (0 ≤ v13) && decide (v13 < (List.length a1 : Int)) then (let v14 := List.getD a1 (Int.toNat v13) (0 : Int)
 let v15 := IntKind.u64.wrap v14
 bif decide (v15 = 0) then none
 else (let v16 := Int.tmod v8 v15
 f4 zs o n g a1 v1 v12 v16))
 else none))
 else none)
 else none))
 else none
def L4 (k : Nat) (x0 : Dt29) (x0_o : Nat) (x0_n : Nat) (x0_g : (Nat × Nat)) (x1 : Dt29) (x5 : Int) (x7 : Int) (x8 : Int) : Option ((Int × Unit) × List Int × (Nat × Nat)) := heads (spec.env cals T Try.f71) (Func.pts Try.f71) k 4 (m4 x0 x0_o x0_n x0_g x1 x5 x7 x8)
def L10 (k : Nat) (x0 : Dt29) (x0_o : Nat) (x0_n : Nat) (x0_g : (Nat × Nat)) (x1 : Dt29) (x5 : Int) (x7 : Int) (x9 : Int) (x10 : Int) (x82 : Int) (x83 : Int) : Option ((Int × Unit) × List Int × (Nat × Nat)) := heads (spec.env cals T Try.f71) (Func.pts Try.f71) k 10 (m10 x0 x0_o x0_n x0_g x1 x5 x7 x9 x10 x82 x83)
def L21 (k : Nat) (x0 : Dt29) (x0_o : Nat) (x0_n : Nat) (x0_g : (Nat × Nat)) (x1 : Dt29) (x5 : Int) (x7 : Int) (x13 : Int) (x130 : Int) (x131 : Int) : Option ((Int × Unit) × List Int × (Nat × Nat)) := heads (spec.env cals T Try.f71) (Func.pts Try.f71) k 21 (m21 x0 x0_o x0_n x0_g x1 x5 x7 x13 x130 x131)
theorem L4_succ (k : Nat) (x0 : Dt29) (x0_o : Nat) (x0_n : Nat) (x0_g : (Nat × Nat)) (x1 : Dt29) (x5 : Int) (x7 : Int) (x8 : Int) : L4 (k + 1) x0 x0_o x0_n x0_g x1 x5 x7 x8 = b4 (L4 k) (L10 k) (L21 k) x0 x0_o x0_n x0_g x1 x5 x7 x8 := by kernel_rfl
theorem L10_succ (k : Nat) (x0 : Dt29) (x0_o : Nat) (x0_n : Nat) (x0_g : (Nat × Nat)) (x1 : Dt29) (x5 : Int) (x7 : Int) (x9 : Int) (x10 : Int) (x82 : Int) (x83 : Int) : L10 (k + 1) x0 x0_o x0_n x0_g x1 x5 x7 x9 x10 x82 x83 = b10 (L4 k) (L10 k) (L21 k) x0 x0_o x0_n x0_g x1 x5 x7 x9 x10 x82 x83 := by kernel_rfl
theorem L21_succ (k : Nat) (x0 : Dt29) (x0_o : Nat) (x0_n : Nat) (x0_g : (Nat × Nat)) (x1 : Dt29) (x5 : Int) (x7 : Int) (x13 : Int) (x130 : Int) (x131 : Int) : L21 (k + 1) x0 x0_o x0_n x0_g x1 x5 x7 x13 x130 x131 = b21 (L4 k) (L10 k) (L21 k) x0 x0_o x0_n x0_g x1 x5 x7 x13 x130 x131 := by kernel_rfl
theorem eval (k : Nat) (zs : List Int) (o n : Nat) (g : Nat × Nat) (a1 : Dt29) : evalIO spec cals T Try.f71 k zs o n g (a1, ()) = e (L4 k) (L10 k) (L21 k) zs o n g a1 := by kernel_rfl
theorem of (zs : List Int) (o n : Nat) (a1 : Dt29) (y : (Int × Unit)) (ws : List Int) (h : ∀ g, ∃ k, e (L4 k) (L10 k) (L21 k) zs o n g a1 = some (y, ws, g)) : F zs o n (a1, ()) = some (y, ws) := limIO_of (q := spec) (C := cals) (T := T) (f := Try.f71) (x := (a1, ())) y ws fun g => (h g).imp fun k hk => (eval k zs o n g a1).trans hk
end nat_digit
namespace nat_long
def spec : Spec := ⟨[(false, Kt29), (false, Kt29)], [(false, Kt29), (false, Kt29)], .own, fun j => match j with | 7 => [(6, .lf (.v true)), (7, .lf (.z 55 (.int .u32) true)), (8, .lf (.o 55 (.int .u32) true)), (9, .lf (.v true)), (10, .lf (.o 55 (.int .u32) true)), (11, .lf (.v true))] | 12 => [(6, .lf (.v true)), (8, .lf (.o 55 (.int .u32) true)), (10, .lf (.o 55 (.int .u32) true)), (12, .lf (.o 55 (.int .u32) true)), (60, .lf (.v true)), (61, .lf (.v true))] | _ => []⟩
def cals : Cals := (Cals.withSubs [54] (Cals.consIo 71 nat_digit.sig (Cals.cons 69 bits_LeadingZeros32.sig (Cals.cons 70 nat_moved.sig (Cals.cons 45 nat_own.sig (Cals.base tabs))))))
def sig : Sig := spec.sig cals T Try.f49
def F (x : Dt29 × Dt29 × Unit) : Option (Dt29 × Dt29 × Unit) := limF spec cals T Try.f49 x
theorem ck : CalsOk Try.prog cals := (CalsOk.withSubs [54] (CalsOk.consIo nat_digit.cal (CalsOk.cons bits_LeadingZeros32.cal (CalsOk.cons nat_moved.cal (CalsOk.cons nat_own.cal (CalsOk.base tabsOk))))))
theorem cal : CalOk Try.prog tabs 49 sig := calOk_lim' tabOk ck mix Try.func49 (by kernel_rfl) (by kernel_rfl) (by kernel_rfl) (by kernel_rfl)
def m7 (x6 : Int) (x7 : Dt29) (x8 : Dt29) (x9 : Int) (x10 : Dt29) (x11 : Int) : S := ⟨[(6, .one (.lf (.val true (.int .i64) x6))), (7, .one (.lf (.val true Kt29 x7))), (8, .one (.lf (.own 0))), (9, .one (.lf (.val true (.int .i64) x9))), (10, .one (.lf (.own 1))), (11, .one (.lf (.val true (.int .i64) x11)))], ⟨[some ⟨55, (.int .u32), true, true, x8⟩, some ⟨55, (.int .u32), true, true, x10⟩], []⟩⟩
def m12 (x6 : Int) (x8 : Dt29) (x10 : Dt29) (x12 : Dt29) (x60 : Int) (x61 : Int) : S := ⟨[(6, .one (.lf (.val true (.int .i64) x6))), (8, .one (.lf (.own 0))), (10, .one (.lf (.own 1))), (12, .one (.lf (.own 2))), (60, .one (.lf (.val true (.int .i64) x60))), (61, .one (.lf (.val true (.int .i64) x61)))], ⟨[some ⟨55, (.int .u32), true, true, x8⟩, some ⟨55, (.int .u32), true, true, x10⟩, some ⟨55, (.int .u32), true, true, x12⟩], []⟩⟩
def b7 (f7 : Int → Dt29 → Dt29 → Int → Dt29 → Int → Option (Dt29 × Dt29 × Unit)) (f12 : Int → Dt29 → Dt29 → Dt29 → Int → Int → Option (Dt29 × Dt29 × Unit)) (x6 : Int) (x7 : Dt29) (x8 : Dt29) (x9 : Int) (x10 : Dt29) (x11 : Int) : Option (Dt29 × Dt29 × Unit) :=
 let v1 := decide (x11 ≥ (0 : Int))
 bif v1 then (let v2 := IntKind.i64.wrap (x11 + x9)
 let v3 := IntKind.i64.wrap (v2 + (1 : Int))
 bif decide (0 ≤ x11) && (decide (x11 ≤ v3) && decide (v3 ≤ (List.length x8 : Int))) then (bif Nat.blt 0 (Int.toNat (v3 - x11)) && true then ((nat_digit.F x8 (Int.toNat x11) (Int.toNat (v3 - x11)) (x7, ())).bind fun y4 =>
 bif Nat.beq (List.length y4.2) (List.length x8) then (bif decide (0 ≤ x11) && decide (x11 < (List.length x10 : Int)) then (let v5 := List.set x10 (Int.toNat x11) y4.1.1
 let v6 := IntKind.i64.wrap (x11 - (1 : Int))
 f7 x6 x7 y4.2 x9 v5 v6)
 else none)
 else none)
 else none)
 else none)
 else (bif decide (0 ≤ x9) && (decide (x9 ≤ x9) && (decide (Int.toNat x9 * 4 ≤ 281474976710656) && Nat.blt 0 4)) then (let v7 := List.replicate (Int.toNat x9) (0 : Int)
 f12 x6 x8 x10 v7 x9 (0 : Int))
 else none)
def b12 (f7 : Int → Dt29 → Dt29 → Int → Dt29 → Int → Option (Dt29 × Dt29 × Unit)) (f12 : Int → Dt29 → Dt29 → Dt29 → Int → Int → Option (Dt29 × Dt29 × Unit)) (x6 : Int) (x8 : Dt29) (x10 : Dt29) (x12 : Dt29) (x60 : Int) (x61 : Int) : Option (Dt29 × Dt29 × Unit) :=
 let v1 := decide (x61 < x60)
 bif v1 then (bif decide (0 ≤ x61) && decide (x61 < (List.length x8 : Int)) then (let v2 := List.getD x8 (Int.toNat x61) (0 : Int)
 bif decide (x6 < 0) then none
 else (let v3 := shrI .u32 v2 x6
 let v4 := IntKind.i64.wrap (x61 + (1 : Int))
 bif decide (0 ≤ v4) && decide (v4 < (List.length x8 : Int)) then (let v5 := List.getD x8 (Int.toNat v4) (0 : Int)
 let v6 := IntKind.u64.wrap v5
 let v7 := IntKind.i64.wrap ((32 : Int) - x6)
 bif decide (v7 < 0) then none
 else (let v8 := shlI .u64 v6 v7
 let v9 := IntKind.u32.wrap v8
 let v10 := bitsOp .or .u32 v3 v9
 bif decide (0 ≤ x61) && decide (x61 < (List.length x12 : Int)) then (let v11 := List.set x12 (Int.toNat x61) v10
 let v12 := IntKind.i64.wrap (x61 + (1 : Int))
 f12 x6 x8 x10 v11 x60 v12)
 else none))
 else none))
 else none)
 else ((nat_own.F (x10, ())).bind fun y13 =>
 (nat_own.F (x12, ())).bind fun y14 =>
 some (y13.1, y14.1, ()))
def e (f7 : Int → Dt29 → Dt29 → Int → Dt29 → Int → Option (Dt29 × Dt29 × Unit)) (f12 : Int → Dt29 → Dt29 → Dt29 → Int → Int → Option (Dt29 × Dt29 × Unit)) (a0 : Dt29) (a1 : Dt29) : Option (Dt29 × Dt29 × Unit) :=
 let v1 := (List.length a1 : Int)
 let v2 := IntKind.i64.wrap (v1 - (1 : Int))
 bif decide (0 ≤ v2) && decide (v2 < (List.length a1 : Int)) then (let v3 := List.getD a1 (Int.toNat v2) (0 : Int)
 (bits_LeadingZeros32.F (v3, ())).bind fun y4 =>
 (nat_moved.F (a1, y4.1, ())).bind fun y5 =>
 let v6 := (List.length a1 : Int)
 bif decide (0 ≤ v6) && decide (v6 ≤ (List.length y5.1 : Int)) then (let v7 := List.take (Int.toNat v6) y5.1
 (nat_moved.F (a0, y4.1, ())).bind fun y8 =>
 let v9 := (List.length v7 : Int)
 let v10 := (List.length y8.1 : Int)
 let v11 := IntKind.i64.wrap (v10 - v9)
 bif decide (0 ≤ v11) && (decide (v11 ≤ v11) && (decide (Int.toNat v11 * 4 ≤ 281474976710656) && Nat.blt 0 4)) then (let v12 := List.replicate (Int.toNat v11) (0 : Int)
 let v13 := (List.length y8.1 : Int)
 let v14 := IntKind.i64.wrap (v13 - v9)
 let v15 := IntKind.i64.wrap (v14 - (1 : Int))
 f7 y4.1 v7 y8.1 v9 v12 v15)
 else none)
 else none)
 else none
def L7 (k : Nat) (x6 : Int) (x7 : Dt29) (x8 : Dt29) (x9 : Int) (x10 : Dt29) (x11 : Int) : Option (Dt29 × Dt29 × Unit) := heads (spec.env cals T Try.f49) (Func.pts Try.f49) k 7 (m7 x6 x7 x8 x9 x10 x11)
def L12 (k : Nat) (x6 : Int) (x8 : Dt29) (x10 : Dt29) (x12 : Dt29) (x60 : Int) (x61 : Int) : Option (Dt29 × Dt29 × Unit) := heads (spec.env cals T Try.f49) (Func.pts Try.f49) k 12 (m12 x6 x8 x10 x12 x60 x61)
theorem L7_succ (k : Nat) (x6 : Int) (x7 : Dt29) (x8 : Dt29) (x9 : Int) (x10 : Dt29) (x11 : Int) : L7 (k + 1) x6 x7 x8 x9 x10 x11 = b7 (L7 k) (L12 k) x6 x7 x8 x9 x10 x11 := by kernel_rfl
theorem L12_succ (k : Nat) (x6 : Int) (x8 : Dt29) (x10 : Dt29) (x12 : Dt29) (x60 : Int) (x61 : Int) : L12 (k + 1) x6 x8 x10 x12 x60 x61 = b12 (L7 k) (L12 k) x6 x8 x10 x12 x60 x61 := by kernel_rfl
theorem eval (k : Nat) (a0 : Dt29) (a1 : Dt29) : evalF spec cals T Try.f49 k (a0, a1, ()) = e (L7 k) (L12 k) a0 a1 := by kernel_rfl
theorem of (k : Nat) (a0 : Dt29) (a1 : Dt29) {y : Dt29 × Dt29 × Unit} (h : e (L7 k) (L12 k) a0 a1 = some y) : F (a0, a1, ()) = some y := limF_of k ((eval k a0 a1).trans h)
end nat_long
namespace nat_Div
def spec : Spec := ⟨[(false, Kt29), (false, Kt29)], [(false, Kt29), (false, Kt29), (false, (.int .i64))], .own, fun j => match j with  | _ => []⟩
def cals : Cals := (Cals.cons 46 nat_trim.sig (Cals.cons 47 nat_Cmp.sig (Cals.cons 45 nat_own.sig (Cals.cons 48 nat_short.sig (Cals.cons 49 nat_long.sig (Cals.base tabs))))))
def sig : Sig := spec.sig cals T Try.f23
def F (x : Dt29 × Dt29 × Unit) : Option (Dt29 × Dt29 × Int × Unit) := limF spec cals T Try.f23 x
theorem ck : CalsOk Try.prog cals := (CalsOk.cons nat_trim.cal (CalsOk.cons nat_Cmp.cal (CalsOk.cons nat_own.cal (CalsOk.cons nat_short.cal (CalsOk.cons nat_long.cal (CalsOk.base tabsOk))))))
theorem cal : CalOk Try.prog tabs 23 sig := calOk_lim' tabOk ck mix Try.func23 (by kernel_rfl) (by kernel_rfl) (by kernel_rfl) (by kernel_rfl)
def e  (a0 : Dt29) (a1 : Dt29) : Option (Dt29 × Dt29 × Int × Unit) :=
 (nat_trim.F (a0, ())).bind fun y1 =>
 (nat_trim.F (a1, ())).bind fun y2 =>
 let v3 := (List.length y2.1 : Int)
 let v4 := (v3 == (0 : Int))
 bif v4 then (some (zt29, zt29, (11 : Int), ()))
 else ((nat_Cmp.F (y1.1, y2.1, ())).bind fun y5 =>
 let v6 := decide (y5.1 < (0 : Int))
 bif v6 then ((nat_own.F (y1.1, ())).bind fun y7 =>
 some (zt29, y7.1, (0 : Int), ()))
 else (let v8 := (List.length y2.1 : Int)
 let v9 := (v8 == (1 : Int))
 bif v9 then (bif decide (0 ≤ (0 : Int)) && decide ((0 : Int) < (List.length y2.1 : Int)) then (let v10 := List.getD y2.1 (Int.toNat (0 : Int)) (0 : Int)
 (nat_short.F (y1.1, v10, ())).bind fun y11 =>
 (nat_own.F (y11.1, ())).bind fun y12 =>
 let v13 := ([y11.2.1] : List Int)
 (nat_own.F (v13, ())).bind fun y14 =>
 some (y12.1, y14.1, (0 : Int), ()))
 else none)
 else ((nat_long.F (y1.1, y2.1, ())).bind fun y15 =>
 some (y15.1, y15.2.1, (0 : Int), ()))))
theorem eval (k : Nat) (a0 : Dt29) (a1 : Dt29) : evalF spec cals T Try.f23 k (a0, a1, ()) = e  a0 a1 := by kernel_rfl
theorem of (k : Nat) (a0 : Dt29) (a1 : Dt29) {y : Dt29 × Dt29 × Int × Unit} (h : e  a0 a1 = some y) : F (a0, a1, ()) = some y := limF_of k ((eval k a0 a1).trans h)
end nat_Div
namespace nat_Gcd
def spec : Spec := ⟨[(false, Kt29), (false, Kt29)], [(false, Kt29)], .own, fun j => match j with | 2 => [(0, .lf (.o 55 (.int .u32) true)), (1, .lf (.o 55 (.int .u32) true))] | _ => []⟩
def cals : Cals := (Cals.cons 45 nat_own.sig (Cals.cons 23 nat_Div.sig (Cals.base tabs)))
def sig : Sig := spec.sig cals T Try.f22
def F (x : Dt29 × Dt29 × Unit) : Option (Dt29 × Unit) := limF spec cals T Try.f22 x
theorem ck : CalsOk Try.prog cals := (CalsOk.cons nat_own.cal (CalsOk.cons nat_Div.cal (CalsOk.base tabsOk)))
theorem cal : CalOk Try.prog tabs 22 sig := calOk_lim' tabOk ck mix Try.func22 (by kernel_rfl) (by kernel_rfl) (by kernel_rfl) (by kernel_rfl)
def m2 (x0 : Dt29) (x1 : Dt29) : S := ⟨[(0, .one (.lf (.own 0))), (1, .one (.lf (.own 1)))], ⟨[some ⟨55, (.int .u32), true, true, x0⟩, some ⟨55, (.int .u32), true, true, x1⟩], []⟩⟩
def b2 (f2 : Dt29 → Dt29 → Option (Dt29 × Unit)) (x0 : Dt29) (x1 : Dt29) : Option (Dt29 × Unit) :=
 let v1 := (List.length x1 : Int)
 let v2 := decide (v1 > (0 : Int))
 bif v2 then ((nat_Div.F (x0, x1, ())).bind fun y3 =>
 f2 x1 y3.2.1)
 else (some (x0, ()))
def e (f2 : Dt29 → Dt29 → Option (Dt29 × Unit)) (a0 : Dt29) (a1 : Dt29) : Option (Dt29 × Unit) :=
 (nat_own.F (a0, ())).bind fun y1 =>
 (nat_own.F (a1, ())).bind fun y2 =>
 f2 y1.1 y2.1
def L2 (k : Nat) (x0 : Dt29) (x1 : Dt29) : Option (Dt29 × Unit) := heads (spec.env cals T Try.f22) (Func.pts Try.f22) k 2 (m2 x0 x1)
theorem L2_succ (k : Nat) (x0 : Dt29) (x1 : Dt29) : L2 (k + 1) x0 x1 = b2 (L2 k) x0 x1 := by kernel_rfl
theorem eval (k : Nat) (a0 : Dt29) (a1 : Dt29) : evalF spec cals T Try.f22 k (a0, a1, ()) = e (L2 k) a0 a1 := by kernel_rfl
theorem of (k : Nat) (a0 : Dt29) (a1 : Dt29) {y : Dt29 × Unit} (h : e (L2 k) a0 a1 = some y) : F (a0, a1, ()) = some y := limF_of k ((eval k a0 a1).trans h)
end nat_Gcd
namespace nat_Norm
def spec : Spec := ⟨[(false, Kt29)], [(false, Kt29)], .own, fun j => match j with  | _ => []⟩
def cals : Cals := (Cals.cons 45 nat_own.sig (Cals.base tabs))
def sig : Sig := spec.sig cals T Try.f75
def F (x : Dt29 × Unit) : Option (Dt29 × Unit) := limF spec cals T Try.f75 x
theorem ck : CalsOk Try.prog cals := (CalsOk.cons nat_own.cal (CalsOk.base tabsOk))
theorem cal : CalOk Try.prog tabs 75 sig := calOk_lim' tabOk ck mix Try.func75 (by kernel_rfl) (by kernel_rfl) (by kernel_rfl) (by kernel_rfl)
def e  (a0 : Dt29) : Option (Dt29 × Unit) :=
 (nat_own.F (a0, ())).bind fun y1 =>
 some (y1.1, ())
theorem eval (k : Nat) (a0 : Dt29) : evalF spec cals T Try.f75 k (a0, ()) = e  a0 := by kernel_rfl
theorem of (k : Nat) (a0 : Dt29) {y : Dt29 × Unit} (h : e  a0 = some y) : F (a0, ()) = some y := limF_of k ((eval k a0).trans h)
end nat_Norm
namespace whole_signed
def spec : Spec := ⟨[(false, Kt29), (false, Kt108)], [(true, Kt31)], .own, fun j => match j with | 4 => [(0, .lf (.o 55 (.int .u32) true)), (4, .box 31 [.v true, .v true]), (5, .lf (.v true)), (10, .lf (.z 3 (.int .i64) false)), (11, .lf (.v true)), (12, .lf (.v true))] | _ => []⟩
def cals : Cals := (Cals.cons 75 nat_Norm.sig (Cals.base tabs))
def sig : Sig := spec.sig cals T Try.f56
def F (x : Dt29 × Dt29 × Unit) : Option (Dt31 × Unit) := limF spec cals T Try.f56 x
theorem ck : CalsOk Try.prog cals := (CalsOk.cons nat_Norm.cal (CalsOk.base tabsOk))
theorem cal : CalOk Try.prog tabs 56 sig := calOk_lim' tabOk ck mix Try.func56 (by kernel_rfl) (by kernel_rfl) (by kernel_rfl) (by kernel_rfl)
def m4 (x0 : Dt29) (x4_0 : Bool) (x5 : Int) (x10 : Dt29) (x11 : Int) (x12 : Int) : S := ⟨[(0, .one (.lf (.own 0))), (4, .box 0 0), (5, .one (.lf (.val true (.int .i64) x5))), (10, .one (.lf (.val false Kt108 x10))), (11, .one (.lf (.val true (.int .i64) x11))), (12, .one (.lf (.val true (.int .i64) x12)))], ⟨[some ⟨55, (.int .u32), true, true, x0⟩], [some ⟨31, [.val true .bool x4_0, .nil]⟩]⟩⟩
def b4 (f4 : Dt29 → Bool → Int → Dt29 → Int → Int → Option (Dt31 × Unit)) (x0 : Dt29) (x4_0 : Bool) (x5 : Int) (x10 : Dt29) (x11 : Int) (x12 : Int) : Option (Dt31 × Unit) :=
 let v1 := decide (x12 < x11)
 bif v1 then (bif decide (0 ≤ x12) && decide (x12 < (List.length x10 : Int)) then (let v2 := List.getD x10 (Int.toNat x12) (0 : Int)
 let v3 := IntKind.i64.wrap (x5 * v2)
 let v4 := IntKind.i64.wrap (x12 + (1 : Int))
 f4 x0 x4_0 v3 x10 x11 v4)
 else none)
 else (let v5 := decide (x5 < (0 : Int))
 bif v5 then (let v6 := (List.length x0 : Int)
 let v7 := decide (v6 > (0 : Int))
 some ((v7, x0), ()))
 else (some ((false, x0), ())))
def e (f4 : Dt29 → Bool → Int → Dt29 → Int → Int → Option (Dt31 × Unit)) (a0 : Dt29) (a1 : Dt29) : Option (Dt31 × Unit) :=
 (nat_Norm.F (a0, ())).bind fun y1 =>
 let v2 := (List.length a1 : Int)
 f4 y1.1 false (1 : Int) a1 v2 (0 : Int)
def L4 (k : Nat) (x0 : Dt29) (x4_0 : Bool) (x5 : Int) (x10 : Dt29) (x11 : Int) (x12 : Int) : Option (Dt31 × Unit) := heads (spec.env cals T Try.f56) (Func.pts Try.f56) k 4 (m4 x0 x4_0 x5 x10 x11 x12)
theorem L4_succ (k : Nat) (x0 : Dt29) (x4_0 : Bool) (x5 : Int) (x10 : Dt29) (x11 : Int) (x12 : Int) : L4 (k + 1) x0 x4_0 x5 x10 x11 x12 = b4 (L4 k) x0 x4_0 x5 x10 x11 x12 := by kernel_rfl
theorem eval (k : Nat) (a0 : Dt29) (a1 : Dt29) : evalF spec cals T Try.f56 k (a0, a1, ()) = e (L4 k) a0 a1 := by kernel_rfl
theorem of (k : Nat) (a0 : Dt29) (a1 : Dt29) {y : Dt31 × Unit} (h : e (L4 k) a0 a1 = some y) : F (a0, a1, ()) = some y := limF_of k ((eval k a0 a1).trans h)
end whole_signed
namespace whole_Norm
def spec : Spec := ⟨[(true, Kt31)], [(true, Kt31)], .own, fun j => match j with  | _ => []⟩
def cals : Cals := (Cals.cons 28 whole_Sign.sig (Cals.cons 56 whole_signed.sig (Cals.base tabs)))
def sig : Sig := spec.sig cals T Try.f72
def F (x : Dt31 × Unit) : Option (Dt31 × Unit) := limF spec cals T Try.f72 x
theorem ck : CalsOk Try.prog cals := (CalsOk.cons whole_Sign.cal (CalsOk.cons whole_signed.cal (CalsOk.base tabsOk)))
theorem cal : CalOk Try.prog tabs 72 sig := calOk_lim' tabOk ck mix Try.func72 (by kernel_rfl) (by kernel_rfl) (by kernel_rfl) (by kernel_rfl)
def e  (a0 : Dt31) : Option (Dt31 × Unit) :=
 (whole_Sign.F ((a0.1, a0.2), ())).bind fun y1 =>
 let v2 := ([y1.1] : List Int)
 (whole_signed.F (a0.2, v2, ())).bind fun y3 =>
 some ((y3.1.1, y3.1.2), ())
theorem eval (k : Nat) (a0 : Dt31) : evalF spec cals T Try.f72 k (a0, ()) = e  a0 := by kernel_rfl
theorem of (k : Nat) (a0 : Dt31) {y : Dt31 × Unit} (h : e  a0 = some y) : F (a0, ()) = some y := limF_of k ((eval k a0).trans h)
end whole_Norm
namespace ratio_made
def spec : Spec := ⟨[(true, Kt31), (false, Kt29)], [(true, Kt33)], .own, fun j => match j with  | _ => []⟩
def cals : Cals := (Cals.cons 22 nat_Gcd.sig (Cals.cons 23 nat_Div.sig (Cals.cons 72 whole_Norm.sig (Cals.base tabs))))
def sig : Sig := spec.sig cals T Try.f50
def F (x : Dt31 × Dt29 × Unit) : Option (Dt33 × Unit) := limF spec cals T Try.f50 x
theorem ck : CalsOk Try.prog cals := (CalsOk.cons nat_Gcd.cal (CalsOk.cons nat_Div.cal (CalsOk.cons whole_Norm.cal (CalsOk.base tabsOk))))
theorem cal : CalOk Try.prog tabs 50 sig := calOk_lim' tabOk ck mix Try.func50 (by kernel_rfl) (by kernel_rfl) (by kernel_rfl) (by kernel_rfl)
def e  (a0 : Dt31) (a1 : Dt29) : Option (Dt33 × Unit) :=
 (nat_Gcd.F (a0.2, a1, ())).bind fun y1 =>
 (nat_Div.F (a0.2, y1.1, ())).bind fun y2 =>
 (nat_Div.F (a1, y1.1, ())).bind fun y3 =>
 (whole_Norm.F ((a0.1, y2.1), ())).bind fun y4 =>
 some (((y4.1.1, y4.1.2), y3.1), ())
theorem eval (k : Nat) (a0 : Dt31) (a1 : Dt29) : evalF spec cals T Try.f50 k (a0, a1, ()) = e  a0 a1 := by kernel_rfl
theorem of (k : Nat) (a0 : Dt31) (a1 : Dt29) {y : Dt33 × Unit} (h : e  a0 a1 = some y) : F (a0, a1, ()) = some y := limF_of k ((eval k a0 a1).trans h)
end ratio_made
namespace nat_Bits
def spec : Spec := ⟨[(false, Kt29)], [(false, (.int .i64))], .own, fun j => match j with  | _ => []⟩
def cals : Cals := (Cals.cons 46 nat_trim.sig (Cals.cons 73 bits_Len32.sig (Cals.base tabs)))
def sig : Sig := spec.sig cals T Try.f52
def F (x : Dt29 × Unit) : Option (Int × Unit) := limF spec cals T Try.f52 x
theorem ck : CalsOk Try.prog cals := (CalsOk.cons nat_trim.cal (CalsOk.cons bits_Len32.cal (CalsOk.base tabsOk)))
theorem cal : CalOk Try.prog tabs 52 sig := calOk_lim' tabOk ck mix Try.func52 (by kernel_rfl) (by kernel_rfl) (by kernel_rfl) (by kernel_rfl)
def e  (a0 : Dt29) : Option (Int × Unit) :=
 (nat_trim.F (a0, ())).bind fun y1 =>
 let v2 := (List.length y1.1 : Int)
 let v3 := (v2 == (0 : Int))
 bif v3 then (some ((0 : Int), ()))
 else (let v4 := (List.length y1.1 : Int)
 let v5 := IntKind.i64.wrap (v4 - (1 : Int))
 let v6 := IntKind.i64.wrap ((32 : Int) * v5)
 let v7 := (List.length y1.1 : Int)
 let v8 := IntKind.i64.wrap (v7 - (1 : Int))
 bif decide (0 ≤ v8) && decide (v8 < (List.length y1.1 : Int)) then (let v9 := List.getD y1.1 (Int.toNat v8) (0 : Int)
 (bits_Len32.F (v9, ())).bind fun y10 =>
 let v11 := IntKind.i64.wrap (v6 + y10.1)
 some (v11, ()))
 else none)
theorem eval (k : Nat) (a0 : Dt29) : evalF spec cals T Try.f52 k (a0, ()) = e  a0 := by kernel_rfl
theorem of (k : Nat) (a0 : Dt29) {y : Int × Unit} (h : e  a0 = some y) : F (a0, ()) = some y := limF_of k ((eval k a0).trans h)
end nat_Bits
namespace ratio_Norm
def spec : Spec := ⟨[(true, Kt33)], [(true, Kt33)], .own, fun j => match j with  | _ => []⟩
def cals : Cals := (Cals.cons 52 nat_Bits.sig (Cals.cons 50 ratio_made.sig (Cals.base tabs)))
def sig : Sig := spec.sig cals T Try.f29
def F (x : Dt33 × Unit) : Option (Dt33 × Unit) := limF spec cals T Try.f29 x
theorem ck : CalsOk Try.prog cals := (CalsOk.cons nat_Bits.cal (CalsOk.cons ratio_made.cal (CalsOk.base tabsOk)))
theorem cal : CalOk Try.prog tabs 29 sig := calOk_lim' tabOk ck mix Try.func29 (by kernel_rfl) (by kernel_rfl) (by kernel_rfl) (by kernel_rfl)
def e  (a0 : Dt33) : Option (Dt33 × Unit) :=
 (nat_Bits.F (a0.2, ())).bind fun y1 =>
 let v2 := (y1.1 == (0 : Int))
 bif v2 then (let v3 := ([(1 : Int)] : List Int)
 some ((zt31, v3), ()))
 else ((ratio_made.F ((a0.1.1, a0.1.2), a0.2, ())).bind fun y4 =>
 some (((y4.1.1.1, y4.1.1.2), y4.1.2), ()))
theorem eval (k : Nat) (a0 : Dt33) : evalF spec cals T Try.f29 k (a0, ()) = e  a0 := by kernel_rfl
theorem of (k : Nat) (a0 : Dt33) {y : Dt33 × Unit} (h : e  a0 = some y) : F (a0, ()) = some y := limF_of k ((eval k a0).trans h)
end ratio_Norm
namespace ratio_Sign
def spec : Spec := ⟨[(true, Kt33)], [(false, (.int .i64))], .own, fun j => match j with  | _ => []⟩
def cals : Cals := (Cals.cons 29 ratio_Norm.sig (Cals.cons 28 whole_Sign.sig (Cals.base tabs)))
def sig : Sig := spec.sig cals T Try.f10
def F (x : Dt33 × Unit) : Option (Int × Unit) := limF spec cals T Try.f10 x
theorem ck : CalsOk Try.prog cals := (CalsOk.cons ratio_Norm.cal (CalsOk.cons whole_Sign.cal (CalsOk.base tabsOk)))
theorem cal : CalOk Try.prog tabs 10 sig := calOk_lim' tabOk ck mix Try.func10 (by kernel_rfl) (by kernel_rfl) (by kernel_rfl) (by kernel_rfl)
def e  (a0 : Dt33) : Option (Int × Unit) :=
 (ratio_Norm.F (((a0.1.1, a0.1.2), a0.2), ())).bind fun y1 =>
 (whole_Sign.F ((y1.1.1.1, y1.1.1.2), ())).bind fun y2 =>
 some (y2.1, ())
theorem eval (k : Nat) (a0 : Dt33) : evalF spec cals T Try.f10 k (a0, ()) = e  a0 := by kernel_rfl
theorem of (k : Nat) (a0 : Dt33) {y : Int × Unit} (h : e  a0 = some y) : F (a0, ()) = some y := limF_of k ((eval k a0).trans h)
end ratio_Sign
namespace linear_byVar
def spec : Spec := ⟨[(true, Kt36), (true, Kt36)], [(false, (.int .i64))], .own, fun j => match j with  | _ => []⟩
def cals : Cals := (Cals.base tabs)
def sig : Sig := spec.sig cals T Try.f66
def F (x : Dt36 × Dt36 × Unit) : Option (Int × Unit) := limF spec cals T Try.f66 x
theorem ck : CalsOk Try.prog cals := (CalsOk.base tabsOk)
theorem cal : CalOk Try.prog tabs 66 sig := calOk_lim' tabOk ck mix Try.func66 (by kernel_rfl) (by kernel_rfl) (by kernel_rfl) (by kernel_rfl)
def e  (a0 : Dt36) (a1 : Dt36) : Option (Int × Unit) :=
 let v1 := decide (a0.1 < a1.1)
 bif v1 then (some ((-1 : Int), ()))
 else (let v2 := decide (a0.1 > a1.1)
 bif v2 then (some ((1 : Int), ()))
 else (some ((0 : Int), ())))
theorem eval (k : Nat) (a0 : Dt36) (a1 : Dt36) : evalF spec cals T Try.f66 k (a0, a1, ()) = e  a0 a1 := by kernel_rfl
theorem of (k : Nat) (a0 : Dt36) (a1 : Dt36) {y : Int × Unit} (h : e  a0 a1 = some y) : F (a0, a1, ()) = some y := limF_of k ((eval k a0 a1).trans h)
end linear_byVar
namespace nat_Mul
def spec : Spec := ⟨[(false, Kt29), (false, Kt29)], [(false, Kt29)], .own, fun j => match j with | 4 => [(0, .lf (.z 55 (.int .u32) false)), (1, .lf (.z 55 (.int .u32) false)), (5, .lf (.o 55 (.int .u32) true)), (21, .lf (.v true)), (22, .lf (.v true))] | 8 => [(0, .lf (.z 55 (.int .u32) false)), (1, .lf (.z 55 (.int .u32) false)), (5, .lf (.o 55 (.int .u32) true)), (6, .lf (.v true)), (7, .lf (.v true)), (21, .lf (.v true)), (22, .lf (.v true)), (26, .lf (.v true)), (27, .lf (.v true))] | _ => []⟩
def cals : Cals := (Cals.cons 46 nat_trim.sig (Cals.cons 45 nat_own.sig (Cals.base tabs)))
def sig : Sig := spec.sig cals T Try.f24
def F (x : Dt29 × Dt29 × Unit) : Option (Dt29 × Unit) := limF spec cals T Try.f24 x
theorem ck : CalsOk Try.prog cals := (CalsOk.cons nat_trim.cal (CalsOk.cons nat_own.cal (CalsOk.base tabsOk)))
theorem cal : CalOk Try.prog tabs 24 sig := calOk_lim' tabOk ck mix Try.func24 (by kernel_rfl) (by kernel_rfl) (by kernel_rfl) (by kernel_rfl)
def m4 (x0 : Dt29) (x1 : Dt29) (x5 : Dt29) (x21 : Int) (x22 : Int) : S := ⟨[(0, .one (.lf (.val false Kt29 x0))), (1, .one (.lf (.val false Kt29 x1))), (5, .one (.lf (.own 0))), (21, .one (.lf (.val true (.int .i64) x21))), (22, .one (.lf (.val true (.int .i64) x22)))], ⟨[some ⟨55, (.int .u32), true, true, x5⟩], []⟩⟩
def m8 (x0 : Dt29) (x1 : Dt29) (x5 : Dt29) (x6 : Int) (x7 : Int) (x21 : Int) (x22 : Int) (x26 : Int) (x27 : Int) : S := ⟨[(0, .one (.lf (.val false Kt29 x0))), (1, .one (.lf (.val false Kt29 x1))), (5, .one (.lf (.own 0))), (6, .one (.lf (.val true (.int .i64) x6))), (7, .one (.lf (.val true (.int .u64) x7))), (21, .one (.lf (.val true (.int .i64) x21))), (22, .one (.lf (.val true (.int .i64) x22))), (26, .one (.lf (.val true (.int .i64) x26))), (27, .one (.lf (.val true (.int .i64) x27)))], ⟨[some ⟨55, (.int .u32), true, true, x5⟩], []⟩⟩
def b4 (f4 : Dt29 → Dt29 → Dt29 → Int → Int → Option (Dt29 × Unit)) (f8 : Dt29 → Dt29 → Dt29 → Int → Int → Int → Int → Int → Int → Option (Dt29 × Unit)) (x0 : Dt29) (x1 : Dt29) (x5 : Dt29) (x21 : Int) (x22 : Int) : Option (Dt29 × Unit) :=
 let v1 := decide (x22 < x21)
 bif v1 then (let v2 := (List.length x1 : Int)
 f8 x0 x1 x5 x22 (0 : Int) x21 x22 v2 (0 : Int))
 else ((nat_own.F (x5, ())).bind fun y3 =>
 some (y3.1, ()))
def b8 (f4 : Dt29 → Dt29 → Dt29 → Int → Int → Option (Dt29 × Unit)) (f8 : Dt29 → Dt29 → Dt29 → Int → Int → Int → Int → Int → Int → Option (Dt29 × Unit)) (x0 : Dt29) (x1 : Dt29) (x5 : Dt29) (x6 : Int) (x7 : Int) (x21 : Int) (x22 : Int) (x26 : Int) (x27 : Int) : Option (Dt29 × Unit) :=
 let v1 := decide (x27 < x26)
 bif v1 then (bif decide (0 ≤ x6) && decide (x6 < (List.length x0 : Int)) then (let v2 := List.getD x0 (Int.toNat x6) (0 : Int)
 let v3 := IntKind.u64.wrap v2
 bif decide (0 ≤ x27) && decide (x27 < (List.length x1 : Int)) then (let v4 := List.getD x1 (Int.toNat x27) (0 : Int)
 let v5 := IntKind.u64.wrap v4
 let v6 := IntKind.u64.wrap (v3 * v5)
 let v7 := IntKind.i64.wrap (x6 + x27)
 bif decide (0 ≤ v7) && decide (v7 < (List.length x5 : Int)) then (let v8 := List.getD x5 (Int.toNat v7) (0 : Int)
 let v9 := IntKind.u64.wrap v8
 let v10 := IntKind.u64.wrap (v6 + v9)
 let v11 := IntKind.u64.wrap (v10 + x7)
 let v12 := IntKind.i64.wrap (x6 + x27)
 let v13 := IntKind.u32.wrap v11
 bif decide (0 ≤ v12) && decide (v12 < (List.length x5 : Int)) then (let v14 := List.set x5 (Int.toNat v12) v13
 bif decide ((32 : Int) < 0) then none
 else (let v15 := shrI .u64 v11 (32 : Int)
 let v16 := IntKind.i64.wrap (x27 + (1 : Int))
 f8 x0 x1 v14 x6 v15 x21 x22 x26 v16))
 else none)
 else none)
 else none)
 else none)
 else (let v17 := (List.length x1 : Int)
 let v18 := IntKind.i64.wrap (x6 + v17)
 let v19 := IntKind.u32.wrap x7
 bif decide (0 ≤ v18) && decide (v18 < (List.length x5 : Int)) then (let v20 := List.set x5 (Int.toNat v18) v19
 let v21 := IntKind.i64.wrap (x22 + (1 : Int))
 f4 x0 x1 v20 x21 v21)
 else none)
def e (f4 : Dt29 → Dt29 → Dt29 → Int → Int → Option (Dt29 × Unit)) (f8 : Dt29 → Dt29 → Dt29 → Int → Int → Int → Int → Int → Int → Option (Dt29 × Unit)) (a0 : Dt29) (a1 : Dt29) : Option (Dt29 × Unit) :=
 (nat_trim.F (a0, ())).bind fun y1 =>
 (nat_trim.F (a1, ())).bind fun y2 =>
 let v3 := (List.length y1.1 : Int)
 let v4 := (List.length y2.1 : Int)
 let v5 := IntKind.i64.wrap (v3 + v4)
 bif decide (0 ≤ v5) && (decide (v5 ≤ v5) && (decide (Int.toNat v5 * 4 ≤ 281474976710656) && Nat.blt 0 4)) then (let v6 := List.replicate (Int.toNat v5) (0 : Int)
 let v7 := (List.length y1.1 : Int)
 f4 y1.1 y2.1 v6 v7 (0 : Int))
 else none
def L4 (k : Nat) (x0 : Dt29) (x1 : Dt29) (x5 : Dt29) (x21 : Int) (x22 : Int) : Option (Dt29 × Unit) := heads (spec.env cals T Try.f24) (Func.pts Try.f24) k 4 (m4 x0 x1 x5 x21 x22)
def L8 (k : Nat) (x0 : Dt29) (x1 : Dt29) (x5 : Dt29) (x6 : Int) (x7 : Int) (x21 : Int) (x22 : Int) (x26 : Int) (x27 : Int) : Option (Dt29 × Unit) := heads (spec.env cals T Try.f24) (Func.pts Try.f24) k 8 (m8 x0 x1 x5 x6 x7 x21 x22 x26 x27)
theorem L4_succ (k : Nat) (x0 : Dt29) (x1 : Dt29) (x5 : Dt29) (x21 : Int) (x22 : Int) : L4 (k + 1) x0 x1 x5 x21 x22 = b4 (L4 k) (L8 k) x0 x1 x5 x21 x22 := by kernel_rfl
theorem L8_succ (k : Nat) (x0 : Dt29) (x1 : Dt29) (x5 : Dt29) (x6 : Int) (x7 : Int) (x21 : Int) (x22 : Int) (x26 : Int) (x27 : Int) : L8 (k + 1) x0 x1 x5 x6 x7 x21 x22 x26 x27 = b8 (L4 k) (L8 k) x0 x1 x5 x6 x7 x21 x22 x26 x27 := by kernel_rfl
theorem eval (k : Nat) (a0 : Dt29) (a1 : Dt29) : evalF spec cals T Try.f24 k (a0, a1, ()) = e (L4 k) (L8 k) a0 a1 := by kernel_rfl
theorem of (k : Nat) (a0 : Dt29) (a1 : Dt29) {y : Dt29 × Unit} (h : e (L4 k) (L8 k) a0 a1 = some y) : F (a0, a1, ()) = some y := limF_of k ((eval k a0 a1).trans h)
end nat_Mul
namespace whole_Mul
def spec : Spec := ⟨[(true, Kt31), (true, Kt31)], [(true, Kt31)], .own, fun j => match j with  | _ => []⟩
def cals : Cals := (Cals.cons 24 nat_Mul.sig (Cals.cons 28 whole_Sign.sig (Cals.cons 56 whole_signed.sig (Cals.base tabs))))
def sig : Sig := spec.sig cals T Try.f55
def F (x : Dt31 × Dt31 × Unit) : Option (Dt31 × Unit) := limF spec cals T Try.f55 x
theorem ck : CalsOk Try.prog cals := (CalsOk.cons nat_Mul.cal (CalsOk.cons whole_Sign.cal (CalsOk.cons whole_signed.cal (CalsOk.base tabsOk))))
theorem cal : CalOk Try.prog tabs 55 sig := calOk_lim' tabOk ck mix Try.func55 (by kernel_rfl) (by kernel_rfl) (by kernel_rfl) (by kernel_rfl)
def e  (a0 : Dt31) (a1 : Dt31) : Option (Dt31 × Unit) :=
 (nat_Mul.F (a0.2, a1.2, ())).bind fun y1 =>
 (whole_Sign.F ((a0.1, a0.2), ())).bind fun y2 =>
 (whole_Sign.F ((a1.1, a1.2), ())).bind fun y3 =>
 let v4 := ([y2.1, y3.1] : List Int)
 (whole_signed.F (y1.1, v4, ())).bind fun y5 =>
 some ((y5.1.1, y5.1.2), ())
theorem eval (k : Nat) (a0 : Dt31) (a1 : Dt31) : evalF spec cals T Try.f55 k (a0, a1, ()) = e  a0 a1 := by kernel_rfl
theorem of (k : Nat) (a0 : Dt31) (a1 : Dt31) {y : Dt31 × Unit} (h : e  a0 a1 = some y) : F (a0, a1, ()) = some y := limF_of k ((eval k a0 a1).trans h)
end whole_Mul
namespace nat_Add
def spec : Spec := ⟨[(false, Kt29), (false, Kt29)], [(false, Kt29)], .own, fun j => match j with | 6 => [(0, .lf (.z 55 (.int .u32) false)), (1, .lf (.z 55 (.int .u32) false)), (5, .lf (.o 55 (.int .u32) true)), (6, .lf (.v true)), (21, .lf (.v true)), (22, .lf (.v true))] | _ => []⟩
def cals : Cals := (Cals.cons 79 bits_Add32.sig (Cals.cons 45 nat_own.sig (Cals.base tabs)))
def sig : Sig := spec.sig cals T Try.f81
def F (x : Dt29 × Dt29 × Unit) : Option (Dt29 × Unit) := limF spec cals T Try.f81 x
theorem ck : CalsOk Try.prog cals := (CalsOk.cons bits_Add32.cal (CalsOk.cons nat_own.cal (CalsOk.base tabsOk)))
theorem cal : CalOk Try.prog tabs 81 sig := calOk_lim' tabOk ck mix Try.func81 (by kernel_rfl) (by kernel_rfl) (by kernel_rfl) (by kernel_rfl)
def m6 (x0 : Dt29) (x1 : Dt29) (x5 : Dt29) (x6 : Int) (x21 : Int) (x22 : Int) : S := ⟨[(0, .one (.lf (.val false Kt29 x0))), (1, .one (.lf (.val false Kt29 x1))), (5, .one (.lf (.own 0))), (6, .one (.lf (.val true (.int .u32) x6))), (21, .one (.lf (.val true (.int .i64) x21))), (22, .one (.lf (.val true (.int .i64) x22)))], ⟨[some ⟨55, (.int .u32), true, true, x5⟩], []⟩⟩
def b6 (f6 : Dt29 → Dt29 → Dt29 → Int → Int → Int → Option (Dt29 × Unit)) (x0 : Dt29) (x1 : Dt29) (x5 : Dt29) (x6 : Int) (x21 : Int) (x22 : Int) : Option (Dt29 × Unit) :=
 let v1 := decide (x22 < x21)
 bif v1 then (let v2 := (List.length x1 : Int)
 let v3 := decide (x22 < v2)
 bif v3 then (bif decide (0 ≤ x22) && decide (x22 < (List.length x1 : Int)) then (let v4 := List.getD x1 (Int.toNat x22) (0 : Int)
 bif decide (0 ≤ x22) && decide (x22 < (List.length x0 : Int)) then (let v5 := List.getD x0 (Int.toNat x22) (0 : Int)
 (bits_Add32.F (v5, v4, x6, ())).bind fun y6 =>
 bif decide (0 ≤ x22) && decide (x22 < (List.length x5 : Int)) then (let v7 := List.set x5 (Int.toNat x22) y6.1
 let v8 := IntKind.i64.wrap (x22 + (1 : Int))
 f6 x0 x1 v7 y6.2.1 x21 v8)
 else none)
 else none)
 else none)
 else (bif decide (0 ≤ x22) && decide (x22 < (List.length x0 : Int)) then (let v9 := List.getD x0 (Int.toNat x22) (0 : Int)
 (bits_Add32.F (v9, (0 : Int), x6, ())).bind fun y10 =>
 bif decide (0 ≤ x22) && decide (x22 < (List.length x5 : Int)) then (let v11 := List.set x5 (Int.toNat x22) y10.1
 let v12 := IntKind.i64.wrap (x22 + (1 : Int))
 f6 x0 x1 v11 y10.2.1 x21 v12)
 else none)
 else none))
 else (let v13 := (List.length x0 : Int)
 bif decide (0 ≤ v13) && decide (v13 < (List.length x5 : Int)) then (let v14 := List.set x5 (Int.toNat v13) x6
 (nat_own.F (v14, ())).bind fun y15 =>
 some (y15.1, ()))
 else none)
def e (f6 : Dt29 → Dt29 → Dt29 → Int → Int → Int → Option (Dt29 × Unit)) (a0 : Dt29) (a1 : Dt29) : Option (Dt29 × Unit) :=
 let v1 := (List.length a0 : Int)
 let v2 := (List.length a1 : Int)
 let v3 := decide (v1 < v2)
 bif v3 then (let v4 := (List.length a1 : Int)
 let v5 := IntKind.i64.wrap (v4 + (1 : Int))
 bif decide (0 ≤ v5) && (decide (v5 ≤ v5) && (decide (Int.toNat v5 * 4 ≤ 281474976710656) && Nat.blt 0 4)) then (let v6 := List.replicate (Int.toNat v5) (0 : Int)
 let v7 := (List.length a1 : Int)
 f6 a1 a0 v6 (0 : Int) v7 (0 : Int))
 else none)
 else (let v8 := (List.length a0 : Int)
 let v9 := IntKind.i64.wrap (v8 + (1 : Int))
 bif decide (0 ≤ v9) && (decide (v9 ≤ v9) && (decide (Int.toNat v9 * 4 ≤ 281474976710656) && Nat.blt 0 4)) then (let v10 := List.replicate (Int.toNat v9) (0 : Int)
 let v11 := (List.length a0 : Int)
 f6 a0 a1 v10 (0 : Int) v11 (0 : Int))
 else none)
def L6 (k : Nat) (x0 : Dt29) (x1 : Dt29) (x5 : Dt29) (x6 : Int) (x21 : Int) (x22 : Int) : Option (Dt29 × Unit) := heads (spec.env cals T Try.f81) (Func.pts Try.f81) k 6 (m6 x0 x1 x5 x6 x21 x22)
theorem L6_succ (k : Nat) (x0 : Dt29) (x1 : Dt29) (x5 : Dt29) (x6 : Int) (x21 : Int) (x22 : Int) : L6 (k + 1) x0 x1 x5 x6 x21 x22 = b6 (L6 k) x0 x1 x5 x6 x21 x22 := by kernel_rfl
theorem eval (k : Nat) (a0 : Dt29) (a1 : Dt29) : evalF spec cals T Try.f81 k (a0, a1, ()) = e (L6 k) a0 a1 := by kernel_rfl
theorem of (k : Nat) (a0 : Dt29) (a1 : Dt29) {y : Dt29 × Unit} (h : e (L6 k) a0 a1 = some y) : F (a0, a1, ()) = some y := limF_of k ((eval k a0 a1).trans h)
end nat_Add
namespace nat_Sub
def spec : Spec := ⟨[(false, Kt29), (false, Kt29)], [(false, Kt29), (false, (.int .i64))], .own, fun j => match j with | 7 => [(0, .lf (.z 55 (.int .u32) false)), (1, .lf (.z 55 (.int .u32) false)), (6, .lf (.o 55 (.int .u32) true)), (7, .lf (.v true)), (20, .lf (.v true)), (21, .lf (.v true))] | _ => []⟩
def cals : Cals := (Cals.cons 47 nat_Cmp.sig (Cals.cons 46 nat_trim.sig (Cals.cons 78 bits_Sub32.sig (Cals.cons 45 nat_own.sig (Cals.base tabs)))))
def sig : Sig := spec.sig cals T Try.f82
def F (x : Dt29 × Dt29 × Unit) : Option (Dt29 × Int × Unit) := limF spec cals T Try.f82 x
theorem ck : CalsOk Try.prog cals := (CalsOk.cons nat_Cmp.cal (CalsOk.cons nat_trim.cal (CalsOk.cons bits_Sub32.cal (CalsOk.cons nat_own.cal (CalsOk.base tabsOk)))))
theorem cal : CalOk Try.prog tabs 82 sig := calOk_lim' tabOk ck mix Try.func82 (by kernel_rfl) (by kernel_rfl) (by kernel_rfl) (by kernel_rfl)
def m7 (x0 : Dt29) (x1 : Dt29) (x6 : Dt29) (x7 : Int) (x20 : Int) (x21 : Int) : S := ⟨[(0, .one (.lf (.val false Kt29 x0))), (1, .one (.lf (.val false Kt29 x1))), (6, .one (.lf (.own 0))), (7, .one (.lf (.val true (.int .u32) x7))), (20, .one (.lf (.val true (.int .i64) x20))), (21, .one (.lf (.val true (.int .i64) x21)))], ⟨[some ⟨55, (.int .u32), true, true, x6⟩], []⟩⟩
def b7 (f7 : Dt29 → Dt29 → Dt29 → Int → Int → Int → Option (Dt29 × Int × Unit)) (x0 : Dt29) (x1 : Dt29) (x6 : Dt29) (x7 : Int) (x20 : Int) (x21 : Int) : Option (Dt29 × Int × Unit) :=
 let v1 := decide (x21 < x20)
 bif v1 then (let v2 := (List.length x1 : Int)
 let v3 := decide (x21 < v2)
 bif v3 then (bif decide (0 ≤ x21) && decide (x21 < (List.length x1 : Int)) then (let v4 := List.getD x1 (Int.toNat x21) (0 : Int)
 bif decide (0 ≤ x21) && decide (x21 < (List.length x0 : Int)) then (let v5 := List.getD x0 (Int.toNat x21) (0 : Int)
 (bits_Sub32.F (v5, v4, x7, ())).bind fun y6 =>
 bif decide (0 ≤ x21) && decide (x21 < (List.length x6 : Int)) then (let v7 := List.set x6 (Int.toNat x21) y6.1
 let v8 := IntKind.i64.wrap (x21 + (1 : Int))
 f7 x0 x1 v7 y6.2.1 x20 v8)
 else none)
 else none)
 else none)
 else (bif decide (0 ≤ x21) && decide (x21 < (List.length x0 : Int)) then (let v9 := List.getD x0 (Int.toNat x21) (0 : Int)
 (bits_Sub32.F (v9, (0 : Int), x7, ())).bind fun y10 =>
 bif decide (0 ≤ x21) && decide (x21 < (List.length x6 : Int)) then (let v11 := List.set x6 (Int.toNat x21) y10.1
 let v12 := IntKind.i64.wrap (x21 + (1 : Int))
 f7 x0 x1 v11 y10.2.1 x20 v12)
 else none)
 else none))
 else ((nat_own.F (x6, ())).bind fun y13 =>
 some (y13.1, (0 : Int), ()))
def e (f7 : Dt29 → Dt29 → Dt29 → Int → Int → Int → Option (Dt29 × Int × Unit)) (a0 : Dt29) (a1 : Dt29) : Option (Dt29 × Int × Unit) :=
 (nat_Cmp.F (a0, a1, ())).bind fun y1 =>
 let v2 := decide (y1.1 < (0 : Int))
 bif v2 then (some (zt29, (10 : Int), ()))
 else ((nat_trim.F (a1, ())).bind fun y3 =>
 let v4 := (List.length a0 : Int)
 bif decide (0 ≤ v4) && (decide (v4 ≤ v4) && (decide (Int.toNat v4 * 4 ≤ 281474976710656) && Nat.blt 0 4)) then (let v5 := List.replicate (Int.toNat v4) (0 : Int)
 let v6 := (List.length a0 : Int)
 f7 a0 y3.1 v5 (0 : Int) v6 (0 : Int))
 else none)
def L7 (k : Nat) (x0 : Dt29) (x1 : Dt29) (x6 : Dt29) (x7 : Int) (x20 : Int) (x21 : Int) : Option (Dt29 × Int × Unit) := heads (spec.env cals T Try.f82) (Func.pts Try.f82) k 7 (m7 x0 x1 x6 x7 x20 x21)
theorem L7_succ (k : Nat) (x0 : Dt29) (x1 : Dt29) (x6 : Dt29) (x7 : Int) (x20 : Int) (x21 : Int) : L7 (k + 1) x0 x1 x6 x7 x20 x21 = b7 (L7 k) x0 x1 x6 x7 x20 x21 := by kernel_rfl
theorem eval (k : Nat) (a0 : Dt29) (a1 : Dt29) : evalF spec cals T Try.f82 k (a0, a1, ()) = e (L7 k) a0 a1 := by kernel_rfl
theorem of (k : Nat) (a0 : Dt29) (a1 : Dt29) {y : Dt29 × Int × Unit} (h : e (L7 k) a0 a1 = some y) : F (a0, a1, ()) = some y := limF_of k ((eval k a0 a1).trans h)
end nat_Sub
namespace whole_Add
def spec : Spec := ⟨[(true, Kt31), (true, Kt31)], [(true, Kt31)], .own, fun j => match j with  | _ => []⟩
def cals : Cals := (Cals.cons 28 whole_Sign.sig (Cals.cons 81 nat_Add.sig (Cals.cons 56 whole_signed.sig (Cals.cons 47 nat_Cmp.sig (Cals.cons 82 nat_Sub.sig (Cals.base tabs))))))
def sig : Sig := spec.sig cals T Try.f80
def F (x : Dt31 × Dt31 × Unit) : Option (Dt31 × Unit) := limF spec cals T Try.f80 x
theorem ck : CalsOk Try.prog cals := (CalsOk.cons whole_Sign.cal (CalsOk.cons nat_Add.cal (CalsOk.cons whole_signed.cal (CalsOk.cons nat_Cmp.cal (CalsOk.cons nat_Sub.cal (CalsOk.base tabsOk))))))
theorem cal : CalOk Try.prog tabs 80 sig := calOk_lim' tabOk ck mix Try.func80 (by kernel_rfl) (by kernel_rfl) (by kernel_rfl) (by kernel_rfl)
def e  (a0 : Dt31) (a1 : Dt31) : Option (Dt31 × Unit) :=
 (whole_Sign.F ((a0.1, a0.2), ())).bind fun y1 =>
 (whole_Sign.F ((a1.1, a1.2), ())).bind fun y2 =>
 let v3 := IntKind.i64.wrap (y1.1 * y2.1)
 let v4 := decide (v3 ≥ (0 : Int))
 bif v4 then ((nat_Add.F (a0.2, a1.2, ())).bind fun y5 =>
 let v6 := bitsOp .or .i64 y1.1 y2.1
 let v7 := bitsOp .or .i64 v6 (1 : Int)
 let v8 := ([v7] : List Int)
 (whole_signed.F (y5.1, v8, ())).bind fun y9 =>
 some ((y9.1.1, y9.1.2), ()))
 else ((nat_Cmp.F (a0.2, a1.2, ())).bind fun y10 =>
 let v11 := decide (y10.1 ≥ (0 : Int))
 bif v11 then ((nat_Sub.F (a0.2, a1.2, ())).bind fun y12 =>
 let v13 := ([y1.1] : List Int)
 (whole_signed.F (y12.1, v13, ())).bind fun y14 =>
 some ((y14.1.1, y14.1.2), ()))
 else ((nat_Sub.F (a1.2, a0.2, ())).bind fun y15 =>
 let v16 := ([y2.1] : List Int)
 (whole_signed.F (y15.1, v16, ())).bind fun y17 =>
 some ((y17.1.1, y17.1.2), ())))
theorem eval (k : Nat) (a0 : Dt31) (a1 : Dt31) : evalF spec cals T Try.f80 k (a0, a1, ()) = e  a0 a1 := by kernel_rfl
theorem of (k : Nat) (a0 : Dt31) (a1 : Dt31) {y : Dt31 × Unit} (h : e  a0 a1 = some y) : F (a0, a1, ()) = some y := limF_of k ((eval k a0 a1).trans h)
end whole_Add
namespace ratio_Add
def spec : Spec := ⟨[(true, Kt33), (true, Kt33)], [(true, Kt33)], .own, fun j => match j with  | _ => []⟩
def cals : Cals := (Cals.cons 29 ratio_Norm.sig (Cals.cons 55 whole_Mul.sig (Cals.cons 80 whole_Add.sig (Cals.cons 24 nat_Mul.sig (Cals.cons 50 ratio_made.sig (Cals.base tabs))))))
def sig : Sig := spec.sig cals T Try.f77
def F (x : Dt33 × Dt33 × Unit) : Option (Dt33 × Unit) := limF spec cals T Try.f77 x
theorem ck : CalsOk Try.prog cals := (CalsOk.cons ratio_Norm.cal (CalsOk.cons whole_Mul.cal (CalsOk.cons whole_Add.cal (CalsOk.cons nat_Mul.cal (CalsOk.cons ratio_made.cal (CalsOk.base tabsOk))))))
theorem cal : CalOk Try.prog tabs 77 sig := calOk_lim' tabOk ck mix Try.func77 (by kernel_rfl) (by kernel_rfl) (by kernel_rfl) (by kernel_rfl)
def e  (a0 : Dt33) (a1 : Dt33) : Option (Dt33 × Unit) :=
 (ratio_Norm.F (((a0.1.1, a0.1.2), a0.2), ())).bind fun y1 =>
 (ratio_Norm.F (((a1.1.1, a1.1.2), a1.2), ())).bind fun y2 =>
 (whole_Mul.F ((y1.1.1.1, y1.1.1.2), (false, y2.1.2), ())).bind fun y3 =>
 (whole_Mul.F ((y2.1.1.1, y2.1.1.2), (false, y1.1.2), ())).bind fun y4 =>
 (whole_Add.F ((y3.1.1, y3.1.2), (y4.1.1, y4.1.2), ())).bind fun y5 =>
 (nat_Mul.F (y1.1.2, y2.1.2, ())).bind fun y6 =>
 (ratio_made.F ((y5.1.1, y5.1.2), y6.1, ())).bind fun y7 =>
 some (((y7.1.1.1, y7.1.1.2), y7.1.2), ())
theorem eval (k : Nat) (a0 : Dt33) (a1 : Dt33) : evalF spec cals T Try.f77 k (a0, a1, ()) = e  a0 a1 := by kernel_rfl
theorem of (k : Nat) (a0 : Dt33) (a1 : Dt33) {y : Dt33 × Unit} (h : e  a0 a1 = some y) : F (a0, a1, ()) = some y := limF_of k ((eval k a0 a1).trans h)
end ratio_Add
namespace linear_together
def spec : Spec := ⟨[(true, Kt36), (true, Kt36)], [(true, Kt36), (false, .bool)], .own, fun j => match j with  | _ => []⟩
def cals : Cals := (Cals.cons 77 ratio_Add.sig (Cals.cons 10 ratio_Sign.sig (Cals.base tabs)))
def sig : Sig := spec.sig cals T Try.f67
def F (x : Dt36 × Dt36 × Unit) : Option (Dt36 × Bool × Unit) := limF spec cals T Try.f67 x
theorem ck : CalsOk Try.prog cals := (CalsOk.cons ratio_Add.cal (CalsOk.cons ratio_Sign.cal (CalsOk.base tabsOk)))
theorem cal : CalOk Try.prog tabs 67 sig := calOk_lim' tabOk ck mix Try.func67 (by kernel_rfl) (by kernel_rfl) (by kernel_rfl) (by kernel_rfl)
def e  (a0 : Dt36) (a1 : Dt36) : Option (Dt36 × Bool × Unit) :=
 (ratio_Add.F (((a0.2.1.1, a0.2.1.2), a0.2.2), ((a1.2.1.1, a1.2.1.2), a1.2.2), ())).bind fun y1 =>
 (ratio_Sign.F (((y1.1.1.1, y1.1.1.2), y1.1.2), ())).bind fun y2 =>
 let v3 := (y2.1 != (0 : Int))
 some ((a0.1, ((y1.1.1.1, y1.1.1.2), y1.1.2)), v3, ())
theorem eval (k : Nat) (a0 : Dt36) (a1 : Dt36) : evalF spec cals T Try.f67 k (a0, a1, ()) = e  a0 a1 := by kernel_rfl
theorem of (k : Nat) (a0 : Dt36) (a1 : Dt36) {y : Dt36 × Bool × Unit} (h : e  a0 a1 = some y) : F (a0, a1, ()) = some y := limF_of k ((eval k a0 a1).trans h)
end linear_together
namespace linear_merge_Mono
def spec : XSpec := ⟨none, false, [(false, Kt37), (false, Kt37), (false, (.fnc 66)), (false, (.fnc 67))], false, none, [(false, Kt37)], true, fun j => match j with | 2 => [(0, .lf (.z 36 Kt36 true)), (1, .lf (.z 36 Kt36 true)), (2, .lf (.v true)), (3, .lf (.v true)), (9, .lf (.o 36 Kt36 true))] | _ => []⟩
def cals : Cals := (Cals.cons 66 linear_byVar.sig (Cals.cons 67 linear_together.sig (Cals.base tabs)))
def sig : XSig := spec.sig cals T Try.f65
def F (d : Unit) (x : Dt37 × Dt37 × Unit × Unit × Unit) : Option (Unit × (Dt37 × Unit) × Unit) := limX spec cals T Try.f65 d x
theorem ck : CalsOk Try.prog cals := (CalsOk.cons linear_byVar.cal (CalsOk.cons linear_together.cal (CalsOk.base tabsOk)))
theorem cal : XOk Try.prog tabs 65 sig := xok_of tabOk ck mix Try.func65 (by kernel_rfl) (by kernel_rfl) (by kernel_rfl) (by kernel_rfl)
def m2 (x0 : Dt37) (x1 : Dt37) (x2 : Unit) (x3 : Unit) (x9 : Dt37) : S := ⟨[(0, .one (.lf (.val true Kt37 x0))), (1, .one (.lf (.val true Kt37 x1))), (2, .one (.lf (.val true (.fnc 66) x2))), (3, .one (.lf (.val true (.fnc 67) x3))), (9, .one (.lf (.own 0)))], ⟨[some ⟨36, Kt36, true, true, x9⟩], []⟩⟩
def b2 (f2 : Dt37 → Dt37 → Unit → Unit → Dt37 → Option ((Unit × (Dt37 × Unit) × Unit) × Nat × List Value)) (x0 : Dt37) (x1 : Dt37) (x2 : Unit) (x3 : Unit) (x9 : Dt37) : Option ((Unit × (Dt37 × Unit) × Unit) × Nat × List Value) :=
 let v1 := (List.length x0 : Int)
 let v2 := decide (v1 > (0 : Int))
 bif v2 then (let v3 := (List.length x1 : Int)
 let v4 := decide (v3 > (0 : Int))
 bif v4 then (bif decide (0 ≤ (0 : Int)) && decide ((0 : Int) < (List.length x0 : Int)) then (let v5 := (List.getD x0 (Int.toNat (0 : Int)) zt36).1
 let v6 := (((List.getD x0 (Int.toNat (0 : Int)) zt36).2).1).1
 let v7 := (((List.getD x0 (Int.toNat (0 : Int)) zt36).2).1).2
 let v8 := ((List.getD x0 (Int.toNat (0 : Int)) zt36).2).2
 bif decide (0 ≤ (0 : Int)) && decide ((0 : Int) < (List.length x1 : Int)) then (let v9 := (List.getD x1 (Int.toNat (0 : Int)) zt36).1
 let v10 := (((List.getD x1 (Int.toNat (0 : Int)) zt36).2).1).1
 let v11 := (((List.getD x1 (Int.toNat (0 : Int)) zt36).2).1).2
 let v12 := ((List.getD x1 (Int.toNat (0 : Int)) zt36).2).2
 (linear_byVar.F ((v5, ((v6, v7), v8)), (v9, ((v10, v11), v12)), ())).bind fun y13 =>
 let v14 := decide (y13.1 < (0 : Int))
 bif v14 then (bif decide (0 ≤ (0 : Int)) && decide ((0 : Int) < (List.length x0 : Int)) then (let v15 := (List.getD x0 (Int.toNat (0 : Int)) zt36).1
 let v16 := (((List.getD x0 (Int.toNat (0 : Int)) zt36).2).1).1
 let v17 := (((List.getD x0 (Int.toNat (0 : Int)) zt36).2).1).2
 let v18 := ((List.getD x0 (Int.toNat (0 : Int)) zt36).2).2
 let v19 := ([(v15, ((v16, v17), v18))] : List Dt36)
 bif decide (List.length x9 + List.length v19 < 2199023255552) then (let v20 := List.append x9 v19
 bif decide (0 ≤ (1 : Int)) && decide ((1 : Int) ≤ (List.length x0 : Int)) then (let v21 := List.drop (Int.toNat (1 : Int)) x0
 f2 v21 x1 x2 x3 v20)
 else none)
 else none)
 else none)
 else (let v22 := decide (y13.1 > (0 : Int))
 bif v22 then (bif decide (0 ≤ (0 : Int)) && decide ((0 : Int) < (List.length x1 : Int)) then (let v23 := (List.getD x1 (Int.toNat (0 : Int)) zt36).1
 let v24 := (((List.getD x1 (Int.toNat (0 : Int)) zt36).2).1).1
 let v25 := (((List.getD x1 (Int.toNat (0 : Int)) zt36).2).1).2
 let v26 := ((List.getD x1 (Int.toNat (0 : Int)) zt36).2).2
 let v27 := ([(v23, ((v24, v25), v26))] : List Dt36)
 bif decide (List.length x9 + List.length v27 < 2199023255552) then (let v28 := List.append x9 v27
 bif decide (0 ≤ (1 : Int)) && decide ((1 : Int) ≤ (List.length x1 : Int)) then (let v29 := List.drop (Int.toNat (1 : Int)) x1
 f2 x0 v29 x2 x3 v28)
 else none)
 else none)
 else none)
 else (bif decide (0 ≤ (0 : Int)) && decide ((0 : Int) < (List.length x0 : Int)) then (let v30 := (List.getD x0 (Int.toNat (0 : Int)) zt36).1
 let v31 := (((List.getD x0 (Int.toNat (0 : Int)) zt36).2).1).1
 let v32 := (((List.getD x0 (Int.toNat (0 : Int)) zt36).2).1).2
 let v33 := ((List.getD x0 (Int.toNat (0 : Int)) zt36).2).2
 bif decide (0 ≤ (0 : Int)) && decide ((0 : Int) < (List.length x1 : Int)) then (let v34 := (List.getD x1 (Int.toNat (0 : Int)) zt36).1
 let v35 := (((List.getD x1 (Int.toNat (0 : Int)) zt36).2).1).1
 let v36 := (((List.getD x1 (Int.toNat (0 : Int)) zt36).2).1).2
 let v37 := ((List.getD x1 (Int.toNat (0 : Int)) zt36).2).2
 (linear_together.F ((v30, ((v31, v32), v33)), (v34, ((v35, v36), v37)), ())).bind fun y38 =>
 bif y38.2.1 then (let v39 := ([(y38.1.1, ((y38.1.2.1.1, y38.1.2.1.2), y38.1.2.2))] : List Dt36)
 bif decide (List.length x9 + List.length v39 < 2199023255552) then (let v40 := List.append x9 v39
 bif decide (0 ≤ (1 : Int)) && decide ((1 : Int) ≤ (List.length x0 : Int)) then (let v41 := List.drop (Int.toNat (1 : Int)) x0
 bif decide (0 ≤ (1 : Int)) && decide ((1 : Int) ≤ (List.length x1 : Int)) then (let v42 := List.drop (Int.toNat (1 : Int)) x1
 f2 v41 v42 x2 x3 v40)
 else none)
 else none)
 else none)
 else (bif decide (0 ≤ (1 : Int)) && decide ((1 : Int) ≤ (List.length x0 : Int)) then (let v43 := List.drop (Int.toNat (1 : Int)) x0
 bif decide (0 ≤ (1 : Int)) && decide ((1 : Int) ≤ (List.length x1 : Int)) then (let v44 := List.drop (Int.toNat (1 : Int)) x1
 f2 v43 v44 x2 x3 x9)
 else none)
 else none))
 else none)
 else none)))
 else none)
 else none)
 else (bif decide (List.length x9 + List.length x0 < 2199023255552) then (let v45 := List.append x9 x0
 bif decide (List.length v45 + List.length x1 < 2199023255552) then (let v46 := List.append v45 x1
 some (((), (v46, ()), ()), 0, []))
 else none)
 else none))
 else (bif decide (List.length x9 + List.length x0 < 2199023255552) then (let v47 := List.append x9 x0
 bif decide (List.length v47 + List.length x1 < 2199023255552) then (let v48 := List.append v47 x1
 some (((), (v48, ()), ()), 0, []))
 else none)
 else none)
def e (f2 : Dt37 → Dt37 → Unit → Unit → Dt37 → Option ((Unit × (Dt37 × Unit) × Unit) × Nat × List Value)) (G : Gh) (d : Unit) (a0 : Dt37) (a1 : Dt37) (a2 : Unit) (a3 : Unit) : Option ((Unit × (Dt37 × Unit) × Unit) × Nat × List Value) :=
 f2 a0 a1 a2 a3 zt37
def L2 (k : Nat) (x0 : Dt37) (x1 : Dt37) (x2 : Unit) (x3 : Unit) (x9 : Dt37) : Option ((Unit × (Dt37 × Unit) × Unit) × Nat × List Value) := heads (spec.env cals T Try.f65) (Func.pts Try.f65) k 2 (m2 x0 x1 x2 x3 x9)
theorem L2_succ (k : Nat) (x0 : Dt37) (x1 : Dt37) (x2 : Unit) (x3 : Unit) (x9 : Dt37) : L2 (k + 1) x0 x1 x2 x3 x9 = b2 (L2 k) x0 x1 x2 x3 x9 := by kernel_rfl
theorem eval (k : Nat) (G : Gh) (d : Unit) (a0 : Dt37) (a1 : Dt37) (a2 : Unit) (a3 : Unit) : evalX spec cals T Try.f65 k G d (a0, a1, a2, a3, ()) = e (L2 k) G d a0 a1 a2 a3 := by kernel_rfl
theorem of (d : Unit) (a0 : Dt37) (a1 : Dt37) (a2 : Unit) (a3 : Unit) (y : (Unit × (Dt37 × Unit) × Unit)) (h : ∀ G : Gh, ∃ k : Nat, e (L2 k) G d a0 a1 a2 a3 = some (y, (0, []))) : F d (a0, a1, a2, a3, ()) = some y := limX_of (q := spec) (C := cals) (T := T) (f := Try.f65) (d := d) (x := (a0, a1, a2, a3, ())) y fun G => (h G).imp fun k hk => (eval k G d a0 a1 a2 a3).trans hk
end linear_merge_Mono
namespace linear_sum
def spec : XSpec := ⟨none, false, [(false, Kt37), (false, Kt37)], false, none, [(false, Kt37)], true, fun j => match j with  | _ => []⟩
def cals : Cals := (Cals.consX 65 false linear_merge_Mono.sig (Cals.base tabs))
def sig : XSig := spec.sig cals T Try.f44
def F (d : Unit) (x : Dt37 × Dt37 × Unit) : Option (Unit × (Dt37 × Unit) × Unit) := limX spec cals T Try.f44 d x
theorem ck : CalsOk Try.prog cals := (CalsOk.consX linear_merge_Mono.cal (CalsOk.base tabsOk))
theorem cal : XOk Try.prog tabs 44 sig := xok_of tabOk ck mix Try.func44 (by kernel_rfl) (by kernel_rfl) (by kernel_rfl) (by kernel_rfl)
def e  (G : Gh) (d : Unit) (a0 : Dt37) (a1 : Dt37) : Option ((Unit × (Dt37 × Unit) × Unit) × Nat × List Value) :=
 (linear_merge_Mono.F () (a0, a1, (), (), ())).bind fun y1 =>
 some (((), (y1.2.1.1, ()), ()), 0, [])
theorem eval (k : Nat) (G : Gh) (d : Unit) (a0 : Dt37) (a1 : Dt37) : evalX spec cals T Try.f44 k G d (a0, a1, ()) = e  G d a0 a1 := by kernel_rfl
theorem of (d : Unit) (a0 : Dt37) (a1 : Dt37) (y : (Unit × (Dt37 × Unit) × Unit)) (h : ∀ G : Gh, ∃ k : Nat, e  G d a0 a1 = some (y, (0, []))) : F d (a0, a1, ()) = some y := limX_of (q := spec) (C := cals) (T := T) (f := Try.f44) (d := d) (x := (a0, a1, ())) y fun G => (h G).imp fun k hk => (eval k G d a0 a1).trans hk
end linear_sum
namespace linear_Norm
def spec : Spec := ⟨[(false, Kt37)], [(false, Kt37)], .own, fun j => match j with  | _ => []⟩
def base : Cals := (Cals.consX 44 false linear_sum.sig (Cals.cons 10 ratio_Sign.sig (Cals.cons 29 ratio_Norm.sig (Cals.base tabs))))
theorem ckb : CalsOk Try.prog base := (CalsOk.consX linear_sum.cal (CalsOk.cons ratio_Sign.cal (CalsOk.cons ratio_Norm.cal (CalsOk.base tabsOk))))
def Fr (n : Nat) (x : Dt37 × Unit) : Option (Dt37 × Unit) := recF spec base T Try.f20 20 n x
def meas (x : Dt37 × Unit) : Nat := List.length x.1 + 1
def F (x : Dt37 × Unit) : Option (Dt37 × Unit) := Fr (meas x) x
def sig : Sig := ⟨spec.ps, spec.rs, spec.md, F⟩
theorem cal : CalOk Try.prog tabs 20 sig := calOk_deep (ps := spec.ps) (rs := spec.rs) (md := spec.md) (F := Fr) (fun n => calOk_rec tabOk ckb mix Try.func20 (by kernel_rfl) (by kernel_rfl) (by kernel_rfl) (by kernel_rfl) n) meas
def e (self : (Dt37 × Unit) → Option (Dt37 × Unit)) (a0 : Dt37) : Option (Dt37 × Unit) :=
 let v1 := (List.length a0 : Int)
 let v2 := (v1 == (0 : Int))
 bif v2 then (some (zt37, ()))
 else (let v3 := (v1 == (1 : Int))
 bif v3 then (bif decide (0 ≤ (0 : Int)) && decide ((0 : Int) < (List.length a0 : Int)) then (let v4 := (((List.getD a0 (Int.toNat (0 : Int)) zt36).2).1).1
 let v5 := (((List.getD a0 (Int.toNat (0 : Int)) zt36).2).1).2
 let v6 := ((List.getD a0 (Int.toNat (0 : Int)) zt36).2).2
 (ratio_Sign.F (((v4, v5), v6), ())).bind fun y7 =>
 let v8 := (y7.1 == (0 : Int))
 bif v8 then (some (zt37, ()))
 else (bif decide (0 ≤ (0 : Int)) && decide ((0 : Int) < (List.length a0 : Int)) then (let v9 := (List.getD a0 (Int.toNat (0 : Int)) zt36).1
 bif decide (0 ≤ (0 : Int)) && decide ((0 : Int) < (List.length a0 : Int)) then (let v10 := (((List.getD a0 (Int.toNat (0 : Int)) zt36).2).1).1
 let v11 := (((List.getD a0 (Int.toNat (0 : Int)) zt36).2).1).2
 let v12 := ((List.getD a0 (Int.toNat (0 : Int)) zt36).2).2
 (ratio_Norm.F (((v10, v11), v12), ())).bind fun y13 =>
 let v14 := ([(v9, ((y13.1.1.1, y13.1.1.2), y13.1.2))] : List Dt36)
 some (v14, ()))
 else none)
 else none))
 else none)
 else (let v15 := (List.length a0 : Int)
 bif decide ((2 : Int) = 0) then none
 else (let v16 := IntKind.i64.wrap (Int.tdiv v15 (2 : Int))
 bif decide (0 ≤ v16) && decide (v16 ≤ (List.length a0 : Int)) then (let v17 := List.take (Int.toNat v16) a0
 (self (v17, ())).bind fun y18 =>
 bif decide (0 ≤ v16) && decide (v16 ≤ (List.length a0 : Int)) then (let v19 := List.drop (Int.toNat v16) a0
 (self (v19, ())).bind fun y20 =>
 (linear_sum.F () (y18.1, y20.1, ())).bind fun y21 =>
 some (y21.2.1.1, ()))
 else none)
 else none)))
theorem eval (k n : Nat) (a0 : Dt37) : evalF spec (recC spec base T Try.f20 20 n) T Try.f20 k (a0, ()) = e (Fr n) a0 := by kernel_rfl
theorem of (k n : Nat) (a0 : Dt37) {y : Dt37 × Unit} (h : e (Fr n) a0 = some y) : Fr (n + 1) (a0, ()) = some y := recF_of k ((eval k n a0).trans h)
end linear_Norm
namespace nat_Text
def spec : Spec := ⟨[(false, Kt29), (false, (.int .i64))], [(false, .str), (false, (.int .i64))], .own, fun j => match j with | 5 => [(1, .lf (.v false)), (6, .lf (.o 5 (.int .u8) true)), (7, .lf (.z 55 (.int .u32) true))] | 14 => [(6, .lf (.o 5 (.int .u8) true)), (9, .lf (.o 5 (.int .u8) true)), (43, .lf (.v true)), (44, .lf (.v true))] | _ => []⟩
def cals : Cals := (Cals.cons 45 nat_own.sig (Cals.cons 48 nat_short.sig (Cals.cons 46 nat_trim.sig (Cals.base tabs))))
def sig : Sig := spec.sig cals T Try.f74
def F (x : Dt29 × Int × Unit) : Option (ByteArray × Int × Unit) := limF spec cals T Try.f74 x
theorem ck : CalsOk Try.prog cals := (CalsOk.cons nat_own.cal (CalsOk.cons nat_short.cal (CalsOk.cons nat_trim.cal (CalsOk.base tabsOk))))
theorem cal : CalOk Try.prog tabs 74 sig := calOk_lim' tabOk ck mix Try.func74 (by kernel_rfl) (by kernel_rfl) (by kernel_rfl) (by kernel_rfl)
def m5 (x1 : Int) (x6 : Dt29) (x7 : Dt29) : S := ⟨[(1, .one (.lf (.val false (.int .i64) x1))), (6, .one (.lf (.own 0))), (7, .one (.lf (.val true Kt29 x7)))], ⟨[some ⟨5, (.int .u8), true, true, x6⟩], []⟩⟩
def m14 (x6 : Dt29) (x9 : Dt29) (x43 : Int) (x44 : Int) : S := ⟨[(6, .one (.lf (.own 0))), (9, .one (.lf (.own 1))), (43, .one (.lf (.val true (.int .i64) x43))), (44, .one (.lf (.val true (.int .i64) x44)))], ⟨[some ⟨5, (.int .u8), true, true, x6⟩, some ⟨5, (.int .u8), true, true, x9⟩], []⟩⟩
def b5 (f5 : Int → Dt29 → Dt29 → Option (ByteArray × Int × Unit)) (f14 : Dt29 → Dt29 → Int → Int → Option (ByteArray × Int × Unit)) (x1 : Int) (x6 : Dt29) (x7 : Dt29) : Option (ByteArray × Int × Unit) :=
 let v1 := (List.length x7 : Int)
 let v2 := decide (v1 > (0 : Int))
 bif v2 then (let v3 := IntKind.u32.wrap x1
 (nat_short.F (x7, v3, ())).bind fun y4 =>
 (nat_trim.F (y4.1, ())).bind fun y5 =>
 bif decide (0 ≤ y4.2.1) && decide (y4.2.1 < (ByteArray.size (⟨#[48, 49, 50, 51, 52, 53, 54, 55, 56, 57, 97, 98, 99, 100, 101, 102]⟩ : ByteArray) : Int)) then (let v6 := btI (⟨#[48, 49, 50, 51, 52, 53, 54, 55, 56, 57, 97, 98, 99, 100, 101, 102]⟩ : ByteArray) y4.2.1
 let v7 := ([v6] : List Int)
 bif decide (List.length x6 + List.length v7 < 140737488355328) then (let v8 := List.append x6 v7
 f5 x1 v8 y5.1)
 else none)
 else none)
 else (let v9 := (List.length x6 : Int)
 let v10 := (v9 == (0 : Int))
 bif v10 then (some ((⟨#[48]⟩ : ByteArray), (0 : Int), ()))
 else (let v11 := (List.length x6 : Int)
 bif decide (0 ≤ v11) && (decide (v11 ≤ v11) && (decide (Int.toNat v11 * 1 ≤ 281474976710656) && Nat.blt 0 1)) then (let v12 := List.replicate (Int.toNat v11) (0 : Int)
 let v13 := (List.length x6 : Int)
 f14 x6 v12 v13 (0 : Int))
 else none))
def b14 (f5 : Int → Dt29 → Dt29 → Option (ByteArray × Int × Unit)) (f14 : Dt29 → Dt29 → Int → Int → Option (ByteArray × Int × Unit)) (x6 : Dt29) (x9 : Dt29) (x43 : Int) (x44 : Int) : Option (ByteArray × Int × Unit) :=
 let v1 := decide (x44 < x43)
 bif v1 then (let v2 := (List.length x6 : Int)
 let v3 := IntKind.i64.wrap (v2 - (1 : Int))
 let v4 := IntKind.i64.wrap (v3 - x44)
 bif decide (0 ≤ x44) && decide (x44 < (List.length x6 : Int)) then (let v5 := List.getD x6 (Int.toNat x44) (0 : Int)
 bif decide (0 ≤ v4) && decide (v4 < (List.length x9 : Int)) then (let v6 := List.set x9 (Int.toNat v4) v5
 let v7 := IntKind.i64.wrap (x44 + (1 : Int))
 f14 x6 v6 x43 v7)
 else none)
 else none)
 else (let v8 := strOfNums x9
 some (v8, (0 : Int), ()))
def e (f5 : Int → Dt29 → Dt29 → Option (ByteArray × Int × Unit)) (f14 : Dt29 → Dt29 → Int → Int → Option (ByteArray × Int × Unit)) (a0 : Dt29) (a1 : Int) : Option (ByteArray × Int × Unit) :=
 let v1 := decide (a1 < (2 : Int))
 bif v1 then (some ((⟨#[]⟩ : ByteArray), (14 : Int), ()))
 else (let v2 := decide (a1 > (16 : Int))
 bif v2 then (some ((⟨#[]⟩ : ByteArray), (14 : Int), ()))
 else ((nat_own.F (a0, ())).bind fun y3 =>
 f5 a1 zt29 y3.1))
def L5 (k : Nat) (x1 : Int) (x6 : Dt29) (x7 : Dt29) : Option (ByteArray × Int × Unit) := heads (spec.env cals T Try.f74) (Func.pts Try.f74) k 5 (m5 x1 x6 x7)
def L14 (k : Nat) (x6 : Dt29) (x9 : Dt29) (x43 : Int) (x44 : Int) : Option (ByteArray × Int × Unit) := heads (spec.env cals T Try.f74) (Func.pts Try.f74) k 14 (m14 x6 x9 x43 x44)
theorem L5_succ (k : Nat) (x1 : Int) (x6 : Dt29) (x7 : Dt29) : L5 (k + 1) x1 x6 x7 = b5 (L5 k) (L14 k) x1 x6 x7 := by kernel_rfl
theorem L14_succ (k : Nat) (x6 : Dt29) (x9 : Dt29) (x43 : Int) (x44 : Int) : L14 (k + 1) x6 x9 x43 x44 = b14 (L5 k) (L14 k) x6 x9 x43 x44 := by kernel_rfl
theorem eval (k : Nat) (a0 : Dt29) (a1 : Int) : evalF spec cals T Try.f74 k (a0, a1, ()) = e (L5 k) (L14 k) a0 a1 := by kernel_rfl
theorem of (k : Nat) (a0 : Dt29) (a1 : Int) {y : ByteArray × Int × Unit} (h : e (L5 k) (L14 k) a0 a1 = some y) : F (a0, a1, ()) = some y := limF_of k ((eval k a0 a1).trans h)
end nat_Text
namespace whole_Text
def spec : Spec := ⟨[(true, Kt31)], [(false, .str)], .own, fun j => match j with  | _ => []⟩
def cals : Cals := (Cals.cons 74 nat_Text.sig (Cals.cons 28 whole_Sign.sig (Cals.base tabs)))
def sig : Sig := spec.sig cals T Try.f53
def F (x : Dt31 × Unit) : Option (ByteArray × Unit) := limF spec cals T Try.f53 x
theorem ck : CalsOk Try.prog cals := (CalsOk.cons nat_Text.cal (CalsOk.cons whole_Sign.cal (CalsOk.base tabsOk)))
theorem cal : CalOk Try.prog tabs 53 sig := calOk_lim' tabOk ck mix Try.func53 (by kernel_rfl) (by kernel_rfl) (by kernel_rfl) (by kernel_rfl)
def e  (a0 : Dt31) : Option (ByteArray × Unit) :=
 (nat_Text.F (a0.2, (10 : Int), ())).bind fun y1 =>
 (whole_Sign.F ((a0.1, a0.2), ())).bind fun y2 =>
 let v3 := decide (y2.1 < (0 : Int))
 bif v3 then (bif decide ((⟨#[45]⟩ : ByteArray).size + y1.1.size ≤ 9223372036854775807) then (let v4 := (⟨#[45]⟩ : ByteArray) ++ y1.1
 some (v4, ()))
 else none)
 else (some (y1.1, ()))
theorem eval (k : Nat) (a0 : Dt31) : evalF spec cals T Try.f53 k (a0, ()) = e  a0 := by kernel_rfl
theorem of (k : Nat) (a0 : Dt31) {y : ByteArray × Unit} (h : e  a0 = some y) : F (a0, ()) = some y := limF_of k ((eval k a0).trans h)
end whole_Text
namespace ratio_decimal
def spec : Spec := ⟨[(false, Kt29)], [(false, .str)], .own, fun j => match j with  | _ => []⟩
def cals : Cals := (Cals.cons 74 nat_Text.sig (Cals.base tabs))
def sig : Sig := spec.sig cals T Try.f54
def F (x : Dt29 × Unit) : Option (ByteArray × Unit) := limF spec cals T Try.f54 x
theorem ck : CalsOk Try.prog cals := (CalsOk.cons nat_Text.cal (CalsOk.base tabsOk))
theorem cal : CalOk Try.prog tabs 54 sig := calOk_lim' tabOk ck mix Try.func54 (by kernel_rfl) (by kernel_rfl) (by kernel_rfl) (by kernel_rfl)
def e  (a0 : Dt29) : Option (ByteArray × Unit) :=
 (nat_Text.F (a0, (10 : Int), ())).bind fun y1 =>
 some (y1.1, ())
theorem eval (k : Nat) (a0 : Dt29) : evalF spec cals T Try.f54 k (a0, ()) = e  a0 := by kernel_rfl
theorem of (k : Nat) (a0 : Dt29) {y : ByteArray × Unit} (h : e  a0 = some y) : F (a0, ()) = some y := limF_of k ((eval k a0).trans h)
end ratio_decimal
namespace ratio_Text
def spec : Spec := ⟨[(true, Kt33)], [(false, .str)], .own, fun j => match j with  | _ => []⟩
def cals : Cals := (Cals.cons 29 ratio_Norm.sig (Cals.cons 53 whole_Text.sig (Cals.cons 47 nat_Cmp.sig (Cals.cons 54 ratio_decimal.sig (Cals.base tabs)))))
def sig : Sig := spec.sig cals T Try.f32
def F (x : Dt33 × Unit) : Option (ByteArray × Unit) := limF spec cals T Try.f32 x
theorem ck : CalsOk Try.prog cals := (CalsOk.cons ratio_Norm.cal (CalsOk.cons whole_Text.cal (CalsOk.cons nat_Cmp.cal (CalsOk.cons ratio_decimal.cal (CalsOk.base tabsOk)))))
theorem cal : CalOk Try.prog tabs 32 sig := calOk_lim' tabOk ck mix Try.func32 (by kernel_rfl) (by kernel_rfl) (by kernel_rfl) (by kernel_rfl)
def e  (a0 : Dt33) : Option (ByteArray × Unit) :=
 (ratio_Norm.F (((a0.1.1, a0.1.2), a0.2), ())).bind fun y1 =>
 (whole_Text.F ((y1.1.1.1, y1.1.1.2), ())).bind fun y2 =>
 let v3 := ([(1 : Int)] : List Int)
 (nat_Cmp.F (y1.1.2, v3, ())).bind fun y4 =>
 let v5 := (y4.1 != (0 : Int))
 bif v5 then ((ratio_decimal.F (y1.1.2, ())).bind fun y6 =>
 bif decide ((⟨#[47]⟩ : ByteArray).size + y6.1.size ≤ 9223372036854775807) then (let v7 := (⟨#[47]⟩ : ByteArray) ++ y6.1
 bif decide (y2.1.size + v7.size ≤ 9223372036854775807) then (let v8 := y2.1 ++ v7
 some (v8, ()))
 else none)
 else none)
 else (some (y2.1, ()))
theorem eval (k : Nat) (a0 : Dt33) : evalF spec cals T Try.f32 k (a0, ()) = e  a0 := by kernel_rfl
theorem of (k : Nat) (a0 : Dt33) {y : ByteArray × Unit} (h : e  a0 = some y) : F (a0, ()) = some y := limF_of k ((eval k a0).trans h)
end ratio_Text
namespace nat_Of
def spec : Spec := ⟨[(false, (.int .u64))], [(false, Kt29)], .own, fun j => match j with  | _ => []⟩
def cals : Cals := (Cals.cons 45 nat_own.sig (Cals.base tabs))
def sig : Sig := spec.sig cals T Try.f21
def F (x : Int × Unit) : Option (Dt29 × Unit) := limF spec cals T Try.f21 x
theorem ck : CalsOk Try.prog cals := (CalsOk.cons nat_own.cal (CalsOk.base tabsOk))
theorem cal : CalOk Try.prog tabs 21 sig := calOk_lim' tabOk ck mix Try.func21 (by kernel_rfl) (by kernel_rfl) (by kernel_rfl) (by kernel_rfl)
def e  (a0 : Int) : Option (Dt29 × Unit) :=
 let v1 := IntKind.u32.wrap a0
 bif decide ((32 : Int) < 0) then none
 else (let v2 := shrI .u64 a0 (32 : Int)
 let v3 := IntKind.u32.wrap v2
 let v4 := ([v1, v3] : List Int)
 (nat_own.F (v4, ())).bind fun y5 =>
 some (y5.1, ()))
theorem eval (k : Nat) (a0 : Int) : evalF spec cals T Try.f21 k (a0, ()) = e  a0 := by kernel_rfl
theorem of (k : Nat) (a0 : Int) {y : Dt29 × Unit} (h : e  a0 = some y) : F (a0, ()) = some y := limF_of k ((eval k a0).trans h)
end nat_Of
namespace whole_Of
def spec : Spec := ⟨[(false, (.int .i64))], [(true, Kt31)], .own, fun j => match j with  | _ => []⟩
def cals : Cals := (Cals.cons 21 nat_Of.sig (Cals.cons 56 whole_signed.sig (Cals.base tabs)))
def sig : Sig := spec.sig cals T Try.f35
def F (x : Int × Unit) : Option (Dt31 × Unit) := limF spec cals T Try.f35 x
theorem ck : CalsOk Try.prog cals := (CalsOk.cons nat_Of.cal (CalsOk.cons whole_signed.cal (CalsOk.base tabsOk)))
theorem cal : CalOk Try.prog tabs 35 sig := calOk_lim' tabOk ck mix Try.func35 (by kernel_rfl) (by kernel_rfl) (by kernel_rfl) (by kernel_rfl)
def e  (a0 : Int) : Option (Dt31 × Unit) :=
 let v1 := decide (a0 < (0 : Int))
 bif v1 then (let v2 := IntKind.u64.wrap a0
 let v3 := negI .u64 v2
 (nat_Of.F (v3, ())).bind fun y4 =>
 let v5 := ([(-1 : Int)] : List Int)
 (whole_signed.F (y4.1, v5, ())).bind fun y6 =>
 some ((y6.1.1, y6.1.2), ()))
 else (let v7 := IntKind.u64.wrap a0
 (nat_Of.F (v7, ())).bind fun y8 =>
 (whole_signed.F (y8.1, zt29, ())).bind fun y9 =>
 some ((y9.1.1, y9.1.2), ()))
theorem eval (k : Nat) (a0 : Int) : evalF spec cals T Try.f35 k (a0, ()) = e  a0 := by kernel_rfl
theorem of (k : Nat) (a0 : Int) {y : Dt31 × Unit} (h : e  a0 = some y) : F (a0, ()) = some y := limF_of k ((eval k a0).trans h)
end whole_Of
namespace linear_Text
def spec : Spec := ⟨[(false, Kt37)], [(false, .str)], .own, fun j => match j with | 3 => [(3, .lf (.v true)), (7, .lf (.o 36 Kt36 true)), (8, .lf (.v true)), (9, .lf (.v true))] | _ => []⟩
def cals : Cals := (Cals.cons 20 linear_Norm.sig (Cals.cons 32 ratio_Text.sig (Cals.cons 35 whole_Of.sig (Cals.cons 53 whole_Text.sig (Cals.base tabs)))))
def sig : Sig := spec.sig cals T Try.f31
def F (x : Dt37 × Unit) : Option (ByteArray × Unit) := limF spec cals T Try.f31 x
theorem ck : CalsOk Try.prog cals := (CalsOk.cons linear_Norm.cal (CalsOk.cons ratio_Text.cal (CalsOk.cons whole_Of.cal (CalsOk.cons whole_Text.cal (CalsOk.base tabsOk)))))
theorem cal : CalOk Try.prog tabs 31 sig := calOk_lim' tabOk ck mix Try.func31 (by kernel_rfl) (by kernel_rfl) (by kernel_rfl) (by kernel_rfl)
def m3 (x3 : ByteArray) (x7 : Dt37) (x8 : Int) (x9 : Int) : S := ⟨[(3, .one (.lf (.val true .str x3))), (7, .one (.lf (.own 0))), (8, .one (.lf (.val true (.int .i64) x8))), (9, .one (.lf (.val true (.int .i64) x9)))], ⟨[some ⟨36, Kt36, true, true, x7⟩], []⟩⟩
def b3 (f3 : ByteArray → Dt37 → Int → Int → Option (ByteArray × Unit)) (x3 : ByteArray) (x7 : Dt37) (x8 : Int) (x9 : Int) : Option (ByteArray × Unit) :=
 let v1 := decide (x9 < x8)
 bif v1 then (bif decide (0 ≤ x9) && decide (x9 < (List.length x7 : Int)) then (let v2 := (List.getD x7 (Int.toNat x9) zt36).1
 let v3 := (((List.getD x7 (Int.toNat x9) zt36).2).1).1
 let v4 := (((List.getD x7 (Int.toNat x9) zt36).2).1).2
 let v5 := ((List.getD x7 (Int.toNat x9) zt36).2).2
 let v6 := decide (x9 > (0 : Int))
 bif v6 then (bif decide (x3.size + (⟨#[43]⟩ : ByteArray).size ≤ 9223372036854775807) then (let v7 := x3 ++ (⟨#[43]⟩ : ByteArray)
 (ratio_Text.F (((v3, v4), v5), ())).bind fun y8 =>
 bif decide (y8.1.size + (⟨#[42, 120]⟩ : ByteArray).size ≤ 9223372036854775807) then (let v9 := y8.1 ++ (⟨#[42, 120]⟩ : ByteArray)
 (whole_Of.F (v2, ())).bind fun y10 =>
 (whole_Text.F ((y10.1.1, y10.1.2), ())).bind fun y11 =>
 bif decide (v9.size + y11.1.size ≤ 9223372036854775807) then (let v12 := v9 ++ y11.1
 bif decide (v7.size + v12.size ≤ 9223372036854775807) then (let v13 := v7 ++ v12
 let v14 := IntKind.i64.wrap (x9 + (1 : Int))
 f3 v13 x7 x8 v14)
 else none)
 else none)
 else none)
 else none)
 else ((ratio_Text.F (((v3, v4), v5), ())).bind fun y15 =>
 bif decide (y15.1.size + (⟨#[42, 120]⟩ : ByteArray).size ≤ 9223372036854775807) then (let v16 := y15.1 ++ (⟨#[42, 120]⟩ : ByteArray)
 (whole_Of.F (v2, ())).bind fun y17 =>
 (whole_Text.F ((y17.1.1, y17.1.2), ())).bind fun y18 =>
 bif decide (v16.size + y18.1.size ≤ 9223372036854775807) then (let v19 := v16 ++ y18.1
 bif decide (x3.size + v19.size ≤ 9223372036854775807) then (let v20 := x3 ++ v19
 let v21 := IntKind.i64.wrap (x9 + (1 : Int))
 f3 v20 x7 x8 v21)
 else none)
 else none)
 else none))
 else none)
 else (let v22 := (x3.toList == (⟨#[]⟩ : ByteArray).toList)
 bif v22 then (some ((⟨#[48]⟩ : ByteArray), ()))
 else (some (x3, ())))
def e (f3 : ByteArray → Dt37 → Int → Int → Option (ByteArray × Unit)) (a0 : Dt37) : Option (ByteArray × Unit) :=
 (linear_Norm.F (a0, ())).bind fun y1 =>
 let v2 := (List.length y1.1 : Int)
 f3 (⟨#[]⟩ : ByteArray) y1.1 v2 (0 : Int)
def L3 (k : Nat) (x3 : ByteArray) (x7 : Dt37) (x8 : Int) (x9 : Int) : Option (ByteArray × Unit) := heads (spec.env cals T Try.f31) (Func.pts Try.f31) k 3 (m3 x3 x7 x8 x9)
theorem L3_succ (k : Nat) (x3 : ByteArray) (x7 : Dt37) (x8 : Int) (x9 : Int) : L3 (k + 1) x3 x7 x8 x9 = b3 (L3 k) x3 x7 x8 x9 := by kernel_rfl
theorem eval (k : Nat) (a0 : Dt37) : evalF spec cals T Try.f31 k (a0, ()) = e (L3 k) a0 := by kernel_rfl
theorem of (k : Nat) (a0 : Dt37) {y : ByteArray × Unit} (h : e (L3 k) a0 = some y) : F (a0, ()) = some y := limF_of k ((eval k a0).trans h)
end linear_Text
namespace atoms_key
def spec : Spec := ⟨[(true, Kt50)], [(false, .str)], .own, fun j => match j with  | _ => []⟩
def cals : Cals := (Cals.cons 31 linear_Text.sig (Cals.cons 32 ratio_Text.sig (Cals.base tabs)))
def sig : Sig := spec.sig cals T Try.f12
def F (x : Dt50 × Unit) : Option (ByteArray × Unit) := limF spec cals T Try.f12 x
theorem ck : CalsOk Try.prog cals := (CalsOk.cons linear_Text.cal (CalsOk.cons ratio_Text.cal (CalsOk.base tabsOk)))
theorem cal : CalOk Try.prog tabs 12 sig := calOk_lim' tabOk ck mix Try.func12 (by kernel_rfl) (by kernel_rfl) (by kernel_rfl) (by kernel_rfl)
def e  (a0 : Dt50) : Option (ByteArray × Unit) :=
 bif a0.2.2.2 then ((linear_Text.F (a0.2.1, ())).bind fun y1 =>
 bif decide ((⟨#[60]⟩ : ByteArray).size + y1.1.size ≤ 9223372036854775807) then (let v2 := (⟨#[60]⟩ : ByteArray) ++ y1.1
 bif decide (v2.size + (⟨#[32]⟩ : ByteArray).size ≤ 9223372036854775807) then (let v3 := v2 ++ (⟨#[32]⟩ : ByteArray)
 (ratio_Text.F (((a0.2.2.1.1.1, a0.2.2.1.1.2), a0.2.2.1.2), ())).bind fun y4 =>
 bif decide (v3.size + y4.1.size ≤ 9223372036854775807) then (let v5 := v3 ++ y4.1
 bif decide (v5.size + (⟨#[32]⟩ : ByteArray).size ≤ 9223372036854775807) then (let v6 := v5 ++ (⟨#[32]⟩ : ByteArray)
 bif decide (v6.size + a0.1.size ≤ 9223372036854775807) then (let v7 := v6 ++ a0.1
 some (v7, ()))
 else none)
 else none)
 else none)
 else none)
 else none)
 else ((linear_Text.F (a0.2.1, ())).bind fun y8 =>
 bif decide ((⟨#[61]⟩ : ByteArray).size + y8.1.size ≤ 9223372036854775807) then (let v9 := (⟨#[61]⟩ : ByteArray) ++ y8.1
 bif decide (v9.size + (⟨#[32]⟩ : ByteArray).size ≤ 9223372036854775807) then (let v10 := v9 ++ (⟨#[32]⟩ : ByteArray)
 (ratio_Text.F (((a0.2.2.1.1.1, a0.2.2.1.1.2), a0.2.2.1.2), ())).bind fun y11 =>
 bif decide (v10.size + y11.1.size ≤ 9223372036854775807) then (let v12 := v10 ++ y11.1
 bif decide (v12.size + (⟨#[32]⟩ : ByteArray).size ≤ 9223372036854775807) then (let v13 := v12 ++ (⟨#[32]⟩ : ByteArray)
 bif decide (v13.size + a0.1.size ≤ 9223372036854775807) then (let v14 := v13 ++ a0.1
 some (v14, ()))
 else none)
 else none)
 else none)
 else none)
 else none)
theorem eval (k : Nat) (a0 : Dt50) : evalF spec cals T Try.f12 k (a0, ()) = e  a0 := by kernel_rfl
theorem of (k : Nat) (a0 : Dt50) {y : ByteArray × Unit} (h : e  a0 = some y) : F (a0, ()) = some y := limF_of k ((eval k a0).trans h)
end atoms_key
end
end Go.Fx.Try
