import Derived.Test.YthmdbafinpmojaaEv30
import Derived.Test.YthmdbafinpmojaaProg
namespace Go.Fx.Try
open Go Go.Proofs Go.Fx
set_option linter.unusedVariables false
set_option maxRecDepth 100000

def ti3 : TI := ⟨.int .i64, (.int .i64), false, 8⟩
def T3 : Tab := Tab.cons 3 ti3 Tab.nil
theorem tab3 : TabOk Try.prog T3 := TabOk.cons (by kernel_rfl) { info := ⟨Try.t3, by kernel_rfl, by kernel_rfl, by kernel_rfl, (.int .i64 0), by kernel_rfl, by kernel_rfl⟩, agg := ⟨_, Try.underlying3, rfl⟩, desc := ⟨Try.underlying3, rfl⟩ } TabOk.nil
def ti4 : TI := ⟨.bool, .bool, false, 1⟩
def T4 : Tab := Tab.cons 4 ti4 T3
theorem tab4 : TabOk Try.prog T4 := TabOk.cons (by kernel_rfl) { info := ⟨Try.t4, by kernel_rfl, by kernel_rfl, by kernel_rfl, (.bool false), by kernel_rfl, by kernel_rfl⟩, agg := ⟨_, Try.underlying4, rfl⟩, desc := ⟨Try.underlying4, rfl⟩ } tab3
def ti115 : TI := ⟨.int .u32, (.int .u32), false, 4⟩
def T115 : Tab := Tab.cons 115 ti115 T4
theorem tab115 : TabOk Try.prog T115 := TabOk.cons (by kernel_rfl) { info := ⟨Try.t115, by kernel_rfl, by kernel_rfl, by kernel_rfl, (.int .u32 0), by kernel_rfl, by kernel_rfl⟩, agg := ⟨_, Try.underlying115, rfl⟩, desc := ⟨Try.underlying115, rfl⟩ } tab4
def ti41 : TI := ⟨.sl 115, (.sl 115 (.int .u32)), false, 24⟩
def T41 : Tab := Tab.cons 41 ti41 T115
theorem tab41 : TabOk Try.prog T41 := TabOk.cons (by kernel_rfl) { info := ⟨Try.t41, by kernel_rfl, by kernel_rfl, by kernel_rfl, (.slice none 0 0), by kernel_rfl, by kernel_rfl⟩, agg := ⟨_, Try.underlying41, rfl⟩, desc := ⟨Try.underlying41, ti115, by kernel_rfl, rfl, by decide⟩ } tab115
def ti43 : TI := ⟨.struct [(0, 4), (1, 41)], (.prod .bool (.sl 115 (.int .u32))), true, 32⟩
def T43 : Tab := Tab.cons 43 ti43 T41
theorem tab43 : TabOk Try.prog T43 := TabOk.cons (by kernel_rfl) { info := ⟨Try.t43, by kernel_rfl, by kernel_rfl, by kernel_rfl, (.agg #[.bool false, .slice none 0 0]), by kernel_rfl, by kernel_rfl⟩, agg := ⟨_, Try.underlying43, rfl⟩, desc := ⟨_, Try.underlying43, rfl, fun i o ft h => match i, h with | 0, h => by simp at h; obtain ⟨rfl, rfl⟩ := h; exact ⟨_, rfl, rfl, rfl, ti4, by kernel_rfl, by decide⟩ | 1, h => by simp at h; obtain ⟨rfl, rfl⟩ := h; exact ⟨_, rfl, rfl, rfl, ti41, by kernel_rfl, by decide⟩ | n + 2, h => by simp at h⟩ } tab41
def ti45 : TI := ⟨.struct [(0, 43), (2, 41)], (.prod (.prod .bool (.sl 115 (.int .u32))) (.sl 115 (.int .u32))), true, 56⟩
def T45 : Tab := Tab.cons 45 ti45 T43
theorem tab45 : TabOk Try.prog T45 := TabOk.cons (by kernel_rfl) { info := ⟨Try.t45, by kernel_rfl, by kernel_rfl, by kernel_rfl, (.agg #[.bool false, .slice none 0 0, .slice none 0 0]), by kernel_rfl, by kernel_rfl⟩, agg := ⟨_, Try.underlying45, rfl⟩, desc := ⟨_, Try.underlying45, rfl, fun i o ft h => match i, h with | 0, h => by simp at h; obtain ⟨rfl, rfl⟩ := h; exact ⟨_, rfl, rfl, rfl, ti43, by kernel_rfl, by decide⟩ | 1, h => by simp at h; obtain ⟨rfl, rfl⟩ := h; exact ⟨_, rfl, rfl, rfl, ti41, by kernel_rfl, by decide⟩ | n + 2, h => by simp at h⟩ } tab43
def ti47 : TI := ⟨.struct [(0, 45), (3, 45)], (.prod (.prod (.prod .bool (.sl 115 (.int .u32))) (.sl 115 (.int .u32))) (.prod (.prod .bool (.sl 115 (.int .u32))) (.sl 115 (.int .u32)))), true, 112⟩
def T47 : Tab := Tab.cons 47 ti47 T45
theorem tab47 : TabOk Try.prog T47 := TabOk.cons (by kernel_rfl) { info := ⟨Try.t47, by kernel_rfl, by kernel_rfl, by kernel_rfl, (.agg #[.bool false, .slice none 0 0, .slice none 0 0, .bool false, .slice none 0 0, .slice none 0 0]), by kernel_rfl, by kernel_rfl⟩, agg := ⟨_, Try.underlying47, rfl⟩, desc := ⟨_, Try.underlying47, rfl, fun i o ft h => match i, h with | 0, h => by simp at h; obtain ⟨rfl, rfl⟩ := h; exact ⟨_, rfl, rfl, rfl, ti45, by kernel_rfl, by decide⟩ | 1, h => by simp at h; obtain ⟨rfl, rfl⟩ := h; exact ⟨_, rfl, rfl, rfl, ti45, by kernel_rfl, by decide⟩ | n + 2, h => by simp at h⟩ } tab45
def ti53 : TI := ⟨.struct [(0, 4), (1, 47), (7, 3)], (.prod .bool (.prod (.prod (.prod (.prod .bool (.sl 115 (.int .u32))) (.sl 115 (.int .u32))) (.prod (.prod .bool (.sl 115 (.int .u32))) (.sl 115 (.int .u32)))) (.int .i64))), true, 128⟩
def T53 : Tab := Tab.cons 53 ti53 T47
theorem tab53 : TabOk Try.prog T53 := TabOk.cons (by kernel_rfl) { info := ⟨Try.t53, by kernel_rfl, by kernel_rfl, by kernel_rfl, (.agg #[.bool false, .bool false, .slice none 0 0, .slice none 0 0, .bool false, .slice none 0 0, .slice none 0 0,  .int .i64 0]), by kernel_rfl, by kernel_rfl⟩, agg := ⟨_, Try.underlying53, rfl⟩, desc := ⟨_, Try.underlying53, rfl, fun i o ft h => match i, h with | 0, h => by simp at h; obtain ⟨rfl, rfl⟩ := h; exact ⟨_, rfl, rfl, rfl, ti4, by kernel_rfl, by decide⟩ | 1, h => by simp at h; obtain ⟨rfl, rfl⟩ := h; exact ⟨_, rfl, rfl, rfl, ti47, by kernel_rfl, by decide⟩ | 2, h => by simp at h; obtain ⟨rfl, rfl⟩ := h; exact ⟨_, rfl, rfl, rfl, ti3, by kernel_rfl, by decide⟩ | n + 3, h => by simp at h⟩ } tab47
def ti97 : TI := ⟨.struct [(0, 3), (1, 4), (2, 3), (3, 53)], (.prod (.int .i64) (.prod .bool (.prod (.int .i64) (.prod .bool (.prod (.prod (.prod (.prod .bool (.sl 115 (.int .u32))) (.sl 115 (.int .u32))) (.prod (.prod .bool (.sl 115 (.int .u32))) (.sl 115 (.int .u32)))) (.int .i64)))))), true, 152⟩
def T97 : Tab := Tab.cons 97 ti97 T53
theorem tab97 : TabOk Try.prog T97 := TabOk.cons (by kernel_rfl) { info := ⟨Try.t97, by kernel_rfl, by kernel_rfl, by kernel_rfl, (.agg #[ .int .i64 0, .bool false,  .int .i64 0, .bool false, .bool false, .slice none 0 0, .slice none 0 0, .bool false, .slice none 0 0, .slice none 0 0,  .int .i64 0]), by kernel_rfl, by kernel_rfl⟩, agg := ⟨_, Try.underlying97, rfl⟩, desc := ⟨_, Try.underlying97, rfl, fun i o ft h => match i, h with | 0, h => by simp at h; obtain ⟨rfl, rfl⟩ := h; exact ⟨_, rfl, rfl, rfl, ti3, by kernel_rfl, by decide⟩ | 1, h => by simp at h; obtain ⟨rfl, rfl⟩ := h; exact ⟨_, rfl, rfl, rfl, ti4, by kernel_rfl, by decide⟩ | 2, h => by simp at h; obtain ⟨rfl, rfl⟩ := h; exact ⟨_, rfl, rfl, rfl, ti3, by kernel_rfl, by decide⟩ | 3, h => by simp at h; obtain ⟨rfl, rfl⟩ := h; exact ⟨_, rfl, rfl, rfl, ti53, by kernel_rfl, by decide⟩ | n + 4, h => by simp at h⟩ } tab53
def ti27 : TI := ⟨.sl 97, (.sl 97 (.prod (.int .i64) (.prod .bool (.prod (.int .i64) (.prod .bool (.prod (.prod (.prod (.prod .bool (.sl 115 (.int .u32))) (.sl 115 (.int .u32))) (.prod (.prod .bool (.sl 115 (.int .u32))) (.sl 115 (.int .u32)))) (.int .i64))))))), false, 24⟩
def T27 : Tab := Tab.cons 27 ti27 T97
theorem tab27 : TabOk Try.prog T27 := TabOk.cons (by kernel_rfl) { info := ⟨Try.t27, by kernel_rfl, by kernel_rfl, by kernel_rfl, (.slice none 0 0), by kernel_rfl, by kernel_rfl⟩, agg := ⟨_, Try.underlying27, rfl⟩, desc := ⟨Try.underlying27, ti97, by kernel_rfl, rfl, by decide⟩ } tab97
def ti73 : TI := ⟨.struct [(0, 3), (1, 27)], (.prod (.int .i64) (.sl 97 (.prod (.int .i64) (.prod .bool (.prod (.int .i64) (.prod .bool (.prod (.prod (.prod (.prod .bool (.sl 115 (.int .u32))) (.sl 115 (.int .u32))) (.prod (.prod .bool (.sl 115 (.int .u32))) (.sl 115 (.int .u32)))) (.int .i64)))))))), true, 32⟩
def T73 : Tab := Tab.cons 73 ti73 T27
theorem tab73 : TabOk Try.prog T73 := TabOk.cons (by kernel_rfl) { info := ⟨Try.t73, by kernel_rfl, by kernel_rfl, by kernel_rfl, (.agg #[ .int .i64 0, .slice none 0 0]), by kernel_rfl, by kernel_rfl⟩, agg := ⟨_, Try.underlying73, rfl⟩, desc := ⟨_, Try.underlying73, rfl, fun i o ft h => match i, h with | 0, h => by simp at h; obtain ⟨rfl, rfl⟩ := h; exact ⟨_, rfl, rfl, rfl, ti3, by kernel_rfl, by decide⟩ | 1, h => by simp at h; obtain ⟨rfl, rfl⟩ := h; exact ⟨_, rfl, rfl, rfl, ti27, by kernel_rfl, by decide⟩ | n + 2, h => by simp at h⟩ } tab27
def ti55 : TI := ⟨.struct [(0, 53), (8, 53)], (.prod (.prod .bool (.prod (.prod (.prod (.prod .bool (.sl 115 (.int .u32))) (.sl 115 (.int .u32))) (.prod (.prod .bool (.sl 115 (.int .u32))) (.sl 115 (.int .u32)))) (.int .i64))) (.prod .bool (.prod (.prod (.prod (.prod .bool (.sl 115 (.int .u32))) (.sl 115 (.int .u32))) (.prod (.prod .bool (.sl 115 (.int .u32))) (.sl 115 (.int .u32)))) (.int .i64)))), true, 256⟩
def T55 : Tab := Tab.cons 55 ti55 T73
theorem tab55 : TabOk Try.prog T55 := TabOk.cons (by kernel_rfl) { info := ⟨Try.t55, by kernel_rfl, by kernel_rfl, by kernel_rfl, (.agg #[.bool false, .bool false, .slice none 0 0, .slice none 0 0, .bool false, .slice none 0 0, .slice none 0 0,  .int .i64 0, .bool false, .bool false, .slice none 0 0, .slice none 0 0, .bool false, .slice none 0 0, .slice none 0 0,  .int .i64 0]), by kernel_rfl, by kernel_rfl⟩, agg := ⟨_, Try.underlying55, rfl⟩, desc := ⟨_, Try.underlying55, rfl, fun i o ft h => match i, h with | 0, h => by simp at h; obtain ⟨rfl, rfl⟩ := h; exact ⟨_, rfl, rfl, rfl, ti53, by kernel_rfl, by decide⟩ | 1, h => by simp at h; obtain ⟨rfl, rfl⟩ := h; exact ⟨_, rfl, rfl, rfl, ti53, by kernel_rfl, by decide⟩ | n + 2, h => by simp at h⟩ } tab73
def ti26 : TI := ⟨.sl 55, (.sl 55 (.prod (.prod .bool (.prod (.prod (.prod (.prod .bool (.sl 115 (.int .u32))) (.sl 115 (.int .u32))) (.prod (.prod .bool (.sl 115 (.int .u32))) (.sl 115 (.int .u32)))) (.int .i64))) (.prod .bool (.prod (.prod (.prod (.prod .bool (.sl 115 (.int .u32))) (.sl 115 (.int .u32))) (.prod (.prod .bool (.sl 115 (.int .u32))) (.sl 115 (.int .u32)))) (.int .i64))))), false, 24⟩
def T26 : Tab := Tab.cons 26 ti26 T55
theorem tab26 : TabOk Try.prog T26 := TabOk.cons (by kernel_rfl) { info := ⟨Try.t26, by kernel_rfl, by kernel_rfl, by kernel_rfl, (.slice none 0 0), by kernel_rfl, by kernel_rfl⟩, agg := ⟨_, Try.underlying26, rfl⟩, desc := ⟨Try.underlying26, ti55, by kernel_rfl, rfl, by decide⟩ } tab55
def ti75 : TI := ⟨.struct [(0, 73), (2, 4), (3, 26)], (.prod (.prod (.int .i64) (.sl 97 (.prod (.int .i64) (.prod .bool (.prod (.int .i64) (.prod .bool (.prod (.prod (.prod (.prod .bool (.sl 115 (.int .u32))) (.sl 115 (.int .u32))) (.prod (.prod .bool (.sl 115 (.int .u32))) (.sl 115 (.int .u32)))) (.int .i64)))))))) (.prod .bool (.sl 55 (.prod (.prod .bool (.prod (.prod (.prod (.prod .bool (.sl 115 (.int .u32))) (.sl 115 (.int .u32))) (.prod (.prod .bool (.sl 115 (.int .u32))) (.sl 115 (.int .u32)))) (.int .i64))) (.prod .bool (.prod (.prod (.prod (.prod .bool (.sl 115 (.int .u32))) (.sl 115 (.int .u32))) (.prod (.prod .bool (.sl 115 (.int .u32))) (.sl 115 (.int .u32)))) (.int .i64))))))), true, 64⟩
def T75 : Tab := Tab.cons 75 ti75 T26
theorem tab75 : TabOk Try.prog T75 := TabOk.cons (by kernel_rfl) { info := ⟨Try.t75, by kernel_rfl, by kernel_rfl, by kernel_rfl, (.agg #[ .int .i64 0, .slice none 0 0, .bool false, .slice none 0 0]), by kernel_rfl, by kernel_rfl⟩, agg := ⟨_, Try.underlying75, rfl⟩, desc := ⟨_, Try.underlying75, rfl, fun i o ft h => match i, h with | 0, h => by simp at h; obtain ⟨rfl, rfl⟩ := h; exact ⟨_, rfl, rfl, rfl, ti73, by kernel_rfl, by decide⟩ | 1, h => by simp at h; obtain ⟨rfl, rfl⟩ := h; exact ⟨_, rfl, rfl, rfl, ti4, by kernel_rfl, by decide⟩ | 2, h => by simp at h; obtain ⟨rfl, rfl⟩ := h; exact ⟨_, rfl, rfl, rfl, ti26, by kernel_rfl, by decide⟩ | n + 3, h => by simp at h⟩ } tab26
def ti23 : TI := ⟨.int .i64, (.int .i64), false, 8⟩
def T23 : Tab := Tab.cons 23 ti23 T75
theorem tab23 : TabOk Try.prog T23 := TabOk.cons (by kernel_rfl) { info := ⟨Try.t23, by kernel_rfl, by kernel_rfl, by kernel_rfl, (.int .i64 0), by kernel_rfl, by kernel_rfl⟩, agg := ⟨_, Try.underlying23, rfl⟩, desc := ⟨Try.underlying23, rfl⟩ } tab75
def ti29 : TI := ⟨.struct [(0, 26), (1, 3), (2, 27)], (.prod (.sl 55 (.prod (.prod .bool (.prod (.prod (.prod (.prod .bool (.sl 115 (.int .u32))) (.sl 115 (.int .u32))) (.prod (.prod .bool (.sl 115 (.int .u32))) (.sl 115 (.int .u32)))) (.int .i64))) (.prod .bool (.prod (.prod (.prod (.prod .bool (.sl 115 (.int .u32))) (.sl 115 (.int .u32))) (.prod (.prod .bool (.sl 115 (.int .u32))) (.sl 115 (.int .u32)))) (.int .i64))))) (.prod (.int .i64) (.sl 97 (.prod (.int .i64) (.prod .bool (.prod (.int .i64) (.prod .bool (.prod (.prod (.prod (.prod .bool (.sl 115 (.int .u32))) (.sl 115 (.int .u32))) (.prod (.prod .bool (.sl 115 (.int .u32))) (.sl 115 (.int .u32)))) (.int .i64))))))))), true, 56⟩
def T29 : Tab := Tab.cons 29 ti29 T23
theorem tab29 : TabOk Try.prog T29 := TabOk.cons (by kernel_rfl) { info := ⟨Try.t29, by kernel_rfl, by kernel_rfl, by kernel_rfl, (.agg #[.slice none 0 0,  .int .i64 0, .slice none 0 0]), by kernel_rfl, by kernel_rfl⟩, agg := ⟨_, Try.underlying29, rfl⟩, desc := ⟨_, Try.underlying29, rfl, fun i o ft h => match i, h with | 0, h => by simp at h; obtain ⟨rfl, rfl⟩ := h; exact ⟨_, rfl, rfl, rfl, ti26, by kernel_rfl, by decide⟩ | 1, h => by simp at h; obtain ⟨rfl, rfl⟩ := h; exact ⟨_, rfl, rfl, rfl, ti3, by kernel_rfl, by decide⟩ | 2, h => by simp at h; obtain ⟨rfl, rfl⟩ := h; exact ⟨_, rfl, rfl, rfl, ti27, by kernel_rfl, by decide⟩ | n + 3, h => by simp at h⟩ } tab23
def ti22 : TI := ⟨.ptr, .rp .unit, false, 8⟩
def T22 : Tab := Tab.cons 22 ti22 T29
theorem tab22 : TabOk Try.prog T22 := TabOk.cons (by kernel_rfl) { info := ⟨Try.t22, by kernel_rfl, by kernel_rfl, by kernel_rfl, (.pointer none), by kernel_rfl, by kernel_rfl⟩, agg := ⟨_, Try.underlying22, rfl⟩, desc := ⟨_, Try.underlying22⟩ } tab29
def ti139 : TI := ⟨.int .u64, (.int .u64), false, 8⟩
def T139 : Tab := Tab.cons 139 ti139 T22
theorem tab139 : TabOk Try.prog T139 := TabOk.cons (by kernel_rfl) { info := ⟨Try.t139, by kernel_rfl, by kernel_rfl, by kernel_rfl, (.int .u64 0), by kernel_rfl, by kernel_rfl⟩, agg := ⟨_, Try.underlying139, rfl⟩, desc := ⟨Try.underlying139, rfl⟩ } tab22
def ti138 : TI := ⟨.int .u64, (.int .u64), false, 8⟩
def T138 : Tab := Tab.cons 138 ti138 T139
theorem tab138 : TabOk Try.prog T138 := TabOk.cons (by kernel_rfl) { info := ⟨Try.t138, by kernel_rfl, by kernel_rfl, by kernel_rfl, (.int .u64 0), by kernel_rfl, by kernel_rfl⟩, agg := ⟨_, Try.underlying138, rfl⟩, desc := ⟨Try.underlying138, rfl⟩ } tab139
def T : Tab := T138
theorem tabOk : TabOk Try.prog T := tab138
theorem mix : Try.prog.follows .mixedOrders = true := by kernel_rfl
def tabs : Nat → Option Tbl := noTabs
theorem tabsOk : ∀ g tb, tabs g = some tb → TblOk Try.prog tb := noTabs_ok

abbrev Kt41 : K := (.sl 115 (.int .u32))
abbrev Dt41 : Type := (List Int)
abbrev zt41 : Dt41 := ([] : List Int)
abbrev Kt43 : K := (.prod .bool Kt41)
abbrev Dt43 : Type := (Bool × Dt41)
abbrev zt43 : Dt43 := (false, zt41)
abbrev Kt45 : K := (.prod Kt43 Kt41)
abbrev Dt45 : Type := (Dt43 × Dt41)
abbrev zt45 : Dt45 := (zt43, zt41)
abbrev Kt47 : K := (.prod Kt45 Kt45)
abbrev Dt47 : Type := (Dt45 × Dt45)
abbrev zt47 : Dt47 := (zt45, zt45)
abbrev Kt53 : K := (.prod .bool (.prod Kt47 (.int .i64)))
abbrev Dt53 : Type := (Bool × (Dt47 × Int))
abbrev zt53 : Dt53 := (false, (zt47, (0 : Int)))
abbrev Kt97 : K := (.prod (.int .i64) (.prod .bool (.prod (.int .i64) Kt53)))
abbrev Dt97 : Type := (Int × (Bool × (Int × Dt53)))
abbrev zt97 : Dt97 := ((0 : Int), (false, ((0 : Int), zt53)))
abbrev Kt27 : K := (.sl 97 Kt97)
abbrev Dt27 : Type := (List Dt97)
abbrev zt27 : Dt27 := ([] : List (Int × (Bool × (Int × (Bool × ((((Bool × (List Int)) × (List Int)) × ((Bool × (List Int)) × (List Int))) × Int))))))
abbrev Kt73 : K := (.prod (.int .i64) Kt27)
abbrev Dt73 : Type := (Int × Dt27)
abbrev zt73 : Dt73 := ((0 : Int), zt27)
abbrev Kt55 : K := (.prod Kt53 Kt53)
abbrev Dt55 : Type := (Dt53 × Dt53)
abbrev zt55 : Dt55 := (zt53, zt53)
abbrev Kt26 : K := (.sl 55 Kt55)
abbrev Dt26 : Type := (List Dt55)
abbrev zt26 : Dt26 := ([] : List ((Bool × ((((Bool × (List Int)) × (List Int)) × ((Bool × (List Int)) × (List Int))) × Int)) × (Bool × ((((Bool × (List Int)) × (List Int)) × ((Bool × (List Int)) × (List Int))) × Int))))
abbrev Kt29 : K := (.prod Kt26 Kt73)
abbrev Dt29 : Type := (Dt26 × Dt73)
abbrev zt29 : Dt29 := (zt26, zt73)
abbrev Kt75 : K := (.prod Kt73 (.prod .bool Kt26))
abbrev Dt75 : Type := (Dt73 × (Bool × Dt26))
abbrev zt75 : Dt75 := (zt73, (false, zt26))

/-! ### fulcrum/bounds.New -/
def bounds_New.spec : XSpec := ⟨none, false, [(false, (.int .i64))], false, some ⟨75, Kt75⟩, [(false, (.int .i64))], false, fun j => match j with  | _ => []⟩
noncomputable def bounds_New.cals : Cals := (Cals.base tabs)
noncomputable def bounds_New.sig : XSig := bounds_New.spec.sig bounds_New.cals T Try.f8
noncomputable def bounds_New.F (d : Unit) (x : Int × Unit) : Option ((Option Dt75) × (Int × Unit) × Unit) := limX bounds_New.spec bounds_New.cals T Try.f8 d x
theorem bounds_New.ck : CalsOk Try.prog bounds_New.cals := (CalsOk.base tabsOk)
theorem bounds_New.cal : XOk Try.prog tabs 8 bounds_New.sig := xok_of tabOk bounds_New.ck mix Try.func8 (by kernel_rfl) (by kernel_rfl) (by kernel_rfl) (by kernel_rfl)
noncomputable def bounds_New.e  (G : Gh) (d : Unit) (a0 : Int) : Option (((Option Dt75) × (Int × Unit) × Unit) × Nat × List Value) :=
  let v1 := decide (a0 < (0 : Int))
  bif v1 then (some ((none, ((1 : Int), ()), ()), 0, []))
  else (let v2 := decide (a0 > (65536 : Int))
  bif v2 then (some ((none, ((1 : Int), ()), ()), 0, []))
  else (bif decide (0 ≤ a0) && (decide (a0 ≤ a0) && (decide (Int.toNat a0 * 256 ≤ 281474976710656) && Nat.blt 0 256)) then (let v3 := List.replicate (Int.toNat a0) zt55
  some ((some (zt73, (true, v3)), ((0 : Int), ()), ()), 0, []))
  else none))
theorem bounds_New.eval (k : Nat) (G : Gh) (d : Unit) (a0 : Int) : evalX bounds_New.spec bounds_New.cals T Try.f8 k G d (a0, ()) = bounds_New.e  G d a0 := by kernel_rfl
theorem bounds_New.of (d : Unit) (a0 : Int) (y : ((Option Dt75) × (Int × Unit) × Unit)) (h : ∀ G : Gh, ∃ k : Nat, bounds_New.e  G d a0 = some (y, (0, []))) : bounds_New.F d (a0, ()) = some y := limX_of (q := bounds_New.spec) (C := bounds_New.cals) (T := T) (f := Try.f8) (d := d) (x := (a0, ())) y fun G => (h G).imp fun k hk => (bounds_New.eval k G d a0).trans hk

/-! ### fulcrum/fulcrumref08.New -/
def fulcrumref08_New.spec : Spec := ⟨[(false, (.int .i64))], [(true, Kt29), (false, (.int .i64))], .own, fun j => match j with  | _ => []⟩
noncomputable def fulcrumref08_New.cals : Cals := (Cals.base tabs)
noncomputable def fulcrumref08_New.sig : Sig := fulcrumref08_New.spec.sig fulcrumref08_New.cals T Try.f9
noncomputable def fulcrumref08_New.F (x : Int × Unit) : Option (Dt29 × Int × Unit) := limF fulcrumref08_New.spec fulcrumref08_New.cals T Try.f9 x
theorem fulcrumref08_New.ck : CalsOk Try.prog fulcrumref08_New.cals := (CalsOk.base tabsOk)
theorem fulcrumref08_New.cal : CalOk Try.prog tabs 9 fulcrumref08_New.sig := calOk_lim' tabOk fulcrumref08_New.ck mix Try.func9 (by kernel_rfl) (by kernel_rfl) (by kernel_rfl) (by kernel_rfl)
noncomputable def fulcrumref08_New.e  (a0 : Int) : Option (Dt29 × Int × Unit) :=
  let v1 := decide (a0 < (0 : Int))
  bif v1 then (some (zt29, (1 : Int), ()))
  else (let v2 := decide (a0 > (65536 : Int))
  bif v2 then (some (zt29, (1 : Int), ()))
  else (bif decide (0 ≤ a0) && (decide (a0 ≤ a0) && (decide (Int.toNat a0 * 256 ≤ 281474976710656) && Nat.blt 0 256)) then (let v3 := List.replicate (Int.toNat a0) zt55
  some ((v3, zt73), (0 : Int), ()))
  else none))
theorem fulcrumref08_New.eval (k : Nat) (a0 : Int) : evalF fulcrumref08_New.spec fulcrumref08_New.cals T Try.f9 k (a0, ()) = fulcrumref08_New.e  a0 := by kernel_rfl
theorem fulcrumref08_New.F_eq (a0 : Int) : fulcrumref08_New.F (a0, ()) = limF fulcrumref08_New.spec fulcrumref08_New.cals T Try.f9 (a0, ()) := by kernel_rfl
theorem fulcrumref08_New.of (k : Nat) (a0 : Int) {y : Dt29 × Int × Unit} (h : fulcrumref08_New.e  a0 = some y) : fulcrumref08_New.F (a0, ()) = some y := (fulcrumref08_New.F_eq a0).trans (limF_of (q := fulcrumref08_New.spec) (C := fulcrumref08_New.cals) (T := T) (f := Try.f9) (x := (a0, ())) (y := y) k ((fulcrumref08_New.eval k a0).trans h))

/-! ### (*fulcrum/bounds.Store).is -/
def bounds_Store_is.spec : XSpec := ⟨some ⟨75, 0, Kt75, 0⟩, false, [], false, none, [(false, .bool)], false, fun j => match j with  | _ => []⟩
noncomputable def bounds_Store_is.cals : Cals := (Cals.base tabs)
noncomputable def bounds_Store_is.sig : XSig := bounds_Store_is.spec.sig bounds_Store_is.cals T Try.f31
noncomputable def bounds_Store_is.F (d : Dt75) (x : Unit) : Option (Unit × (Bool × Unit) × Dt75) := limX bounds_Store_is.spec bounds_Store_is.cals T Try.f31 d x
theorem bounds_Store_is.ck : CalsOk Try.prog bounds_Store_is.cals := (CalsOk.base tabsOk)
theorem bounds_Store_is.cal : XOk Try.prog tabs 31 bounds_Store_is.sig := xok_of tabOk bounds_Store_is.ck mix Try.func31 (by kernel_rfl) (by kernel_rfl) (by kernel_rfl) (by kernel_rfl)
noncomputable def bounds_Store_is.e  (G : Gh) (d : Dt75)  : Option ((Unit × (Bool × Unit) × Dt75) × Nat × List Value) :=
  some (((), (d.2.1, ()), ((d.1.1, d.1.2), (d.2.1, d.2.2))), G.b, [])
theorem bounds_Store_is.eval (k : Nat) (G : Gh) (d : Dt75)  : evalX bounds_Store_is.spec bounds_Store_is.cals T Try.f31 k G d () = bounds_Store_is.e  G d  := by kernel_rfl
theorem bounds_Store_is.of (d : Dt75)  (y : (Unit × (Bool × Unit) × Dt75)) (h : ∀ G : Gh, ∃ k : Nat, bounds_Store_is.e  G d  = some (y, (G.b, []))) : bounds_Store_is.F d () = some y := limX_of (q := bounds_Store_is.spec) (C := bounds_Store_is.cals) (T := T) (f := Try.f31) (d := d) (x := ()) y fun G => (h G).imp fun k hk => (bounds_Store_is.eval k G d ).trans hk

/-! ### (*fulcrum/bounds.Store).Grow -/
def bounds_Store_Grow.spec : XSpec := ⟨some ⟨75, 0, Kt75, 0⟩, false, [], false, none, [(false, (.int .i64)), (false, (.int .i64))], false, fun j => match j with  | _ => []⟩
noncomputable def bounds_Store_Grow.cals : Cals := (Cals.consX 31 false bounds_Store_is.sig (Cals.base tabs))
noncomputable def bounds_Store_Grow.sig : XSig := bounds_Store_Grow.spec.sig bounds_Store_Grow.cals T Try.f10
noncomputable def bounds_Store_Grow.F (d : Dt75) (x : Unit) : Option (Unit × (Int × Int × Unit) × Dt75) := limX bounds_Store_Grow.spec bounds_Store_Grow.cals T Try.f10 d x
theorem bounds_Store_Grow.ck : CalsOk Try.prog bounds_Store_Grow.cals := (CalsOk.consX bounds_Store_is.cal (CalsOk.base tabsOk))
theorem bounds_Store_Grow.cal : XOk Try.prog tabs 10 bounds_Store_Grow.sig := xok_of tabOk bounds_Store_Grow.ck mix Try.func10 (by kernel_rfl) (by kernel_rfl) (by kernel_rfl) (by kernel_rfl)
noncomputable def bounds_Store_Grow.e  (G : Gh) (d : Dt75)  : Option ((Unit × (Int × Int × Unit) × Dt75) × Nat × List Value) :=
  (bounds_Store_is.F ((d.1.1, d.1.2), (d.2.1, d.2.2)) ()).bind fun y1 =>
  let v2 := not y1.2.1.1
  bif v2 then (some (((), ((0 : Int), (1 : Int), ()), ((y1.2.2.1.1, y1.2.2.1.2), (y1.2.2.2.1, y1.2.2.2.2))), G.b, []))
  else (let v3 := (List.length y1.2.2.2.2 : Int)
  let v4 := (v3 == (65536 : Int))
  bif v4 then (some (((), ((0 : Int), (2 : Int), ()), ((y1.2.2.1.1, y1.2.2.1.2), (y1.2.2.2.1, y1.2.2.2.2))), G.b, []))
  else (let v5 := ([zt55] : List Dt55)
  bif decide (List.length y1.2.2.2.2 + List.length v5 < 549755813888) then (let v6 := List.append y1.2.2.2.2 v5
  let v7 := (List.length v6 : Int)
  let v8 := IntKind.i64.wrap (v7 - (1 : Int))
  some (((), (v8, (0 : Int), ()), ((y1.2.2.1.1, y1.2.2.1.2), (y1.2.2.2.1, v6))), G.b, []))
  else none))
theorem bounds_Store_Grow.eval (k : Nat) (G : Gh) (d : Dt75)  : evalX bounds_Store_Grow.spec bounds_Store_Grow.cals T Try.f10 k G d () = bounds_Store_Grow.e  G d  := by kernel_rfl
theorem bounds_Store_Grow.of (d : Dt75)  (y : (Unit × (Int × Int × Unit) × Dt75)) (h : ∀ G : Gh, ∃ k : Nat, bounds_Store_Grow.e  G d  = some (y, (G.b, []))) : bounds_Store_Grow.F d () = some y := limX_of (q := bounds_Store_Grow.spec) (C := bounds_Store_Grow.cals) (T := T) (f := Try.f10) (d := d) (x := ()) y fun G => (h G).imp fun k hk => (bounds_Store_Grow.eval k G d ).trans hk

/-! ### fulcrum/fulcrumref01.Norm -/
def fulcrumref01_Norm.spec : Spec := ⟨[(false, Kt41)], [(false, Kt41)], .own, fun j => match j with | 2 => [(0, .lf (.z 115 (.int .u32) false)), (3, .lf (.v true))] | 6 => [(0, .lf (.z 115 (.int .u32) false)), (3, .lf (.v true)), (4, .lf (.o 115 (.int .u32) true)), (5, .lf (.v true))] | _ => []⟩
noncomputable def fulcrumref01_Norm.cals : Cals := (Cals.base tabs)
noncomputable def fulcrumref01_Norm.sig : Sig := fulcrumref01_Norm.spec.sig fulcrumref01_Norm.cals T Try.f72
noncomputable def fulcrumref01_Norm.F (x : Dt41 × Unit) : Option (Dt41 × Unit) := limF fulcrumref01_Norm.spec fulcrumref01_Norm.cals T Try.f72 x
theorem fulcrumref01_Norm.ck : CalsOk Try.prog fulcrumref01_Norm.cals := (CalsOk.base tabsOk)
theorem fulcrumref01_Norm.cal : CalOk Try.prog tabs 72 fulcrumref01_Norm.sig := calOk_lim' tabOk fulcrumref01_Norm.ck mix Try.func72 (by kernel_rfl) (by kernel_rfl) (by kernel_rfl) (by kernel_rfl)
def fulcrumref01_Norm.m2 (x0 : Dt41) (x3 : Int) : S := ⟨[(0, .one (.lf (.val false Kt41 x0))), (3, .one (.lf (.val true (.int .i64) x3)))], ⟨[], []⟩⟩
def fulcrumref01_Norm.m6 (x0 : Dt41) (x3 : Int) (x4 : Dt41) (x5 : Int) : S := ⟨[(0, .one (.lf (.val false Kt41 x0))), (3, .one (.lf (.val true (.int .i64) x3))), (4, .one (.lf (.own 0))), (5, .one (.lf (.val true (.int .i64) x5)))], ⟨[some ⟨115, (.int .u32), true, true, x4⟩], []⟩⟩
noncomputable def fulcrumref01_Norm.b2 (f2 : Dt41 → Int → Option (Dt41 × Unit)) (f6 : Dt41 → Int → Dt41 → Int → Option (Dt41 × Unit)) (x0 : Dt41) (x3 : Int) : Option (Dt41 × Unit) :=
  let v1 := decide (x3 > (0 : Int))
  bif v1 then (let v2 := IntKind.i64.wrap (x3 - (1 : Int))
  bif decide (0 ≤ v2) && decide (v2 < (List.length x0 : Int)) then (let v3 := List.getD x0 (Int.toNat v2) (0 : Int)
  let v4 := (v3 == (0 : Int))
  bif v4 then (let v5 := IntKind.i64.wrap (x3 - (1 : Int))
  f2 x0 v5)
  else (bif decide (0 ≤ x3) && (decide (x3 ≤ x3) && (decide (Int.toNat x3 * 4 ≤ 281474976710656) && Nat.blt 0 4)) then (let v6 := List.replicate (Int.toNat x3) (0 : Int)
  f6 x0 x3 v6 (0 : Int))
  else none))
  else none)
  else (bif decide (0 ≤ x3) && (decide (x3 ≤ x3) && (decide (Int.toNat x3 * 4 ≤ 281474976710656) && Nat.blt 0 4)) then (let v7 := List.replicate (Int.toNat x3) (0 : Int)
  f6 x0 x3 v7 (0 : Int))
  else none)
noncomputable def fulcrumref01_Norm.b6 (f2 : Dt41 → Int → Option (Dt41 × Unit)) (f6 : Dt41 → Int → Dt41 → Int → Option (Dt41 × Unit)) (x0 : Dt41) (x3 : Int) (x4 : Dt41) (x5 : Int) : Option (Dt41 × Unit) :=
  let v1 := decide (x5 < x3)
  bif v1 then (bif decide (0 ≤ x5) && decide (x5 < (List.length x0 : Int)) then (let v2 := List.getD x0 (Int.toNat x5) (0 : Int)
  bif decide (0 ≤ x5) && decide (x5 < (List.length x4 : Int)) then (let v3 := List.set x4 (Int.toNat x5) v2
  let v4 := IntKind.i64.wrap (x5 + (1 : Int))
  f6 x0 x3 v3 v4)
  else none)
  else none)
  else (some (x4, ()))
noncomputable def fulcrumref01_Norm.e (f2 : Dt41 → Int → Option (Dt41 × Unit)) (f6 : Dt41 → Int → Dt41 → Int → Option (Dt41 × Unit)) (a0 : Dt41) : Option (Dt41 × Unit) :=
  let v1 := (List.length a0 : Int)
  f2 a0 v1
noncomputable def fulcrumref01_Norm.L2 (k : Nat) (x0 : Dt41) (x3 : Int) : Option (Dt41 × Unit) := heads (fulcrumref01_Norm.spec.env fulcrumref01_Norm.cals T Try.f72) (Func.pts Try.f72) k 2 (fulcrumref01_Norm.m2 x0 x3)
noncomputable def fulcrumref01_Norm.L6 (k : Nat) (x0 : Dt41) (x3 : Int) (x4 : Dt41) (x5 : Int) : Option (Dt41 × Unit) := heads (fulcrumref01_Norm.spec.env fulcrumref01_Norm.cals T Try.f72) (Func.pts Try.f72) k 6 (fulcrumref01_Norm.m6 x0 x3 x4 x5)
theorem fulcrumref01_Norm.L2_succ (k : Nat) (x0 : Dt41) (x3 : Int) : fulcrumref01_Norm.L2 (k + 1) x0 x3 = fulcrumref01_Norm.b2 (fulcrumref01_Norm.L2 k) (fulcrumref01_Norm.L6 k) x0 x3 := by kernel_rfl
theorem fulcrumref01_Norm.L2_zero (x0 : Dt41) (x3 : Int) : fulcrumref01_Norm.L2 0 x0 x3 = none := by kernel_rfl
theorem fulcrumref01_Norm.L6_succ (k : Nat) (x0 : Dt41) (x3 : Int) (x4 : Dt41) (x5 : Int) : fulcrumref01_Norm.L6 (k + 1) x0 x3 x4 x5 = fulcrumref01_Norm.b6 (fulcrumref01_Norm.L2 k) (fulcrumref01_Norm.L6 k) x0 x3 x4 x5 := by kernel_rfl
theorem fulcrumref01_Norm.L6_zero (x0 : Dt41) (x3 : Int) (x4 : Dt41) (x5 : Int) : fulcrumref01_Norm.L6 0 x0 x3 x4 x5 = none := by kernel_rfl
theorem fulcrumref01_Norm.eval (k : Nat) (a0 : Dt41) : evalF fulcrumref01_Norm.spec fulcrumref01_Norm.cals T Try.f72 k (a0, ()) = fulcrumref01_Norm.e (fulcrumref01_Norm.L2 k) (fulcrumref01_Norm.L6 k) a0 := by kernel_rfl
theorem fulcrumref01_Norm.F_eq (a0 : Dt41) : fulcrumref01_Norm.F (a0, ()) = limF fulcrumref01_Norm.spec fulcrumref01_Norm.cals T Try.f72 (a0, ()) := by kernel_rfl
theorem fulcrumref01_Norm.of (k : Nat) (a0 : Dt41) {y : Dt41 × Unit} (h : fulcrumref01_Norm.e (fulcrumref01_Norm.L2 k) (fulcrumref01_Norm.L6 k) a0 = some y) : fulcrumref01_Norm.F (a0, ()) = some y := (fulcrumref01_Norm.F_eq a0).trans (limF_of (q := fulcrumref01_Norm.spec) (C := fulcrumref01_Norm.cals) (T := T) (f := Try.f72) (x := (a0, ())) (y := y) k ((fulcrumref01_Norm.eval k a0).trans h))

/-! ### fulcrum/fulcrumref02.made -/
def fulcrumref02_made.spec : Spec := ⟨[(false, .bool), (false, Kt41)], [(true, Kt43)], .own, fun j => match j with  | _ => []⟩
noncomputable def fulcrumref02_made.cals : Cals := (Cals.cons 72 fulcrumref01_Norm.sig (Cals.base tabs))
noncomputable def fulcrumref02_made.sig : Sig := fulcrumref02_made.spec.sig fulcrumref02_made.cals T Try.f89
noncomputable def fulcrumref02_made.F (x : Bool × Dt41 × Unit) : Option (Dt43 × Unit) := limF fulcrumref02_made.spec fulcrumref02_made.cals T Try.f89 x
theorem fulcrumref02_made.ck : CalsOk Try.prog fulcrumref02_made.cals := (CalsOk.cons fulcrumref01_Norm.cal (CalsOk.base tabsOk))
theorem fulcrumref02_made.cal : CalOk Try.prog tabs 89 fulcrumref02_made.sig := calOk_lim' tabOk fulcrumref02_made.ck mix Try.func89 (by kernel_rfl) (by kernel_rfl) (by kernel_rfl) (by kernel_rfl)
noncomputable def fulcrumref02_made.e  (a0 : Bool) (a1 : Dt41) : Option (Dt43 × Unit) :=
  (fulcrumref01_Norm.F (a1, ())).bind fun y1 =>
  bif a0 then (let v2 := (List.length y1.1 : Int)
  let v3 := decide (v2 > (0 : Int))
  some ((v3, y1.1), ()))
  else (some ((false, y1.1), ()))
theorem fulcrumref02_made.eval (k : Nat) (a0 : Bool) (a1 : Dt41) : evalF fulcrumref02_made.spec fulcrumref02_made.cals T Try.f89 k (a0, a1, ()) = fulcrumref02_made.e  a0 a1 := by kernel_rfl
theorem fulcrumref02_made.F_eq (a0 : Bool) (a1 : Dt41) : fulcrumref02_made.F (a0, a1, ()) = limF fulcrumref02_made.spec fulcrumref02_made.cals T Try.f89 (a0, a1, ()) := by kernel_rfl
theorem fulcrumref02_made.of (k : Nat) (a0 : Bool) (a1 : Dt41) {y : Dt43 × Unit} (h : fulcrumref02_made.e  a0 a1 = some y) : fulcrumref02_made.F (a0, a1, ()) = some y := (fulcrumref02_made.F_eq a0 a1).trans (limF_of (q := fulcrumref02_made.spec) (C := fulcrumref02_made.cals) (T := T) (f := Try.f89) (x := (a0, a1, ())) (y := y) k ((fulcrumref02_made.eval k a0 a1).trans h))

/-! ### fulcrum/fulcrumref02.Norm -/
def fulcrumref02_Norm.spec : Spec := ⟨[(true, Kt43)], [(true, Kt43)], .own, fun j => match j with  | _ => []⟩
noncomputable def fulcrumref02_Norm.cals : Cals := (Cals.cons 89 fulcrumref02_made.sig (Cals.base tabs))
noncomputable def fulcrumref02_Norm.sig : Sig := fulcrumref02_Norm.spec.sig fulcrumref02_Norm.cals T Try.f71
noncomputable def fulcrumref02_Norm.F (x : Dt43 × Unit) : Option (Dt43 × Unit) := limF fulcrumref02_Norm.spec fulcrumref02_Norm.cals T Try.f71 x
theorem fulcrumref02_Norm.ck : CalsOk Try.prog fulcrumref02_Norm.cals := (CalsOk.cons fulcrumref02_made.cal (CalsOk.base tabsOk))
theorem fulcrumref02_Norm.cal : CalOk Try.prog tabs 71 fulcrumref02_Norm.sig := calOk_lim' tabOk fulcrumref02_Norm.ck mix Try.func71 (by kernel_rfl) (by kernel_rfl) (by kernel_rfl) (by kernel_rfl)
noncomputable def fulcrumref02_Norm.e  (a0 : Dt43) : Option (Dt43 × Unit) :=
  (fulcrumref02_made.F (a0.1, a0.2, ())).bind fun y1 =>
  some ((y1.1.1, y1.1.2), ())
theorem fulcrumref02_Norm.eval (k : Nat) (a0 : Dt43) : evalF fulcrumref02_Norm.spec fulcrumref02_Norm.cals T Try.f71 k (a0, ()) = fulcrumref02_Norm.e  a0 := by kernel_rfl
theorem fulcrumref02_Norm.F_eq (a0 : Dt43) : fulcrumref02_Norm.F (a0, ()) = limF fulcrumref02_Norm.spec fulcrumref02_Norm.cals T Try.f71 (a0, ()) := by kernel_rfl
theorem fulcrumref02_Norm.of (k : Nat) (a0 : Dt43) {y : Dt43 × Unit} (h : fulcrumref02_Norm.e  a0 = some y) : fulcrumref02_Norm.F (a0, ()) = some y := (fulcrumref02_Norm.F_eq a0).trans (limF_of (q := fulcrumref02_Norm.spec) (C := fulcrumref02_Norm.cals) (T := T) (f := Try.f71) (x := (a0, ())) (y := y) k ((fulcrumref02_Norm.eval k a0).trans h))

/-! ### fulcrum/fulcrumref01.at -/
def fulcrumref01_at.spec : Spec := ⟨[(false, Kt41), (false, (.int .i64))], [(false, (.int .u64))], .own, fun j => match j with  | _ => []⟩
noncomputable def fulcrumref01_at.cals : Cals := (Cals.base tabs)
noncomputable def fulcrumref01_at.sig : Sig := fulcrumref01_at.spec.sig fulcrumref01_at.cals T Try.f104
noncomputable def fulcrumref01_at.F (x : Dt41 × Int × Unit) : Option (Int × Unit) := limF fulcrumref01_at.spec fulcrumref01_at.cals T Try.f104 x
theorem fulcrumref01_at.ck : CalsOk Try.prog fulcrumref01_at.cals := (CalsOk.base tabsOk)
theorem fulcrumref01_at.cal : CalOk Try.prog tabs 104 fulcrumref01_at.sig := calOk_lim' tabOk fulcrumref01_at.ck mix Try.func104 (by kernel_rfl) (by kernel_rfl) (by kernel_rfl) (by kernel_rfl)
noncomputable def fulcrumref01_at.e  (a0 : Dt41) (a1 : Int) : Option (Int × Unit) :=
  let v1 := (List.length a0 : Int)
  let v2 := decide (a1 ≥ v1)
  bif v2 then (some ((0 : Int), ()))
  else (bif decide (0 ≤ a1) && decide (a1 < (List.length a0 : Int)) then (let v3 := List.getD a0 (Int.toNat a1) (0 : Int)
  let v4 := IntKind.u64.wrap v3
  some (v4, ()))
  else none)
theorem fulcrumref01_at.eval (k : Nat) (a0 : Dt41) (a1 : Int) : evalF fulcrumref01_at.spec fulcrumref01_at.cals T Try.f104 k (a0, a1, ()) = fulcrumref01_at.e  a0 a1 := by kernel_rfl
theorem fulcrumref01_at.F_eq (a0 : Dt41) (a1 : Int) : fulcrumref01_at.F (a0, a1, ()) = limF fulcrumref01_at.spec fulcrumref01_at.cals T Try.f104 (a0, a1, ()) := by kernel_rfl
theorem fulcrumref01_at.of (k : Nat) (a0 : Dt41) (a1 : Int) {y : Int × Unit} (h : fulcrumref01_at.e  a0 a1 = some y) : fulcrumref01_at.F (a0, a1, ()) = some y := (fulcrumref01_at.F_eq a0 a1).trans (limF_of (q := fulcrumref01_at.spec) (C := fulcrumref01_at.cals) (T := T) (f := Try.f104) (x := (a0, a1, ())) (y := y) k ((fulcrumref01_at.eval k a0 a1).trans h))

/-! ### fulcrum/fulcrumref01.Cmp -/
def fulcrumref01_Cmp.spec : Spec := ⟨[(false, Kt41), (false, Kt41)], [(false, (.int .i64))], .own, fun j => match j with | 5 => [(0, .lf (.z 115 (.int .u32) false)), (1, .lf (.z 115 (.int .u32) false)), (6, .lf (.v true))] | _ => []⟩
noncomputable def fulcrumref01_Cmp.cals : Cals := (Cals.cons 104 fulcrumref01_at.sig (Cals.base tabs))
noncomputable def fulcrumref01_Cmp.sig : Sig := fulcrumref01_Cmp.spec.sig fulcrumref01_Cmp.cals T Try.f90
noncomputable def fulcrumref01_Cmp.F (x : Dt41 × Dt41 × Unit) : Option (Int × Unit) := limF fulcrumref01_Cmp.spec fulcrumref01_Cmp.cals T Try.f90 x
theorem fulcrumref01_Cmp.ck : CalsOk Try.prog fulcrumref01_Cmp.cals := (CalsOk.cons fulcrumref01_at.cal (CalsOk.base tabsOk))
theorem fulcrumref01_Cmp.cal : CalOk Try.prog tabs 90 fulcrumref01_Cmp.sig := calOk_lim' tabOk fulcrumref01_Cmp.ck mix Try.func90 (by kernel_rfl) (by kernel_rfl) (by kernel_rfl) (by kernel_rfl)
def fulcrumref01_Cmp.m5 (x0 : Dt41) (x1 : Dt41) (x6 : Int) : S := ⟨[(0, .one (.lf (.val false Kt41 x0))), (1, .one (.lf (.val false Kt41 x1))), (6, .one (.lf (.val true (.int .i64) x6)))], ⟨[], []⟩⟩
noncomputable def fulcrumref01_Cmp.b5 (f5 : Dt41 → Dt41 → Int → Option (Int × Unit)) (x0 : Dt41) (x1 : Dt41) (x6 : Int) : Option (Int × Unit) :=
  let v1 := decide (x6 ≥ (0 : Int))
  bif v1 then ((fulcrumref01_at.F (x0, x6, ())).bind fun y2 =>
  (fulcrumref01_at.F (x1, x6, ())).bind fun y3 =>
  let v4 := decide (y2.1 < y3.1)
  bif v4 then (some ((-1 : Int), ()))
  else ((fulcrumref01_at.F (x0, x6, ())).bind fun y5 =>
  (fulcrumref01_at.F (x1, x6, ())).bind fun y6 =>
  let v7 := decide (y5.1 > y6.1)
  bif v7 then (some ((1 : Int), ()))
  else (let v8 := IntKind.i64.wrap (x6 - (1 : Int))
  f5 x0 x1 v8)))
  else (some ((0 : Int), ()))
noncomputable def fulcrumref01_Cmp.e (f5 : Dt41 → Dt41 → Int → Option (Int × Unit)) (a0 : Dt41) (a1 : Dt41) : Option (Int × Unit) :=
  let v1 := (List.length a0 : Int)
  let v2 := (List.length a1 : Int)
  let v3 := decide (v2 > v1)
  bif v3 then (let v4 := (List.length a1 : Int)
  let v5 := IntKind.i64.wrap (v4 - (1 : Int))
  f5 a0 a1 v5)
  else (let v6 := IntKind.i64.wrap (v1 - (1 : Int))
  f5 a0 a1 v6)
noncomputable def fulcrumref01_Cmp.L5 (k : Nat) (x0 : Dt41) (x1 : Dt41) (x6 : Int) : Option (Int × Unit) := heads (fulcrumref01_Cmp.spec.env fulcrumref01_Cmp.cals T Try.f90) (Func.pts Try.f90) k 5 (fulcrumref01_Cmp.m5 x0 x1 x6)
theorem fulcrumref01_Cmp.L5_succ (k : Nat) (x0 : Dt41) (x1 : Dt41) (x6 : Int) : fulcrumref01_Cmp.L5 (k + 1) x0 x1 x6 = fulcrumref01_Cmp.b5 (fulcrumref01_Cmp.L5 k) x0 x1 x6 := by kernel_rfl
theorem fulcrumref01_Cmp.L5_zero (x0 : Dt41) (x1 : Dt41) (x6 : Int) : fulcrumref01_Cmp.L5 0 x0 x1 x6 = none := by kernel_rfl
theorem fulcrumref01_Cmp.eval (k : Nat) (a0 : Dt41) (a1 : Dt41) : evalF fulcrumref01_Cmp.spec fulcrumref01_Cmp.cals T Try.f90 k (a0, a1, ()) = fulcrumref01_Cmp.e (fulcrumref01_Cmp.L5 k) a0 a1 := by kernel_rfl
theorem fulcrumref01_Cmp.F_eq (a0 : Dt41) (a1 : Dt41) : fulcrumref01_Cmp.F (a0, a1, ()) = limF fulcrumref01_Cmp.spec fulcrumref01_Cmp.cals T Try.f90 (a0, a1, ()) := by kernel_rfl
theorem fulcrumref01_Cmp.of (k : Nat) (a0 : Dt41) (a1 : Dt41) {y : Int × Unit} (h : fulcrumref01_Cmp.e (fulcrumref01_Cmp.L5 k) a0 a1 = some y) : fulcrumref01_Cmp.F (a0, a1, ()) = some y := (fulcrumref01_Cmp.F_eq a0 a1).trans (limF_of (q := fulcrumref01_Cmp.spec) (C := fulcrumref01_Cmp.cals) (T := T) (f := Try.f90) (x := (a0, a1, ())) (y := y) k ((fulcrumref01_Cmp.eval k a0 a1).trans h))

/-! ### fulcrum/fulcrumref01.Bit -/
def fulcrumref01_Bit.spec : Spec := ⟨[(false, Kt41), (false, (.int .i64))], [(false, .bool)], .own, fun j => match j with  | _ => []⟩
noncomputable def fulcrumref01_Bit.cals : Cals := (Cals.base tabs)
noncomputable def fulcrumref01_Bit.sig : Sig := fulcrumref01_Bit.spec.sig fulcrumref01_Bit.cals T Try.f91
noncomputable def fulcrumref01_Bit.F (x : Dt41 × Int × Unit) : Option (Bool × Unit) := limF fulcrumref01_Bit.spec fulcrumref01_Bit.cals T Try.f91 x
theorem fulcrumref01_Bit.ck : CalsOk Try.prog fulcrumref01_Bit.cals := (CalsOk.base tabsOk)
theorem fulcrumref01_Bit.cal : CalOk Try.prog tabs 91 fulcrumref01_Bit.sig := calOk_lim' tabOk fulcrumref01_Bit.ck mix Try.func91 (by kernel_rfl) (by kernel_rfl) (by kernel_rfl) (by kernel_rfl)
noncomputable def fulcrumref01_Bit.e  (a0 : Dt41) (a1 : Int) : Option (Bool × Unit) :=
  let v1 := decide (a1 ≥ (0 : Int))
  bif v1 then (bif decide ((32 : Int) = 0) then none
  else (let v2 := IntKind.i64.wrap (Int.tdiv a1 (32 : Int))
  let v3 := (List.length a0 : Int)
  let v4 := decide (v2 < v3)
  bif v4 then (bif decide ((32 : Int) = 0) then none
  else (let v5 := IntKind.i64.wrap (Int.tdiv a1 (32 : Int))
  bif decide (0 ≤ v5) && decide (v5 < (List.length a0 : Int)) then (let v6 := List.getD a0 (Int.toNat v5) (0 : Int)
  bif decide ((32 : Int) = 0) then none
  else (let v7 := Int.tmod a1 (32 : Int)
  let v8 := IntKind.u64.wrap v7
  bif decide (v8 < 0) then none
  else (let v9 := shrI .u32 v6 v8
  let v10 := bitsOp .and .u32 v9 (1 : Int)
  let v11 := (v10 == (1 : Int))
  some (v11, ()))))
  else none))
  else (some (false, ()))))
  else (some (false, ()))
theorem fulcrumref01_Bit.eval (k : Nat) (a0 : Dt41) (a1 : Int) : evalF fulcrumref01_Bit.spec fulcrumref01_Bit.cals T Try.f91 k (a0, a1, ()) = fulcrumref01_Bit.e  a0 a1 := by kernel_rfl
theorem fulcrumref01_Bit.F_eq (a0 : Dt41) (a1 : Int) : fulcrumref01_Bit.F (a0, a1, ()) = limF fulcrumref01_Bit.spec fulcrumref01_Bit.cals T Try.f91 (a0, a1, ()) := by kernel_rfl
theorem fulcrumref01_Bit.of (k : Nat) (a0 : Dt41) (a1 : Int) {y : Bool × Unit} (h : fulcrumref01_Bit.e  a0 a1 = some y) : fulcrumref01_Bit.F (a0, a1, ()) = some y := (fulcrumref01_Bit.F_eq a0 a1).trans (limF_of (q := fulcrumref01_Bit.spec) (C := fulcrumref01_Bit.cals) (T := T) (f := Try.f91) (x := (a0, a1, ())) (y := y) k ((fulcrumref01_Bit.eval k a0 a1).trans h))

/-! ### fulcrum/fulcrumref01.Shift -/
def fulcrumref01_Shift.spec : Spec := ⟨[(false, Kt41), (false, (.int .i64))], [(false, Kt41), (false, (.int .i64))], .own, fun j => match j with | 15 => [(0, .lf (.z 115 (.int .u32) false)), (6, .lf (.v true)), (7, .lf (.o 115 (.int .u32) true)), (8, .lf (.v true)), (9, .lf (.v true)), (10, .lf (.v true))] | _ => []⟩
noncomputable def fulcrumref01_Shift.cals : Cals := (Cals.cons 72 fulcrumref01_Norm.sig (Cals.base tabs))
noncomputable def fulcrumref01_Shift.sig : Sig := fulcrumref01_Shift.spec.sig fulcrumref01_Shift.cals T Try.f92
noncomputable def fulcrumref01_Shift.F (x : Dt41 × Int × Unit) : Option (Dt41 × Int × Unit) := limF fulcrumref01_Shift.spec fulcrumref01_Shift.cals T Try.f92 x
theorem fulcrumref01_Shift.ck : CalsOk Try.prog fulcrumref01_Shift.cals := (CalsOk.cons fulcrumref01_Norm.cal (CalsOk.base tabsOk))
theorem fulcrumref01_Shift.cal : CalOk Try.prog tabs 92 fulcrumref01_Shift.sig := calOk_lim' tabOk fulcrumref01_Shift.ck mix Try.func92 (by kernel_rfl) (by kernel_rfl) (by kernel_rfl) (by kernel_rfl)
def fulcrumref01_Shift.m15 (x0 : Dt41) (x6 : Int) (x7 : Dt41) (x8 : Int) (x9 : Int) (x10 : Int) : S := ⟨[(0, .one (.lf (.val false Kt41 x0))), (6, .one (.lf (.val true (.int .i64) x6))), (7, .one (.lf (.own 0))), (8, .one (.lf (.val true (.int .i64) x8))), (9, .one (.lf (.val true (.int .i64) x9))), (10, .one (.lf (.val true (.int .i64) x10)))], ⟨[some ⟨115, (.int .u32), true, true, x7⟩], []⟩⟩
noncomputable def fulcrumref01_Shift.b15 (f15 : Dt41 → Int → Dt41 → Int → Int → Int → Option (Dt41 × Int × Unit)) (x0 : Dt41) (x6 : Int) (x7 : Dt41) (x8 : Int) (x9 : Int) (x10 : Int) : Option (Dt41 × Int × Unit) :=
  let v1 := (List.length x0 : Int)
  let v2 := decide (x10 < v1)
  bif v2 then (bif decide (0 ≤ x10) && decide (x10 < (List.length x0 : Int)) then (let v3 := List.getD x0 (Int.toNat x10) (0 : Int)
  let v4 := IntKind.u64.wrap v3
  let v5 := IntKind.u64.wrap x9
  bif decide (v5 < 0) then none
  else (let v6 := shlI .u64 v4 v5
  let v7 := IntKind.i64.wrap (x10 + x8)
  let v8 := decide (v7 ≥ (0 : Int))
  bif v8 then (let v9 := IntKind.i64.wrap (x10 + x8)
  let v10 := decide (v9 < x6)
  bif v10 then (let v11 := IntKind.i64.wrap (x10 + x8)
  bif decide (0 ≤ v11) && decide (v11 < (List.length x7 : Int)) then (let v12 := List.getD x7 (Int.toNat v11) (0 : Int)
  let v13 := IntKind.u32.wrap v6
  let v14 := bitsOp .or .u32 v12 v13
  bif decide (0 ≤ v11) && decide (v11 < (List.length x7 : Int)) then (let v15 := List.set x7 (Int.toNat v11) v14
  let v16 := IntKind.i64.wrap (x10 + x8)
  let v17 := IntKind.i64.wrap (v16 + (1 : Int))
  let v18 := decide (v17 ≥ (0 : Int))
  bif v18 then (let v19 := IntKind.i64.wrap (x10 + x8)
  let v20 := IntKind.i64.wrap (v19 + (1 : Int))
  let v21 := decide (v20 < x6)
  bif v21 then (let v22 := IntKind.i64.wrap (x10 + x8)
  let v23 := IntKind.i64.wrap (v22 + (1 : Int))
  bif decide (0 ≤ v23) && decide (v23 < (List.length v15 : Int)) then (let v24 := List.getD v15 (Int.toNat v23) (0 : Int)
  bif decide ((32 : Int) < 0) then none
  else (let v25 := shrI .u64 v6 (32 : Int)
  let v26 := IntKind.u32.wrap v25
  let v27 := bitsOp .or .u32 v24 v26
  bif decide (0 ≤ v23) && decide (v23 < (List.length v15 : Int)) then (let v28 := List.set v15 (Int.toNat v23) v27
  let v29 := IntKind.i64.wrap (x10 + (1 : Int))
  f15 x0 x6 v28 x8 x9 v29)
  else none))
  else none)
  else (let v30 := IntKind.i64.wrap (x10 + (1 : Int))
  f15 x0 x6 v15 x8 x9 v30))
  else (let v31 := IntKind.i64.wrap (x10 + (1 : Int))
  f15 x0 x6 v15 x8 x9 v31))
  else none)
  else none)
  else (let v32 := IntKind.i64.wrap (x10 + x8)
  let v33 := IntKind.i64.wrap (v32 + (1 : Int))
  let v34 := decide (v33 ≥ (0 : Int))
  bif v34 then (let v35 := IntKind.i64.wrap (x10 + x8)
  let v36 := IntKind.i64.wrap (v35 + (1 : Int))
  let v37 := decide (v36 < x6)
  bif v37 then (let v38 := IntKind.i64.wrap (x10 + x8)
  let v39 := IntKind.i64.wrap (v38 + (1 : Int))
  bif decide (0 ≤ v39) && decide (v39 < (List.length x7 : Int)) then (let v40 := List.getD x7 (Int.toNat v39) (0 : Int)
  bif decide ((32 : Int) < 0) then none
  else (let v41 := shrI .u64 v6 (32 : Int)
  let v42 := IntKind.u32.wrap v41
  let v43 := bitsOp .or .u32 v40 v42
  bif decide (0 ≤ v39) && decide (v39 < (List.length x7 : Int)) then (let v44 := List.set x7 (Int.toNat v39) v43
  let v45 := IntKind.i64.wrap (x10 + (1 : Int))
  f15 x0 x6 v44 x8 x9 v45)
  else none))
  else none)
  else (let v46 := IntKind.i64.wrap (x10 + (1 : Int))
  f15 x0 x6 x7 x8 x9 v46))
  else (let v47 := IntKind.i64.wrap (x10 + (1 : Int))
  f15 x0 x6 x7 x8 x9 v47)))
  else (let v48 := IntKind.i64.wrap (x10 + x8)
  let v49 := IntKind.i64.wrap (v48 + (1 : Int))
  let v50 := decide (v49 ≥ (0 : Int))
  bif v50 then (let v51 := IntKind.i64.wrap (x10 + x8)
  let v52 := IntKind.i64.wrap (v51 + (1 : Int))
  let v53 := decide (v52 < x6)
  bif v53 then (let v54 := IntKind.i64.wrap (x10 + x8)
  let v55 := IntKind.i64.wrap (v54 + (1 : Int))
  bif decide (0 ≤ v55) && decide (v55 < (List.length x7 : Int)) then (let v56 := List.getD x7 (Int.toNat v55) (0 : Int)
  bif decide ((32 : Int) < 0) then none
  else (let v57 := shrI .u64 v6 (32 : Int)
  let v58 := IntKind.u32.wrap v57
  let v59 := bitsOp .or .u32 v56 v58
  bif decide (0 ≤ v55) && decide (v55 < (List.length x7 : Int)) then (let v60 := List.set x7 (Int.toNat v55) v59
  let v61 := IntKind.i64.wrap (x10 + (1 : Int))
  f15 x0 x6 v60 x8 x9 v61)
  else none))
  else none)
  else (let v62 := IntKind.i64.wrap (x10 + (1 : Int))
  f15 x0 x6 x7 x8 x9 v62))
  else (let v63 := IntKind.i64.wrap (x10 + (1 : Int))
  f15 x0 x6 x7 x8 x9 v63))))
  else none)
  else ((fulcrumref01_Norm.F (x7, ())).bind fun y64 =>
  some (y64.1, (0 : Int), ()))
noncomputable def fulcrumref01_Shift.e (f15 : Dt41 → Int → Dt41 → Int → Int → Int → Option (Dt41 × Int × Unit)) (a0 : Dt41) (a1 : Int) : Option (Dt41 × Int × Unit) :=
  let v1 := decide (a1 < (-1048576 : Int))
  bif v1 then (some (zt41, (12 : Int), ()))
  else (let v2 := decide (a1 > (1048576 : Int))
  bif v2 then (some (zt41, (12 : Int), ()))
  else ((fulcrumref01_Norm.F (a0, ())).bind fun y3 =>
  let v4 := (List.length y3.1 : Int)
  let v5 := (v4 == (0 : Int))
  bif v5 then (let v6 := zt41
  some (v6, (0 : Int), ()))
  else (let v7 := (List.length a0 : Int)
  let v8 := decide (a1 > (0 : Int))
  bif v8 then (bif decide ((32 : Int) = 0) then none
  else (let v9 := IntKind.i64.wrap (Int.tdiv a1 (32 : Int))
  let v10 := IntKind.i64.wrap (v9 + (1 : Int))
  let v11 := IntKind.i64.wrap (v7 + v10)
  bif decide (0 ≤ v11) && (decide (v11 ≤ v11) && (decide (Int.toNat v11 * 4 ≤ 281474976710656) && Nat.blt 0 4)) then (let v12 := List.replicate (Int.toNat v11) (0 : Int)
  bif decide ((32 : Int) = 0) then none
  else (let v13 := IntKind.i64.wrap (Int.tdiv a1 (32 : Int))
  bif decide ((32 : Int) = 0) then none
  else (let v14 := Int.tmod a1 (32 : Int)
  let v15 := decide (v14 < (0 : Int))
  bif v15 then (let v16 := IntKind.i64.wrap (v13 - (1 : Int))
  let v17 := IntKind.i64.wrap (v14 + (32 : Int))
  f15 a0 v11 v12 v16 v17 (0 : Int))
  else (f15 a0 v11 v12 v13 v14 (0 : Int)))))
  else none))
  else (bif decide (0 ≤ v7) && (decide (v7 ≤ v7) && (decide (Int.toNat v7 * 4 ≤ 281474976710656) && Nat.blt 0 4)) then (let v18 := List.replicate (Int.toNat v7) (0 : Int)
  bif decide ((32 : Int) = 0) then none
  else (let v19 := IntKind.i64.wrap (Int.tdiv a1 (32 : Int))
  bif decide ((32 : Int) = 0) then none
  else (let v20 := Int.tmod a1 (32 : Int)
  let v21 := decide (v20 < (0 : Int))
  bif v21 then (let v22 := IntKind.i64.wrap (v19 - (1 : Int))
  let v23 := IntKind.i64.wrap (v20 + (32 : Int))
  f15 a0 v7 v18 v22 v23 (0 : Int))
  else (f15 a0 v7 v18 v19 v20 (0 : Int)))))
  else none))))
noncomputable def fulcrumref01_Shift.L15 (k : Nat) (x0 : Dt41) (x6 : Int) (x7 : Dt41) (x8 : Int) (x9 : Int) (x10 : Int) : Option (Dt41 × Int × Unit) := heads (fulcrumref01_Shift.spec.env fulcrumref01_Shift.cals T Try.f92) (Func.pts Try.f92) k 15 (fulcrumref01_Shift.m15 x0 x6 x7 x8 x9 x10)
theorem fulcrumref01_Shift.L15_succ (k : Nat) (x0 : Dt41) (x6 : Int) (x7 : Dt41) (x8 : Int) (x9 : Int) (x10 : Int) : fulcrumref01_Shift.L15 (k + 1) x0 x6 x7 x8 x9 x10 = fulcrumref01_Shift.b15 (fulcrumref01_Shift.L15 k) x0 x6 x7 x8 x9 x10 := by kernel_rfl
theorem fulcrumref01_Shift.L15_zero (x0 : Dt41) (x6 : Int) (x7 : Dt41) (x8 : Int) (x9 : Int) (x10 : Int) : fulcrumref01_Shift.L15 0 x0 x6 x7 x8 x9 x10 = none := by kernel_rfl
theorem fulcrumref01_Shift.eval (k : Nat) (a0 : Dt41) (a1 : Int) : evalF fulcrumref01_Shift.spec fulcrumref01_Shift.cals T Try.f92 k (a0, a1, ()) = fulcrumref01_Shift.e (fulcrumref01_Shift.L15 k) a0 a1 := by kernel_rfl
theorem fulcrumref01_Shift.F_eq (a0 : Dt41) (a1 : Int) : fulcrumref01_Shift.F (a0, a1, ()) = limF fulcrumref01_Shift.spec fulcrumref01_Shift.cals T Try.f92 (a0, a1, ()) := by kernel_rfl
theorem fulcrumref01_Shift.of (k : Nat) (a0 : Dt41) (a1 : Int) {y : Dt41 × Int × Unit} (h : fulcrumref01_Shift.e (fulcrumref01_Shift.L15 k) a0 a1 = some y) : fulcrumref01_Shift.F (a0, a1, ()) = some y := (fulcrumref01_Shift.F_eq a0 a1).trans (limF_of (q := fulcrumref01_Shift.spec) (C := fulcrumref01_Shift.cals) (T := T) (f := Try.f92) (x := (a0, a1, ())) (y := y) k ((fulcrumref01_Shift.eval k a0 a1).trans h))

/-! ### fulcrum/fulcrumref01.Sub -/
def fulcrumref01_Sub.spec : Spec := ⟨[(false, Kt41), (false, Kt41)], [(false, Kt41), (false, (.int .i64))], .own, fun j => match j with | 6 => [(0, .lf (.z 115 (.int .u32) false)), (1, .lf (.z 115 (.int .u32) false)), (6, .lf (.o 115 (.int .u32) true)), (7, .lf (.v true)), (8, .lf (.v true))] | _ => []⟩
noncomputable def fulcrumref01_Sub.cals : Cals := (Cals.cons 90 fulcrumref01_Cmp.sig (Cals.cons 104 fulcrumref01_at.sig (Cals.cons 72 fulcrumref01_Norm.sig (Cals.base tabs))))
noncomputable def fulcrumref01_Sub.sig : Sig := fulcrumref01_Sub.spec.sig fulcrumref01_Sub.cals T Try.f93
noncomputable def fulcrumref01_Sub.F (x : Dt41 × Dt41 × Unit) : Option (Dt41 × Int × Unit) := limF fulcrumref01_Sub.spec fulcrumref01_Sub.cals T Try.f93 x
theorem fulcrumref01_Sub.ck : CalsOk Try.prog fulcrumref01_Sub.cals := (CalsOk.cons fulcrumref01_Cmp.cal (CalsOk.cons fulcrumref01_at.cal (CalsOk.cons fulcrumref01_Norm.cal (CalsOk.base tabsOk))))
theorem fulcrumref01_Sub.cal : CalOk Try.prog tabs 93 fulcrumref01_Sub.sig := calOk_lim' tabOk fulcrumref01_Sub.ck mix Try.func93 (by kernel_rfl) (by kernel_rfl) (by kernel_rfl) (by kernel_rfl)
def fulcrumref01_Sub.m6 (x0 : Dt41) (x1 : Dt41) (x6 : Dt41) (x7 : Int) (x8 : Int) : S := ⟨[(0, .one (.lf (.val false Kt41 x0))), (1, .one (.lf (.val false Kt41 x1))), (6, .one (.lf (.own 0))), (7, .one (.lf (.val true (.int .u64) x7))), (8, .one (.lf (.val true (.int .i64) x8)))], ⟨[some ⟨115, (.int .u32), true, true, x6⟩], []⟩⟩
noncomputable def fulcrumref01_Sub.b6 (f6 : Dt41 → Dt41 → Dt41 → Int → Int → Option (Dt41 × Int × Unit)) (x0 : Dt41) (x1 : Dt41) (x6 : Dt41) (x7 : Int) (x8 : Int) : Option (Dt41 × Int × Unit) :=
  let v1 := (List.length x0 : Int)
  let v2 := decide (x8 < v1)
  bif v2 then ((fulcrumref01_at.F (x0, x8, ())).bind fun y3 =>
  (fulcrumref01_at.F (x1, x8, ())).bind fun y4 =>
  let v5 := IntKind.u64.wrap (y3.1 - y4.1)
  let v6 := IntKind.u64.wrap (v5 - x7)
  let v7 := IntKind.u32.wrap v6
  bif decide (0 ≤ x8) && decide (x8 < (List.length x6 : Int)) then (let v8 := List.set x6 (Int.toNat x8) v7
  bif decide ((63 : Int) < 0) then none
  else (let v9 := shrI .u64 v6 (63 : Int)
  let v10 := IntKind.i64.wrap (x8 + (1 : Int))
  f6 x0 x1 v8 v9 v10))
  else none)
  else ((fulcrumref01_Norm.F (x6, ())).bind fun y11 =>
  some (y11.1, (0 : Int), ()))
noncomputable def fulcrumref01_Sub.e (f6 : Dt41 → Dt41 → Dt41 → Int → Int → Option (Dt41 × Int × Unit)) (a0 : Dt41) (a1 : Dt41) : Option (Dt41 × Int × Unit) :=
  (fulcrumref01_Cmp.F (a0, a1, ())).bind fun y1 =>
  let v2 := decide (y1.1 < (0 : Int))
  bif v2 then (some (zt41, (10 : Int), ()))
  else (let v3 := (List.length a0 : Int)
  bif decide (0 ≤ v3) && (decide (v3 ≤ v3) && (decide (Int.toNat v3 * 4 ≤ 281474976710656) && Nat.blt 0 4)) then (let v4 := List.replicate (Int.toNat v3) (0 : Int)
  f6 a0 a1 v4 (0 : Int) (0 : Int))
  else none)
noncomputable def fulcrumref01_Sub.L6 (k : Nat) (x0 : Dt41) (x1 : Dt41) (x6 : Dt41) (x7 : Int) (x8 : Int) : Option (Dt41 × Int × Unit) := heads (fulcrumref01_Sub.spec.env fulcrumref01_Sub.cals T Try.f93) (Func.pts Try.f93) k 6 (fulcrumref01_Sub.m6 x0 x1 x6 x7 x8)
theorem fulcrumref01_Sub.L6_succ (k : Nat) (x0 : Dt41) (x1 : Dt41) (x6 : Dt41) (x7 : Int) (x8 : Int) : fulcrumref01_Sub.L6 (k + 1) x0 x1 x6 x7 x8 = fulcrumref01_Sub.b6 (fulcrumref01_Sub.L6 k) x0 x1 x6 x7 x8 := by kernel_rfl
theorem fulcrumref01_Sub.L6_zero (x0 : Dt41) (x1 : Dt41) (x6 : Dt41) (x7 : Int) (x8 : Int) : fulcrumref01_Sub.L6 0 x0 x1 x6 x7 x8 = none := by kernel_rfl
theorem fulcrumref01_Sub.eval (k : Nat) (a0 : Dt41) (a1 : Dt41) : evalF fulcrumref01_Sub.spec fulcrumref01_Sub.cals T Try.f93 k (a0, a1, ()) = fulcrumref01_Sub.e (fulcrumref01_Sub.L6 k) a0 a1 := by kernel_rfl
theorem fulcrumref01_Sub.F_eq (a0 : Dt41) (a1 : Dt41) : fulcrumref01_Sub.F (a0, a1, ()) = limF fulcrumref01_Sub.spec fulcrumref01_Sub.cals T Try.f93 (a0, a1, ()) := by kernel_rfl
theorem fulcrumref01_Sub.of (k : Nat) (a0 : Dt41) (a1 : Dt41) {y : Dt41 × Int × Unit} (h : fulcrumref01_Sub.e (fulcrumref01_Sub.L6 k) a0 a1 = some y) : fulcrumref01_Sub.F (a0, a1, ()) = some y := (fulcrumref01_Sub.F_eq a0 a1).trans (limF_of (q := fulcrumref01_Sub.spec) (C := fulcrumref01_Sub.cals) (T := T) (f := Try.f93) (x := (a0, a1, ())) (y := y) k ((fulcrumref01_Sub.eval k a0 a1).trans h))

/-! ### fulcrum/fulcrumref01.twice -/
def fulcrumref01_twice.spec : Spec := ⟨[(false, Kt41), (false, .bool)], [(false, Kt41)], .own, fun j => match j with | 6 => [(0, .lf (.z 115 (.int .u32) false)), (5, .lf (.o 115 (.int .u32) true)), (6, .lf (.v true)), (7, .lf (.v true))] | _ => []⟩
noncomputable def fulcrumref01_twice.cals : Cals := (Cals.cons 72 fulcrumref01_Norm.sig (Cals.base tabs))
noncomputable def fulcrumref01_twice.sig : Sig := fulcrumref01_twice.spec.sig fulcrumref01_twice.cals T Try.f94
noncomputable def fulcrumref01_twice.F (x : Dt41 × Bool × Unit) : Option (Dt41 × Unit) := limF fulcrumref01_twice.spec fulcrumref01_twice.cals T Try.f94 x
theorem fulcrumref01_twice.ck : CalsOk Try.prog fulcrumref01_twice.cals := (CalsOk.cons fulcrumref01_Norm.cal (CalsOk.base tabsOk))
theorem fulcrumref01_twice.cal : CalOk Try.prog tabs 94 fulcrumref01_twice.sig := calOk_lim' tabOk fulcrumref01_twice.ck mix Try.func94 (by kernel_rfl) (by kernel_rfl) (by kernel_rfl) (by kernel_rfl)
def fulcrumref01_twice.m6 (x0 : Dt41) (x5 : Dt41) (x6 : Int) (x7 : Int) : S := ⟨[(0, .one (.lf (.val false Kt41 x0))), (5, .one (.lf (.own 0))), (6, .one (.lf (.val true (.int .u32) x6))), (7, .one (.lf (.val true (.int .i64) x7)))], ⟨[some ⟨115, (.int .u32), true, true, x5⟩], []⟩⟩
noncomputable def fulcrumref01_twice.b6 (f6 : Dt41 → Dt41 → Int → Int → Option (Dt41 × Unit)) (x0 : Dt41) (x5 : Dt41) (x6 : Int) (x7 : Int) : Option (Dt41 × Unit) :=
  let v1 := (List.length x0 : Int)
  let v2 := decide (x7 < v1)
  bif v2 then (bif decide (0 ≤ x7) && decide (x7 < (List.length x0 : Int)) then (let v3 := List.getD x0 (Int.toNat x7) (0 : Int)
  bif decide ((1 : Int) < 0) then none
  else (let v4 := shlI .u32 v3 (1 : Int)
  let v5 := bitsOp .or .u32 v4 x6
  bif decide (0 ≤ x7) && decide (x7 < (List.length x5 : Int)) then (let v6 := List.set x5 (Int.toNat x7) v5
  bif decide (0 ≤ x7) && decide (x7 < (List.length x0 : Int)) then (let v7 := List.getD x0 (Int.toNat x7) (0 : Int)
  bif decide ((31 : Int) < 0) then none
  else (let v8 := shrI .u32 v7 (31 : Int)
  let v9 := IntKind.i64.wrap (x7 + (1 : Int))
  f6 x0 v6 v8 v9))
  else none)
  else none))
  else none)
  else (let v10 := (List.length x0 : Int)
  bif decide (0 ≤ v10) && decide (v10 < (List.length x5 : Int)) then (let v11 := List.set x5 (Int.toNat v10) x6
  (fulcrumref01_Norm.F (v11, ())).bind fun y12 =>
  some (y12.1, ()))
  else none)
noncomputable def fulcrumref01_twice.e (f6 : Dt41 → Dt41 → Int → Int → Option (Dt41 × Unit)) (a0 : Dt41) (a1 : Bool) : Option (Dt41 × Unit) :=
  let v1 := (List.length a0 : Int)
  let v2 := IntKind.i64.wrap (v1 + (1 : Int))
  bif decide (0 ≤ v2) && (decide (v2 ≤ v2) && (decide (Int.toNat v2 * 4 ≤ 281474976710656) && Nat.blt 0 4)) then (let v3 := List.replicate (Int.toNat v2) (0 : Int)
  bif a1 then (f6 a0 v3 (1 : Int) (0 : Int))
  else (f6 a0 v3 (0 : Int) (0 : Int)))
  else none
noncomputable def fulcrumref01_twice.L6 (k : Nat) (x0 : Dt41) (x5 : Dt41) (x6 : Int) (x7 : Int) : Option (Dt41 × Unit) := heads (fulcrumref01_twice.spec.env fulcrumref01_twice.cals T Try.f94) (Func.pts Try.f94) k 6 (fulcrumref01_twice.m6 x0 x5 x6 x7)
theorem fulcrumref01_twice.L6_succ (k : Nat) (x0 : Dt41) (x5 : Dt41) (x6 : Int) (x7 : Int) : fulcrumref01_twice.L6 (k + 1) x0 x5 x6 x7 = fulcrumref01_twice.b6 (fulcrumref01_twice.L6 k) x0 x5 x6 x7 := by kernel_rfl
theorem fulcrumref01_twice.L6_zero (x0 : Dt41) (x5 : Dt41) (x6 : Int) (x7 : Int) : fulcrumref01_twice.L6 0 x0 x5 x6 x7 = none := by kernel_rfl
theorem fulcrumref01_twice.eval (k : Nat) (a0 : Dt41) (a1 : Bool) : evalF fulcrumref01_twice.spec fulcrumref01_twice.cals T Try.f94 k (a0, a1, ()) = fulcrumref01_twice.e (fulcrumref01_twice.L6 k) a0 a1 := by kernel_rfl
theorem fulcrumref01_twice.F_eq (a0 : Dt41) (a1 : Bool) : fulcrumref01_twice.F (a0, a1, ()) = limF fulcrumref01_twice.spec fulcrumref01_twice.cals T Try.f94 (a0, a1, ()) := by kernel_rfl
theorem fulcrumref01_twice.of (k : Nat) (a0 : Dt41) (a1 : Bool) {y : Dt41 × Unit} (h : fulcrumref01_twice.e (fulcrumref01_twice.L6 k) a0 a1 = some y) : fulcrumref01_twice.F (a0, a1, ()) = some y := (fulcrumref01_twice.F_eq a0 a1).trans (limF_of (q := fulcrumref01_twice.spec) (C := fulcrumref01_twice.cals) (T := T) (f := Try.f94) (x := (a0, a1, ())) (y := y) k ((fulcrumref01_twice.eval k a0 a1).trans h))

/-! ### fulcrum/fulcrumref01.Gcd -/
def fulcrumref01_Gcd.spec : Spec := ⟨[(false, Kt41), (false, Kt41)], [(false, Kt41)], .own, fun j => match j with | 11 => [(0, .lf (.o 115 (.int .u32) true)), (1, .lf (.o 115 (.int .u32) true)), (6, .lf (.v true))] | 15 => [(0, .lf (.o 115 (.int .u32) true)), (1, .lf (.o 115 (.int .u32) true)), (6, .lf (.v true))] | 16 => [(0, .lf (.o 115 (.int .u32) true)), (1, .lf (.o 115 (.int .u32) true)), (6, .lf (.v true))] | 18 => [(0, .lf (.o 115 (.int .u32) true)), (1, .lf (.o 115 (.int .u32) true)), (6, .lf (.v true))] | 24 => [(0, .lf (.o 115 (.int .u32) true)), (6, .lf (.v true)), (7, .lf (.v true))] | _ => []⟩
noncomputable def fulcrumref01_Gcd.cals : Cals := (Cals.cons 72 fulcrumref01_Norm.sig (Cals.cons 90 fulcrumref01_Cmp.sig (Cals.cons 91 fulcrumref01_Bit.sig (Cals.cons 92 fulcrumref01_Shift.sig (Cals.cons 93 fulcrumref01_Sub.sig (Cals.cons 94 fulcrumref01_twice.sig (Cals.base tabs)))))))
noncomputable def fulcrumref01_Gcd.sig : Sig := fulcrumref01_Gcd.spec.sig fulcrumref01_Gcd.cals T Try.f73
noncomputable def fulcrumref01_Gcd.F (x : Dt41 × Dt41 × Unit) : Option (Dt41 × Unit) := limF fulcrumref01_Gcd.spec fulcrumref01_Gcd.cals T Try.f73 x
theorem fulcrumref01_Gcd.ck : CalsOk Try.prog fulcrumref01_Gcd.cals := (CalsOk.cons fulcrumref01_Norm.cal (CalsOk.cons fulcrumref01_Cmp.cal (CalsOk.cons fulcrumref01_Bit.cal (CalsOk.cons fulcrumref01_Shift.cal (CalsOk.cons fulcrumref01_Sub.cal (CalsOk.cons fulcrumref01_twice.cal (CalsOk.base tabsOk)))))))
theorem fulcrumref01_Gcd.cal : CalOk Try.prog tabs 73 fulcrumref01_Gcd.sig := calOk_lim' tabOk fulcrumref01_Gcd.ck mix Try.func73 (by kernel_rfl) (by kernel_rfl) (by kernel_rfl) (by kernel_rfl)
def fulcrumref01_Gcd.m11 (x0 : Dt41) (x1 : Dt41) (x6 : Int) : S := ⟨[(0, .one (.lf (.own 0))), (1, .one (.lf (.own 1))), (6, .one (.lf (.val true (.int .i64) x6)))], ⟨[some ⟨115, (.int .u32), true, true, x0⟩, some ⟨115, (.int .u32), true, true, x1⟩], []⟩⟩
def fulcrumref01_Gcd.m15 (x0 : Dt41) (x1 : Dt41) (x6 : Int) : S := ⟨[(0, .one (.lf (.own 0))), (1, .one (.lf (.own 1))), (6, .one (.lf (.val true (.int .i64) x6)))], ⟨[some ⟨115, (.int .u32), true, true, x0⟩, some ⟨115, (.int .u32), true, true, x1⟩], []⟩⟩
def fulcrumref01_Gcd.m16 (x0 : Dt41) (x1 : Dt41) (x6 : Int) : S := ⟨[(0, .one (.lf (.own 0))), (1, .one (.lf (.own 1))), (6, .one (.lf (.val true (.int .i64) x6)))], ⟨[some ⟨115, (.int .u32), true, true, x0⟩, some ⟨115, (.int .u32), true, true, x1⟩], []⟩⟩
def fulcrumref01_Gcd.m18 (x0 : Dt41) (x1 : Dt41) (x6 : Int) : S := ⟨[(0, .one (.lf (.own 0))), (1, .one (.lf (.own 1))), (6, .one (.lf (.val true (.int .i64) x6)))], ⟨[some ⟨115, (.int .u32), true, true, x0⟩, some ⟨115, (.int .u32), true, true, x1⟩], []⟩⟩
def fulcrumref01_Gcd.m24 (x0 : Dt41) (x6 : Int) (x7 : Int) : S := ⟨[(0, .one (.lf (.own 0))), (6, .one (.lf (.val true (.int .i64) x6))), (7, .one (.lf (.val true (.int .i64) x7)))], ⟨[some ⟨115, (.int .u32), true, true, x0⟩], []⟩⟩
noncomputable def fulcrumref01_Gcd.b11 (f11 : Dt41 → Dt41 → Int → Option (Dt41 × Unit)) (f15 : Dt41 → Dt41 → Int → Option (Dt41 × Unit)) (f16 : Dt41 → Dt41 → Int → Option (Dt41 × Unit)) (f18 : Dt41 → Dt41 → Int → Option (Dt41 × Unit)) (f24 : Dt41 → Int → Int → Option (Dt41 × Unit)) (x0 : Dt41) (x1 : Dt41) (x6 : Int) : Option (Dt41 × Unit) :=
  (fulcrumref01_Bit.F (x0, (0 : Int), ())).bind fun y1 =>
  let v2 := not y1.1
  bif v2 then ((fulcrumref01_Bit.F (x1, (0 : Int), ())).bind fun y3 =>
  let v4 := not y3.1
  bif v4 then ((fulcrumref01_Shift.F (x0, (-1 : Int), ())).bind fun y5 =>
  (fulcrumref01_Shift.F (x1, (-1 : Int), ())).bind fun y6 =>
  let v7 := IntKind.i64.wrap (x6 + (1 : Int))
  f11 y5.1 y6.1 v7)
  else (f15 x0 x1 x6))
  else (f15 x0 x1 x6)
noncomputable def fulcrumref01_Gcd.b15 (f11 : Dt41 → Dt41 → Int → Option (Dt41 × Unit)) (f15 : Dt41 → Dt41 → Int → Option (Dt41 × Unit)) (f16 : Dt41 → Dt41 → Int → Option (Dt41 × Unit)) (f18 : Dt41 → Dt41 → Int → Option (Dt41 × Unit)) (f24 : Dt41 → Int → Int → Option (Dt41 × Unit)) (x0 : Dt41) (x1 : Dt41) (x6 : Int) : Option (Dt41 × Unit) :=
  let v1 := (List.length x1 : Int)
  let v2 := decide (v1 > (0 : Int))
  bif v2 then (f16 x0 x1 x6)
  else (f24 x0 x6 (0 : Int))
noncomputable def fulcrumref01_Gcd.b16 (f11 : Dt41 → Dt41 → Int → Option (Dt41 × Unit)) (f15 : Dt41 → Dt41 → Int → Option (Dt41 × Unit)) (f16 : Dt41 → Dt41 → Int → Option (Dt41 × Unit)) (f18 : Dt41 → Dt41 → Int → Option (Dt41 × Unit)) (f24 : Dt41 → Int → Int → Option (Dt41 × Unit)) (x0 : Dt41) (x1 : Dt41) (x6 : Int) : Option (Dt41 × Unit) :=
  (fulcrumref01_Bit.F (x0, (0 : Int), ())).bind fun y1 =>
  let v2 := not y1.1
  bif v2 then ((fulcrumref01_Shift.F (x0, (-1 : Int), ())).bind fun y3 =>
  f16 y3.1 x1 x6)
  else (f18 x0 x1 x6)
noncomputable def fulcrumref01_Gcd.b18 (f11 : Dt41 → Dt41 → Int → Option (Dt41 × Unit)) (f15 : Dt41 → Dt41 → Int → Option (Dt41 × Unit)) (f16 : Dt41 → Dt41 → Int → Option (Dt41 × Unit)) (f18 : Dt41 → Dt41 → Int → Option (Dt41 × Unit)) (f24 : Dt41 → Int → Int → Option (Dt41 × Unit)) (x0 : Dt41) (x1 : Dt41) (x6 : Int) : Option (Dt41 × Unit) :=
  (fulcrumref01_Bit.F (x1, (0 : Int), ())).bind fun y1 =>
  let v2 := not y1.1
  bif v2 then ((fulcrumref01_Shift.F (x1, (-1 : Int), ())).bind fun y3 =>
  f18 x0 y3.1 x6)
  else ((fulcrumref01_Cmp.F (x0, x1, ())).bind fun y4 =>
  let v5 := decide (y4.1 > (0 : Int))
  bif v5 then ((fulcrumref01_Sub.F (x0, x1, ())).bind fun y6 =>
  f15 x1 y6.1 x6)
  else ((fulcrumref01_Sub.F (x1, x0, ())).bind fun y7 =>
  f15 x0 y7.1 x6))
noncomputable def fulcrumref01_Gcd.b24 (f11 : Dt41 → Dt41 → Int → Option (Dt41 × Unit)) (f15 : Dt41 → Dt41 → Int → Option (Dt41 × Unit)) (f16 : Dt41 → Dt41 → Int → Option (Dt41 × Unit)) (f18 : Dt41 → Dt41 → Int → Option (Dt41 × Unit)) (f24 : Dt41 → Int → Int → Option (Dt41 × Unit)) (x0 : Dt41) (x6 : Int) (x7 : Int) : Option (Dt41 × Unit) :=
  let v1 := decide (x7 < x6)
  bif v1 then ((fulcrumref01_twice.F (x0, false, ())).bind fun y2 =>
  let v3 := IntKind.i64.wrap (x7 + (1 : Int))
  f24 y2.1 x6 v3)
  else (some (x0, ()))
noncomputable def fulcrumref01_Gcd.e (f11 : Dt41 → Dt41 → Int → Option (Dt41 × Unit)) (f15 : Dt41 → Dt41 → Int → Option (Dt41 × Unit)) (f16 : Dt41 → Dt41 → Int → Option (Dt41 × Unit)) (f18 : Dt41 → Dt41 → Int → Option (Dt41 × Unit)) (f24 : Dt41 → Int → Int → Option (Dt41 × Unit)) (a0 : Dt41) (a1 : Dt41) : Option (Dt41 × Unit) :=
  (fulcrumref01_Norm.F (a0, ())).bind fun y1 =>
  (fulcrumref01_Norm.F (a1, ())).bind fun y2 =>
  let v3 := (List.length y1.1 : Int)
  let v4 := (v3 == (0 : Int))
  bif v4 then (some (y2.1, ()))
  else (let v5 := (List.length y2.1 : Int)
  let v6 := (v5 == (0 : Int))
  bif v6 then (some (y1.1, ()))
  else (let v7 := ([(1 : Int)] : List Int)
  (fulcrumref01_Cmp.F (y1.1, v7, ())).bind fun y8 =>
  let v9 := (y8.1 == (0 : Int))
  bif v9 then (some (v7, ()))
  else ((fulcrumref01_Cmp.F (y2.1, v7, ())).bind fun y10 =>
  let v11 := (y10.1 == (0 : Int))
  bif v11 then (some (v7, ()))
  else (f11 y1.1 y2.1 (0 : Int)))))
noncomputable def fulcrumref01_Gcd.L11 (k : Nat) (x0 : Dt41) (x1 : Dt41) (x6 : Int) : Option (Dt41 × Unit) := heads (fulcrumref01_Gcd.spec.env fulcrumref01_Gcd.cals T Try.f73) (Func.pts Try.f73) k 11 (fulcrumref01_Gcd.m11 x0 x1 x6)
noncomputable def fulcrumref01_Gcd.L15 (k : Nat) (x0 : Dt41) (x1 : Dt41) (x6 : Int) : Option (Dt41 × Unit) := heads (fulcrumref01_Gcd.spec.env fulcrumref01_Gcd.cals T Try.f73) (Func.pts Try.f73) k 15 (fulcrumref01_Gcd.m15 x0 x1 x6)
noncomputable def fulcrumref01_Gcd.L16 (k : Nat) (x0 : Dt41) (x1 : Dt41) (x6 : Int) : Option (Dt41 × Unit) := heads (fulcrumref01_Gcd.spec.env fulcrumref01_Gcd.cals T Try.f73) (Func.pts Try.f73) k 16 (fulcrumref01_Gcd.m16 x0 x1 x6)
noncomputable def fulcrumref01_Gcd.L18 (k : Nat) (x0 : Dt41) (x1 : Dt41) (x6 : Int) : Option (Dt41 × Unit) := heads (fulcrumref01_Gcd.spec.env fulcrumref01_Gcd.cals T Try.f73) (Func.pts Try.f73) k 18 (fulcrumref01_Gcd.m18 x0 x1 x6)
noncomputable def fulcrumref01_Gcd.L24 (k : Nat) (x0 : Dt41) (x6 : Int) (x7 : Int) : Option (Dt41 × Unit) := heads (fulcrumref01_Gcd.spec.env fulcrumref01_Gcd.cals T Try.f73) (Func.pts Try.f73) k 24 (fulcrumref01_Gcd.m24 x0 x6 x7)
theorem fulcrumref01_Gcd.L11_succ (k : Nat) (x0 : Dt41) (x1 : Dt41) (x6 : Int) : fulcrumref01_Gcd.L11 (k + 1) x0 x1 x6 = fulcrumref01_Gcd.b11 (fulcrumref01_Gcd.L11 k) (fulcrumref01_Gcd.L15 k) (fulcrumref01_Gcd.L16 k) (fulcrumref01_Gcd.L18 k) (fulcrumref01_Gcd.L24 k) x0 x1 x6 := by kernel_rfl
theorem fulcrumref01_Gcd.L11_zero (x0 : Dt41) (x1 : Dt41) (x6 : Int) : fulcrumref01_Gcd.L11 0 x0 x1 x6 = none := by kernel_rfl
theorem fulcrumref01_Gcd.L15_succ (k : Nat) (x0 : Dt41) (x1 : Dt41) (x6 : Int) : fulcrumref01_Gcd.L15 (k + 1) x0 x1 x6 = fulcrumref01_Gcd.b15 (fulcrumref01_Gcd.L11 k) (fulcrumref01_Gcd.L15 k) (fulcrumref01_Gcd.L16 k) (fulcrumref01_Gcd.L18 k) (fulcrumref01_Gcd.L24 k) x0 x1 x6 := by kernel_rfl
theorem fulcrumref01_Gcd.L15_zero (x0 : Dt41) (x1 : Dt41) (x6 : Int) : fulcrumref01_Gcd.L15 0 x0 x1 x6 = none := by kernel_rfl
theorem fulcrumref01_Gcd.L16_succ (k : Nat) (x0 : Dt41) (x1 : Dt41) (x6 : Int) : fulcrumref01_Gcd.L16 (k + 1) x0 x1 x6 = fulcrumref01_Gcd.b16 (fulcrumref01_Gcd.L11 k) (fulcrumref01_Gcd.L15 k) (fulcrumref01_Gcd.L16 k) (fulcrumref01_Gcd.L18 k) (fulcrumref01_Gcd.L24 k) x0 x1 x6 := by kernel_rfl
theorem fulcrumref01_Gcd.L16_zero (x0 : Dt41) (x1 : Dt41) (x6 : Int) : fulcrumref01_Gcd.L16 0 x0 x1 x6 = none := by kernel_rfl
theorem fulcrumref01_Gcd.L18_succ (k : Nat) (x0 : Dt41) (x1 : Dt41) (x6 : Int) : fulcrumref01_Gcd.L18 (k + 1) x0 x1 x6 = fulcrumref01_Gcd.b18 (fulcrumref01_Gcd.L11 k) (fulcrumref01_Gcd.L15 k) (fulcrumref01_Gcd.L16 k) (fulcrumref01_Gcd.L18 k) (fulcrumref01_Gcd.L24 k) x0 x1 x6 := by kernel_rfl
theorem fulcrumref01_Gcd.L18_zero (x0 : Dt41) (x1 : Dt41) (x6 : Int) : fulcrumref01_Gcd.L18 0 x0 x1 x6 = none := by kernel_rfl
theorem fulcrumref01_Gcd.L24_succ (k : Nat) (x0 : Dt41) (x6 : Int) (x7 : Int) : fulcrumref01_Gcd.L24 (k + 1) x0 x6 x7 = fulcrumref01_Gcd.b24 (fulcrumref01_Gcd.L11 k) (fulcrumref01_Gcd.L15 k) (fulcrumref01_Gcd.L16 k) (fulcrumref01_Gcd.L18 k) (fulcrumref01_Gcd.L24 k) x0 x6 x7 := by kernel_rfl
theorem fulcrumref01_Gcd.L24_zero (x0 : Dt41) (x6 : Int) (x7 : Int) : fulcrumref01_Gcd.L24 0 x0 x6 x7 = none := by kernel_rfl
theorem fulcrumref01_Gcd.eval (k : Nat) (a0 : Dt41) (a1 : Dt41) : evalF fulcrumref01_Gcd.spec fulcrumref01_Gcd.cals T Try.f73 k (a0, a1, ()) = fulcrumref01_Gcd.e (fulcrumref01_Gcd.L11 k) (fulcrumref01_Gcd.L15 k) (fulcrumref01_Gcd.L16 k) (fulcrumref01_Gcd.L18 k) (fulcrumref01_Gcd.L24 k) a0 a1 := by kernel_rfl
theorem fulcrumref01_Gcd.F_eq (a0 : Dt41) (a1 : Dt41) : fulcrumref01_Gcd.F (a0, a1, ()) = limF fulcrumref01_Gcd.spec fulcrumref01_Gcd.cals T Try.f73 (a0, a1, ()) := by kernel_rfl
theorem fulcrumref01_Gcd.of (k : Nat) (a0 : Dt41) (a1 : Dt41) {y : Dt41 × Unit} (h : fulcrumref01_Gcd.e (fulcrumref01_Gcd.L11 k) (fulcrumref01_Gcd.L15 k) (fulcrumref01_Gcd.L16 k) (fulcrumref01_Gcd.L18 k) (fulcrumref01_Gcd.L24 k) a0 a1 = some y) : fulcrumref01_Gcd.F (a0, a1, ()) = some y := (fulcrumref01_Gcd.F_eq a0 a1).trans (limF_of (q := fulcrumref01_Gcd.spec) (C := fulcrumref01_Gcd.cals) (T := T) (f := Try.f73) (x := (a0, a1, ())) (y := y) k ((fulcrumref01_Gcd.eval k a0 a1).trans h))

/-! ### fulcrum/fulcrumref01.Div -/
def fulcrumref01_Div.spec : Spec := ⟨[(false, Kt41), (false, Kt41)], [(false, Kt41), (false, Kt41), (false, (.int .i64))], .own, fun j => match j with | 11 => [(0, .lf (.z 115 (.int .u32) true)), (1, .lf (.o 115 (.int .u32) true)), (7, .lf (.o 115 (.int .u32) true)), (9, .lf (.o 115 (.int .u32) true)), (10, .lf (.v true))] | _ => []⟩
noncomputable def fulcrumref01_Div.cals : Cals := (Cals.cons 72 fulcrumref01_Norm.sig (Cals.cons 91 fulcrumref01_Bit.sig (Cals.cons 94 fulcrumref01_twice.sig (Cals.cons 90 fulcrumref01_Cmp.sig (Cals.cons 93 fulcrumref01_Sub.sig (Cals.base tabs))))))
noncomputable def fulcrumref01_Div.sig : Sig := fulcrumref01_Div.spec.sig fulcrumref01_Div.cals T Try.f74
noncomputable def fulcrumref01_Div.F (x : Dt41 × Dt41 × Unit) : Option (Dt41 × Dt41 × Int × Unit) := limF fulcrumref01_Div.spec fulcrumref01_Div.cals T Try.f74 x
theorem fulcrumref01_Div.ck : CalsOk Try.prog fulcrumref01_Div.cals := (CalsOk.cons fulcrumref01_Norm.cal (CalsOk.cons fulcrumref01_Bit.cal (CalsOk.cons fulcrumref01_twice.cal (CalsOk.cons fulcrumref01_Cmp.cal (CalsOk.cons fulcrumref01_Sub.cal (CalsOk.base tabsOk))))))
theorem fulcrumref01_Div.cal : CalOk Try.prog tabs 74 fulcrumref01_Div.sig := calOk_lim' tabOk fulcrumref01_Div.ck mix Try.func74 (by kernel_rfl) (by kernel_rfl) (by kernel_rfl) (by kernel_rfl)
def fulcrumref01_Div.m11 (x0 : Dt41) (x1 : Dt41) (x7 : Dt41) (x9 : Dt41) (x10 : Int) : S := ⟨[(0, .one (.lf (.val true Kt41 x0))), (1, .one (.lf (.own 0))), (7, .one (.lf (.own 1))), (9, .one (.lf (.own 2))), (10, .one (.lf (.val true (.int .i64) x10)))], ⟨[some ⟨115, (.int .u32), true, true, x1⟩, some ⟨115, (.int .u32), true, true, x7⟩, some ⟨115, (.int .u32), true, true, x9⟩], []⟩⟩
noncomputable def fulcrumref01_Div.b11 (f11 : Dt41 → Dt41 → Dt41 → Dt41 → Int → Option (Dt41 × Dt41 × Int × Unit)) (x0 : Dt41) (x1 : Dt41) (x7 : Dt41) (x9 : Dt41) (x10 : Int) : Option (Dt41 × Dt41 × Int × Unit) :=
  let v1 := decide (x10 ≥ (0 : Int))
  bif v1 then ((fulcrumref01_Bit.F (x0, x10, ())).bind fun y2 =>
  (fulcrumref01_twice.F (x9, y2.1, ())).bind fun y3 =>
  (fulcrumref01_Cmp.F (y3.1, x1, ())).bind fun y4 =>
  let v5 := decide (y4.1 ≥ (0 : Int))
  bif v5 then ((fulcrumref01_Sub.F (y3.1, x1, ())).bind fun y6 =>
  bif decide ((32 : Int) = 0) then none
  else (let v7 := IntKind.i64.wrap (Int.tdiv x10 (32 : Int))
  bif decide (0 ≤ v7) && decide (v7 < (List.length x7 : Int)) then (let v8 := List.getD x7 (Int.toNat v7) (0 : Int)
  bif decide ((32 : Int) = 0) then none
  else (let v9 := Int.tmod x10 (32 : Int)
  let v10 := IntKind.u64.wrap v9
  bif decide (v10 < 0) then none
  else (let v11 := shlI .u32 (1 : Int) v10
  let v12 := bitsOp .or .u32 v8 v11
  bif decide (0 ≤ v7) && decide (v7 < (List.length x7 : Int)) then (let v13 := List.set x7 (Int.toNat v7) v12
  let v14 := IntKind.i64.wrap (x10 - (1 : Int))
  f11 x0 x1 v13 y6.1 v14)
  else none)))
  else none))
  else (let v15 := IntKind.i64.wrap (x10 - (1 : Int))
  f11 x0 x1 x7 y3.1 v15))
  else ((fulcrumref01_Norm.F (x7, ())).bind fun y16 =>
  some (y16.1, x9, (0 : Int), ()))
noncomputable def fulcrumref01_Div.e (f11 : Dt41 → Dt41 → Dt41 → Dt41 → Int → Option (Dt41 × Dt41 × Int × Unit)) (a0 : Dt41) (a1 : Dt41) : Option (Dt41 × Dt41 × Int × Unit) :=
  (fulcrumref01_Norm.F (a1, ())).bind fun y1 =>
  let v2 := (List.length y1.1 : Int)
  let v3 := (v2 == (0 : Int))
  bif v3 then (some (zt41, zt41, (11 : Int), ()))
  else ((fulcrumref01_Norm.F (a0, ())).bind fun y4 =>
  let v5 := (List.length y4.1 : Int)
  bif decide (0 ≤ v5) && (decide (v5 ≤ v5) && (decide (Int.toNat v5 * 4 ≤ 281474976710656) && Nat.blt 0 4)) then (let v6 := List.replicate (Int.toNat v5) (0 : Int)
  let v7 := (List.length y1.1 : Int)
  let v8 := IntKind.i64.wrap (v7 - (1 : Int))
  let v9 := (List.length y4.1 : Int)
  let v10 := decide (v8 > v9)
  bif v10 then (let v11 := (List.length y4.1 : Int)
  let v12 := (List.length y4.1 : Int)
  let v13 := IntKind.i64.wrap (v12 - v11)
  bif decide (0 ≤ v13) && decide (v13 ≤ (List.length y4.1 : Int)) then (let v14 := List.drop (Int.toNat v13) y4.1
  (fulcrumref01_Norm.F (v14, ())).bind fun y15 =>
  let v16 := (List.length y4.1 : Int)
  let v17 := IntKind.i64.wrap (v16 - v11)
  let v18 := IntKind.i64.wrap ((32 : Int) * v17)
  let v19 := IntKind.i64.wrap (v18 - (1 : Int))
  f11 y4.1 y1.1 v6 y15.1 v19)
  else none)
  else (let v20 := (List.length y4.1 : Int)
  let v21 := IntKind.i64.wrap (v20 - v8)
  bif decide (0 ≤ v21) && decide (v21 ≤ (List.length y4.1 : Int)) then (let v22 := List.drop (Int.toNat v21) y4.1
  (fulcrumref01_Norm.F (v22, ())).bind fun y23 =>
  let v24 := (List.length y4.1 : Int)
  let v25 := IntKind.i64.wrap (v24 - v8)
  let v26 := IntKind.i64.wrap ((32 : Int) * v25)
  let v27 := IntKind.i64.wrap (v26 - (1 : Int))
  f11 y4.1 y1.1 v6 y23.1 v27)
  else none))
  else none)
noncomputable def fulcrumref01_Div.L11 (k : Nat) (x0 : Dt41) (x1 : Dt41) (x7 : Dt41) (x9 : Dt41) (x10 : Int) : Option (Dt41 × Dt41 × Int × Unit) := heads (fulcrumref01_Div.spec.env fulcrumref01_Div.cals T Try.f74) (Func.pts Try.f74) k 11 (fulcrumref01_Div.m11 x0 x1 x7 x9 x10)
theorem fulcrumref01_Div.L11_succ (k : Nat) (x0 : Dt41) (x1 : Dt41) (x7 : Dt41) (x9 : Dt41) (x10 : Int) : fulcrumref01_Div.L11 (k + 1) x0 x1 x7 x9 x10 = fulcrumref01_Div.b11 (fulcrumref01_Div.L11 k) x0 x1 x7 x9 x10 := by kernel_rfl
theorem fulcrumref01_Div.L11_zero (x0 : Dt41) (x1 : Dt41) (x7 : Dt41) (x9 : Dt41) (x10 : Int) : fulcrumref01_Div.L11 0 x0 x1 x7 x9 x10 = none := by kernel_rfl
theorem fulcrumref01_Div.eval (k : Nat) (a0 : Dt41) (a1 : Dt41) : evalF fulcrumref01_Div.spec fulcrumref01_Div.cals T Try.f74 k (a0, a1, ()) = fulcrumref01_Div.e (fulcrumref01_Div.L11 k) a0 a1 := by kernel_rfl
theorem fulcrumref01_Div.F_eq (a0 : Dt41) (a1 : Dt41) : fulcrumref01_Div.F (a0, a1, ()) = limF fulcrumref01_Div.spec fulcrumref01_Div.cals T Try.f74 (a0, a1, ()) := by kernel_rfl
theorem fulcrumref01_Div.of (k : Nat) (a0 : Dt41) (a1 : Dt41) {y : Dt41 × Dt41 × Int × Unit} (h : fulcrumref01_Div.e (fulcrumref01_Div.L11 k) a0 a1 = some y) : fulcrumref01_Div.F (a0, a1, ()) = some y := (fulcrumref01_Div.F_eq a0 a1).trans (limF_of (q := fulcrumref01_Div.spec) (C := fulcrumref01_Div.cals) (T := T) (f := Try.f74) (x := (a0, a1, ())) (y := y) k ((fulcrumref01_Div.eval k a0 a1).trans h))

/-! ### fulcrum/fulcrumref03.Norm -/
def fulcrumref03_Norm.spec : Spec := ⟨[(true, Kt45)], [(true, Kt45)], .own, fun j => match j with  | _ => []⟩
noncomputable def fulcrumref03_Norm.cals : Cals := (Cals.cons 71 fulcrumref02_Norm.sig (Cals.cons 72 fulcrumref01_Norm.sig (Cals.cons 73 fulcrumref01_Gcd.sig (Cals.cons 74 fulcrumref01_Div.sig (Cals.base tabs)))))
noncomputable def fulcrumref03_Norm.sig : Sig := fulcrumref03_Norm.spec.sig fulcrumref03_Norm.cals T Try.f61
noncomputable def fulcrumref03_Norm.F (x : Dt45 × Unit) : Option (Dt45 × Unit) := limF fulcrumref03_Norm.spec fulcrumref03_Norm.cals T Try.f61 x
theorem fulcrumref03_Norm.ck : CalsOk Try.prog fulcrumref03_Norm.cals := (CalsOk.cons fulcrumref02_Norm.cal (CalsOk.cons fulcrumref01_Norm.cal (CalsOk.cons fulcrumref01_Gcd.cal (CalsOk.cons fulcrumref01_Div.cal (CalsOk.base tabsOk)))))
theorem fulcrumref03_Norm.cal : CalOk Try.prog tabs 61 fulcrumref03_Norm.sig := calOk_lim' tabOk fulcrumref03_Norm.ck mix Try.func61 (by kernel_rfl) (by kernel_rfl) (by kernel_rfl) (by kernel_rfl)
noncomputable def fulcrumref03_Norm.e  (a0 : Dt45) : Option (Dt45 × Unit) :=
  (fulcrumref02_Norm.F ((a0.1.1, a0.1.2), ())).bind fun y1 =>
  (fulcrumref01_Norm.F (a0.2, ())).bind fun y2 =>
  let v3 := (List.length y2.1 : Int)
  let v4 := (v3 == (0 : Int))
  bif v4 then (let v5 := ([(1 : Int)] : List Int)
  some ((zt43, v5), ()))
  else (let v6 := (List.length y1.1.2 : Int)
  let v7 := (v6 == (0 : Int))
  bif v7 then (let v8 := ([(1 : Int)] : List Int)
  some ((zt43, v8), ()))
  else ((fulcrumref01_Gcd.F (y1.1.2, y2.1, ())).bind fun y9 =>
  (fulcrumref01_Div.F (y1.1.2, y9.1, ())).bind fun y10 =>
  (fulcrumref01_Div.F (y2.1, y9.1, ())).bind fun y11 =>
  some (((y1.1.1, y10.1), y11.1), ())))
theorem fulcrumref03_Norm.eval (k : Nat) (a0 : Dt45) : evalF fulcrumref03_Norm.spec fulcrumref03_Norm.cals T Try.f61 k (a0, ()) = fulcrumref03_Norm.e  a0 := by kernel_rfl
theorem fulcrumref03_Norm.F_eq (a0 : Dt45) : fulcrumref03_Norm.F (a0, ()) = limF fulcrumref03_Norm.spec fulcrumref03_Norm.cals T Try.f61 (a0, ()) := by kernel_rfl
theorem fulcrumref03_Norm.of (k : Nat) (a0 : Dt45) {y : Dt45 × Unit} (h : fulcrumref03_Norm.e  a0 = some y) : fulcrumref03_Norm.F (a0, ()) = some y := (fulcrumref03_Norm.F_eq a0).trans (limF_of (q := fulcrumref03_Norm.spec) (C := fulcrumref03_Norm.cals) (T := T) (f := Try.f61) (x := (a0, ())) (y := y) k ((fulcrumref03_Norm.eval k a0).trans h))

/-! ### fulcrum/fulcrumref05.Norm -/
def fulcrumref05_Norm.spec : Spec := ⟨[(true, Kt47)], [(true, Kt47)], .own, fun j => match j with  | _ => []⟩
noncomputable def fulcrumref05_Norm.cals : Cals := (Cals.cons 61 fulcrumref03_Norm.sig (Cals.base tabs))
noncomputable def fulcrumref05_Norm.sig : Sig := fulcrumref05_Norm.spec.sig fulcrumref05_Norm.cals T Try.f59
noncomputable def fulcrumref05_Norm.F (x : Dt47 × Unit) : Option (Dt47 × Unit) := limF fulcrumref05_Norm.spec fulcrumref05_Norm.cals T Try.f59 x
theorem fulcrumref05_Norm.ck : CalsOk Try.prog fulcrumref05_Norm.cals := (CalsOk.cons fulcrumref03_Norm.cal (CalsOk.base tabsOk))
theorem fulcrumref05_Norm.cal : CalOk Try.prog tabs 59 fulcrumref05_Norm.sig := calOk_lim' tabOk fulcrumref05_Norm.ck mix Try.func59 (by kernel_rfl) (by kernel_rfl) (by kernel_rfl) (by kernel_rfl)
noncomputable def fulcrumref05_Norm.e  (a0 : Dt47) : Option (Dt47 × Unit) :=
  (fulcrumref03_Norm.F (((a0.1.1.1, a0.1.1.2), a0.1.2), ())).bind fun y1 =>
  (fulcrumref03_Norm.F (((a0.2.1.1, a0.2.1.2), a0.2.2), ())).bind fun y2 =>
  some ((((y1.1.1.1, y1.1.1.2), y1.1.2), ((y2.1.1.1, y2.1.1.2), y2.1.2)), ())
theorem fulcrumref05_Norm.eval (k : Nat) (a0 : Dt47) : evalF fulcrumref05_Norm.spec fulcrumref05_Norm.cals T Try.f59 k (a0, ()) = fulcrumref05_Norm.e  a0 := by kernel_rfl
theorem fulcrumref05_Norm.F_eq (a0 : Dt47) : fulcrumref05_Norm.F (a0, ()) = limF fulcrumref05_Norm.spec fulcrumref05_Norm.cals T Try.f59 (a0, ()) := by kernel_rfl
theorem fulcrumref05_Norm.of (k : Nat) (a0 : Dt47) {y : Dt47 × Unit} (h : fulcrumref05_Norm.e  a0 = some y) : fulcrumref05_Norm.F (a0, ()) = some y := (fulcrumref05_Norm.F_eq a0).trans (limF_of (q := fulcrumref05_Norm.spec) (C := fulcrumref05_Norm.cals) (T := T) (f := Try.f59) (x := (a0, ())) (y := y) k ((fulcrumref05_Norm.eval k a0).trans h))

/-! ### fulcrum/fulcrumref08.Bound -/
def fulcrumref08_Bound.spec : Spec := ⟨[(true, Kt53)], [(true, Kt53)], .own, fun j => match j with  | _ => []⟩
noncomputable def fulcrumref08_Bound.cals : Cals := (Cals.cons 59 fulcrumref05_Norm.sig (Cals.base tabs))
noncomputable def fulcrumref08_Bound.sig : Sig := fulcrumref08_Bound.spec.sig fulcrumref08_Bound.cals T Try.f48
noncomputable def fulcrumref08_Bound.F (x : Dt53 × Unit) : Option (Dt53 × Unit) := limF fulcrumref08_Bound.spec fulcrumref08_Bound.cals T Try.f48 x
theorem fulcrumref08_Bound.ck : CalsOk Try.prog fulcrumref08_Bound.cals := (CalsOk.cons fulcrumref05_Norm.cal (CalsOk.base tabsOk))
theorem fulcrumref08_Bound.cal : CalOk Try.prog tabs 48 fulcrumref08_Bound.sig := calOk_lim' tabOk fulcrumref08_Bound.ck mix Try.func48 (by kernel_rfl) (by kernel_rfl) (by kernel_rfl) (by kernel_rfl)
noncomputable def fulcrumref08_Bound.e  (a0 : Dt53) : Option (Dt53 × Unit) :=
  let v1 := not a0.1
  bif v1 then (some (zt53, ()))
  else ((fulcrumref05_Norm.F ((((a0.2.1.1.1.1, a0.2.1.1.1.2), a0.2.1.1.2), ((a0.2.1.2.1.1, a0.2.1.2.1.2), a0.2.1.2.2)), ())).bind fun y2 =>
  some ((true, ((((y2.1.1.1.1, y2.1.1.1.2), y2.1.1.2), ((y2.1.2.1.1, y2.1.2.1.2), y2.1.2.2)), a0.2.2)), ()))
theorem fulcrumref08_Bound.eval (k : Nat) (a0 : Dt53) : evalF fulcrumref08_Bound.spec fulcrumref08_Bound.cals T Try.f48 k (a0, ()) = fulcrumref08_Bound.e  a0 := by kernel_rfl
theorem fulcrumref08_Bound.F_eq (a0 : Dt53) : fulcrumref08_Bound.F (a0, ()) = limF fulcrumref08_Bound.spec fulcrumref08_Bound.cals T Try.f48 (a0, ()) := by kernel_rfl
theorem fulcrumref08_Bound.of (k : Nat) (a0 : Dt53) {y : Dt53 × Unit} (h : fulcrumref08_Bound.e  a0 = some y) : fulcrumref08_Bound.F (a0, ()) = some y := (fulcrumref08_Bound.F_eq a0).trans (limF_of (q := fulcrumref08_Bound.spec) (C := fulcrumref08_Bound.cals) (T := T) (f := Try.f48) (x := (a0, ())) (y := y) k ((fulcrumref08_Bound.eval k a0).trans h))

/-! ### fulcrum/fulcrumref08.Copy -/
def fulcrumref08_Copy.spec : Spec := ⟨[(true, Kt29)], [(true, Kt29)], .own, fun j => match j with | 3 => [(1, .box 29 [.z 55 Kt55 false, .v false, .z 97 Kt97 false]), (2, .box 29 [.v true, .v true, .v true]), (3, .box 29 [.o 55 Kt55 true, .v false, .v true]), (4, .lf (.v true))] | 7 => [(1, .box 29 [.z 55 Kt55 false, .v false, .z 97 Kt97 false]), (2, .box 29 [.v true, .v true, .v true]), (3, .box 29 [.o 55 Kt55 true, .v false, .o 97 Kt97 true]), (5, .lf (.v true))] | _ => []⟩
noncomputable def fulcrumref08_Copy.cals : Cals := (Cals.cons 48 fulcrumref08_Bound.sig (Cals.base tabs))
noncomputable def fulcrumref08_Copy.sig : Sig := fulcrumref08_Copy.spec.sig fulcrumref08_Copy.cals T Try.f32
noncomputable def fulcrumref08_Copy.F (x : Dt29 × Unit) : Option (Dt29 × Unit) := limF fulcrumref08_Copy.spec fulcrumref08_Copy.cals T Try.f32 x
theorem fulcrumref08_Copy.ck : CalsOk Try.prog fulcrumref08_Copy.cals := (CalsOk.cons fulcrumref08_Bound.cal (CalsOk.base tabsOk))
theorem fulcrumref08_Copy.cal : CalOk Try.prog tabs 32 fulcrumref08_Copy.sig := calOk_lim' tabOk fulcrumref08_Copy.ck mix Try.func32 (by kernel_rfl) (by kernel_rfl) (by kernel_rfl) (by kernel_rfl)
def fulcrumref08_Copy.m3 (x1_0 : Dt26) (x1_1 : Int) (x1_2 : Dt27) (x2_1 : Int) (x3_0 : Dt26) (x3_1 : Int) (x4 : Int) : S := ⟨[(1, .box 0 0), (2, .box 1 0), (3, .box 2 0), (4, .one (.lf (.val true (.int .i64) x4)))], ⟨[some ⟨55, Kt55, true, true, x3_0⟩], [some ⟨29, [.val false Kt26 x1_0, .val false (.int .i64) x1_1, .val false Kt27 x1_2]⟩, some ⟨29, [.nil, .val true (.int .i64) x2_1, .nil]⟩, some ⟨29, [.own 0, .val false (.int .i64) x3_1, .nil]⟩]⟩⟩
def fulcrumref08_Copy.m7 (x1_0 : Dt26) (x1_1 : Int) (x1_2 : Dt27) (x2_1 : Int) (x3_0 : Dt26) (x3_1 : Int) (x3_2 : Dt27) (x5 : Int) : S := ⟨[(1, .box 0 0), (2, .box 1 0), (3, .box 2 0), (5, .one (.lf (.val true (.int .i64) x5)))], ⟨[some ⟨55, Kt55, true, true, x3_0⟩, some ⟨97, Kt97, true, true, x3_2⟩], [some ⟨29, [.val false Kt26 x1_0, .val false (.int .i64) x1_1, .val false Kt27 x1_2]⟩, some ⟨29, [.nil, .val true (.int .i64) x2_1, .nil]⟩, some ⟨29, [.own 0, .val false (.int .i64) x3_1, .own 1]⟩]⟩⟩
noncomputable def fulcrumref08_Copy.b3 (f3 : Dt26 → Int → Dt27 → Int → Dt26 → Int → Int → Option (Dt29 × Unit)) (f7 : Dt26 → Int → Dt27 → Int → Dt26 → Int → Dt27 → Int → Option (Dt29 × Unit)) (x1_0 : Dt26) (x1_1 : Int) (x1_2 : Dt27) (x2_1 : Int) (x3_0 : Dt26) (x3_1 : Int) (x4 : Int) : Option (Dt29 × Unit) :=
  let v1 := (List.length x1_0 : Int)
  let v2 := decide (x4 < v1)
  bif v2 then (bif decide (0 ≤ x4) && decide (x4 < (List.length x1_0 : Int)) then (let v3 := ((List.getD x1_0 (Int.toNat x4) zt55).1).1
  let v4 := ((((((List.getD x1_0 (Int.toNat x4) zt55).1).2).1).1).1).1
  let v5 := ((((((List.getD x1_0 (Int.toNat x4) zt55).1).2).1).1).1).2
  let v6 := (((((List.getD x1_0 (Int.toNat x4) zt55).1).2).1).1).2
  let v7 := ((((((List.getD x1_0 (Int.toNat x4) zt55).1).2).1).2).1).1
  let v8 := ((((((List.getD x1_0 (Int.toNat x4) zt55).1).2).1).2).1).2
  let v9 := (((((List.getD x1_0 (Int.toNat x4) zt55).1).2).1).2).2
  let v10 := (((List.getD x1_0 (Int.toNat x4) zt55).1).2).2
  (fulcrumref08_Bound.F ((v3, ((((v4, v5), v6), ((v7, v8), v9)), v10)), ())).bind fun y11 =>
  bif decide (0 ≤ x4) && decide (x4 < (List.length x1_0 : Int)) then (let v12 := ((List.getD x1_0 (Int.toNat x4) zt55).2).1
  let v13 := ((((((List.getD x1_0 (Int.toNat x4) zt55).2).2).1).1).1).1
  let v14 := ((((((List.getD x1_0 (Int.toNat x4) zt55).2).2).1).1).1).2
  let v15 := (((((List.getD x1_0 (Int.toNat x4) zt55).2).2).1).1).2
  let v16 := ((((((List.getD x1_0 (Int.toNat x4) zt55).2).2).1).2).1).1
  let v17 := ((((((List.getD x1_0 (Int.toNat x4) zt55).2).2).1).2).1).2
  let v18 := (((((List.getD x1_0 (Int.toNat x4) zt55).2).2).1).2).2
  let v19 := (((List.getD x1_0 (Int.toNat x4) zt55).2).2).2
  (fulcrumref08_Bound.F ((v12, ((((v13, v14), v15), ((v16, v17), v18)), v19)), ())).bind fun y20 =>
  let v21 := ([((y11.1.1, ((((y11.1.2.1.1.1.1, y11.1.2.1.1.1.2), y11.1.2.1.1.2), ((y11.1.2.1.2.1.1, y11.1.2.1.2.1.2), y11.1.2.1.2.2)), y11.1.2.2)), (y20.1.1, ((((y20.1.2.1.1.1.1, y20.1.2.1.1.1.2), y20.1.2.1.1.2), ((y20.1.2.1.2.1.1, y20.1.2.1.2.1.2), y20.1.2.1.2.2)), y20.1.2.2)))] : List Dt55)
  bif decide (List.length x3_0 + List.length v21 < 549755813888) then (let v22 := List.append x3_0 v21
  let v23 := IntKind.i64.wrap (x4 + (1 : Int))
  f3 x1_0 x1_1 x1_2 x2_1 v22 x3_1 v23)
  else none)
  else none)
  else none)
  else (f7 x1_0 x1_1 x1_2 x2_1 x3_0 x3_1 zt27 (0 : Int))
noncomputable def fulcrumref08_Copy.b7 (f3 : Dt26 → Int → Dt27 → Int → Dt26 → Int → Int → Option (Dt29 × Unit)) (f7 : Dt26 → Int → Dt27 → Int → Dt26 → Int → Dt27 → Int → Option (Dt29 × Unit)) (x1_0 : Dt26) (x1_1 : Int) (x1_2 : Dt27) (x2_1 : Int) (x3_0 : Dt26) (x3_1 : Int) (x3_2 : Dt27) (x5 : Int) : Option (Dt29 × Unit) :=
  let v1 := (List.length x1_2 : Int)
  let v2 := decide (x5 < v1)
  bif v2 then (bif decide (0 ≤ x5) && decide (x5 < (List.length x1_2 : Int)) then (let v3 := (List.getD x1_2 (Int.toNat x5) zt97).1
  let v4 := ((List.getD x1_2 (Int.toNat x5) zt97).2).1
  let v5 := (((List.getD x1_2 (Int.toNat x5) zt97).2).2).1
  let v6 := ((((List.getD x1_2 (Int.toNat x5) zt97).2).2).2).1
  let v7 := ((((((((List.getD x1_2 (Int.toNat x5) zt97).2).2).2).2).1).1).1).1
  let v8 := ((((((((List.getD x1_2 (Int.toNat x5) zt97).2).2).2).2).1).1).1).2
  let v9 := (((((((List.getD x1_2 (Int.toNat x5) zt97).2).2).2).2).1).1).2
  let v10 := ((((((((List.getD x1_2 (Int.toNat x5) zt97).2).2).2).2).1).2).1).1
  let v11 := ((((((((List.getD x1_2 (Int.toNat x5) zt97).2).2).2).2).1).2).1).2
  let v12 := (((((((List.getD x1_2 (Int.toNat x5) zt97).2).2).2).2).1).2).2
  let v13 := (((((List.getD x1_2 (Int.toNat x5) zt97).2).2).2).2).2
  (fulcrumref08_Bound.F ((v6, ((((v7, v8), v9), ((v10, v11), v12)), v13)), ())).bind fun y14 =>
  let v15 := ([(v3, (v4, (v5, (y14.1.1, ((((y14.1.2.1.1.1.1, y14.1.2.1.1.1.2), y14.1.2.1.1.2), ((y14.1.2.1.2.1.1, y14.1.2.1.2.1.2), y14.1.2.1.2.2)), y14.1.2.2)))))] : List Dt97)
  bif decide (List.length x3_2 + List.length v15 < 925904528653) then (let v16 := List.append x3_2 v15
  let v17 := IntKind.i64.wrap (x5 + (1 : Int))
  f7 x1_0 x1_1 x1_2 x2_1 x3_0 x3_1 v16 v17)
  else none)
  else none)
  else (some ((x3_0, (x3_1, x3_2)), ()))
noncomputable def fulcrumref08_Copy.e (f3 : Dt26 → Int → Dt27 → Int → Dt26 → Int → Int → Option (Dt29 × Unit)) (f7 : Dt26 → Int → Dt27 → Int → Dt26 → Int → Dt27 → Int → Option (Dt29 × Unit)) (a0 : Dt29) : Option (Dt29 × Unit) :=
  f3 a0.1 a0.2.1 a0.2.2 (0 : Int) zt26 a0.2.1 (0 : Int)
noncomputable def fulcrumref08_Copy.L3 (k : Nat) (x1_0 : Dt26) (x1_1 : Int) (x1_2 : Dt27) (x2_1 : Int) (x3_0 : Dt26) (x3_1 : Int) (x4 : Int) : Option (Dt29 × Unit) := heads (fulcrumref08_Copy.spec.env fulcrumref08_Copy.cals T Try.f32) (Func.pts Try.f32) k 3 (fulcrumref08_Copy.m3 x1_0 x1_1 x1_2 x2_1 x3_0 x3_1 x4)
noncomputable def fulcrumref08_Copy.L7 (k : Nat) (x1_0 : Dt26) (x1_1 : Int) (x1_2 : Dt27) (x2_1 : Int) (x3_0 : Dt26) (x3_1 : Int) (x3_2 : Dt27) (x5 : Int) : Option (Dt29 × Unit) := heads (fulcrumref08_Copy.spec.env fulcrumref08_Copy.cals T Try.f32) (Func.pts Try.f32) k 7 (fulcrumref08_Copy.m7 x1_0 x1_1 x1_2 x2_1 x3_0 x3_1 x3_2 x5)
theorem fulcrumref08_Copy.L3_succ (k : Nat) (x1_0 : Dt26) (x1_1 : Int) (x1_2 : Dt27) (x2_1 : Int) (x3_0 : Dt26) (x3_1 : Int) (x4 : Int) : fulcrumref08_Copy.L3 (k + 1) x1_0 x1_1 x1_2 x2_1 x3_0 x3_1 x4 = fulcrumref08_Copy.b3 (fulcrumref08_Copy.L3 k) (fulcrumref08_Copy.L7 k) x1_0 x1_1 x1_2 x2_1 x3_0 x3_1 x4 := by kernel_rfl
theorem fulcrumref08_Copy.L3_zero (x1_0 : Dt26) (x1_1 : Int) (x1_2 : Dt27) (x2_1 : Int) (x3_0 : Dt26) (x3_1 : Int) (x4 : Int) : fulcrumref08_Copy.L3 0 x1_0 x1_1 x1_2 x2_1 x3_0 x3_1 x4 = none := by kernel_rfl
theorem fulcrumref08_Copy.L7_succ (k : Nat) (x1_0 : Dt26) (x1_1 : Int) (x1_2 : Dt27) (x2_1 : Int) (x3_0 : Dt26) (x3_1 : Int) (x3_2 : Dt27) (x5 : Int) : fulcrumref08_Copy.L7 (k + 1) x1_0 x1_1 x1_2 x2_1 x3_0 x3_1 x3_2 x5 = fulcrumref08_Copy.b7 (fulcrumref08_Copy.L3 k) (fulcrumref08_Copy.L7 k) x1_0 x1_1 x1_2 x2_1 x3_0 x3_1 x3_2 x5 := by kernel_rfl
theorem fulcrumref08_Copy.L7_zero (x1_0 : Dt26) (x1_1 : Int) (x1_2 : Dt27) (x2_1 : Int) (x3_0 : Dt26) (x3_1 : Int) (x3_2 : Dt27) (x5 : Int) : fulcrumref08_Copy.L7 0 x1_0 x1_1 x1_2 x2_1 x3_0 x3_1 x3_2 x5 = none := by kernel_rfl
theorem fulcrumref08_Copy.eval (k : Nat) (a0 : Dt29) : evalF fulcrumref08_Copy.spec fulcrumref08_Copy.cals T Try.f32 k (a0, ()) = fulcrumref08_Copy.e (fulcrumref08_Copy.L3 k) (fulcrumref08_Copy.L7 k) a0 := by kernel_rfl
theorem fulcrumref08_Copy.F_eq (a0 : Dt29) : fulcrumref08_Copy.F (a0, ()) = limF fulcrumref08_Copy.spec fulcrumref08_Copy.cals T Try.f32 (a0, ()) := by kernel_rfl
theorem fulcrumref08_Copy.of (k : Nat) (a0 : Dt29) {y : Dt29 × Unit} (h : fulcrumref08_Copy.e (fulcrumref08_Copy.L3 k) (fulcrumref08_Copy.L7 k) a0 = some y) : fulcrumref08_Copy.F (a0, ()) = some y := (fulcrumref08_Copy.F_eq a0).trans (limF_of (q := fulcrumref08_Copy.spec) (C := fulcrumref08_Copy.cals) (T := T) (f := Try.f32) (x := (a0, ())) (y := y) k ((fulcrumref08_Copy.eval k a0).trans h))

/-! ### fulcrum/fulcrumref08.Grow -/
def fulcrumref08_Grow.spec : Spec := ⟨[(true, Kt29)], [(true, Kt29), (false, (.int .i64)), (false, (.int .i64))], .shared, fun j => match j with  | _ => []⟩
noncomputable def fulcrumref08_Grow.cals : Cals := (Cals.cons 32 fulcrumref08_Copy.sig (Cals.base tabs))
noncomputable def fulcrumref08_Grow.sig : Sig := fulcrumref08_Grow.spec.sig fulcrumref08_Grow.cals T Try.f11
noncomputable def fulcrumref08_Grow.F (x : Dt29 × Unit) : Option (Dt29 × Int × Int × Unit) := limF fulcrumref08_Grow.spec fulcrumref08_Grow.cals T Try.f11 x
theorem fulcrumref08_Grow.ck : CalsOk Try.prog fulcrumref08_Grow.cals := (CalsOk.cons fulcrumref08_Copy.cal (CalsOk.base tabsOk))
theorem fulcrumref08_Grow.cal : CalOk Try.prog tabs 11 fulcrumref08_Grow.sig := calOk_lim' tabOk fulcrumref08_Grow.ck mix Try.func11 (by kernel_rfl) (by kernel_rfl) (by kernel_rfl) (by kernel_rfl)
noncomputable def fulcrumref08_Grow.e  (a0 : Dt29) : Option (Dt29 × Int × Int × Unit) :=
  let v1 := (List.length a0.1 : Int)
  let v2 := decide (v1 ≥ (65536 : Int))
  bif v2 then (some ((a0.1, (a0.2.1, a0.2.2)), (0 : Int), (2 : Int), ()))
  else ((fulcrumref08_Copy.F ((a0.1, (a0.2.1, a0.2.2)), ())).bind fun y3 =>
  let v4 := ([zt55] : List Dt55)
  bif decide (List.length y3.1.1 + List.length v4 < 549755813888) then (let v5 := List.append y3.1.1 v4
  let v6 := (List.length a0.1 : Int)
  some ((v5, (y3.1.2.1, y3.1.2.2)), v6, (0 : Int), ()))
  else none)
theorem fulcrumref08_Grow.eval (k : Nat) (a0 : Dt29) : evalF fulcrumref08_Grow.spec fulcrumref08_Grow.cals T Try.f11 k (a0, ()) = fulcrumref08_Grow.e  a0 := by kernel_rfl
theorem fulcrumref08_Grow.F_eq (a0 : Dt29) : fulcrumref08_Grow.F (a0, ()) = limF fulcrumref08_Grow.spec fulcrumref08_Grow.cals T Try.f11 (a0, ()) := by kernel_rfl
theorem fulcrumref08_Grow.of (k : Nat) (a0 : Dt29) {y : Dt29 × Int × Int × Unit} (h : fulcrumref08_Grow.e  a0 = some y) : fulcrumref08_Grow.F (a0, ()) = some y := (fulcrumref08_Grow.F_eq a0).trans (limF_of (q := fulcrumref08_Grow.spec) (C := fulcrumref08_Grow.cals) (T := T) (f := Try.f11) (x := (a0, ())) (y := y) k ((fulcrumref08_Grow.eval k a0).trans h))

/-! ### (*fulcrum/bounds.Store).Vars -/
def bounds_Store_Vars.spec : XSpec := ⟨some ⟨75, 0, Kt75, 0⟩, false, [], false, none, [(false, (.int .i64))], false, fun j => match j with  | _ => []⟩
noncomputable def bounds_Store_Vars.cals : Cals := (Cals.consX 31 false bounds_Store_is.sig (Cals.base tabs))
noncomputable def bounds_Store_Vars.sig : XSig := bounds_Store_Vars.spec.sig bounds_Store_Vars.cals T Try.f12
noncomputable def bounds_Store_Vars.F (d : Dt75) (x : Unit) : Option (Unit × (Int × Unit) × Dt75) := limX bounds_Store_Vars.spec bounds_Store_Vars.cals T Try.f12 d x
theorem bounds_Store_Vars.ck : CalsOk Try.prog bounds_Store_Vars.cals := (CalsOk.consX bounds_Store_is.cal (CalsOk.base tabsOk))
theorem bounds_Store_Vars.cal : XOk Try.prog tabs 12 bounds_Store_Vars.sig := xok_of tabOk bounds_Store_Vars.ck mix Try.func12 (by kernel_rfl) (by kernel_rfl) (by kernel_rfl) (by kernel_rfl)
noncomputable def bounds_Store_Vars.e  (G : Gh) (d : Dt75)  : Option ((Unit × (Int × Unit) × Dt75) × Nat × List Value) :=
  (bounds_Store_is.F ((d.1.1, d.1.2), (d.2.1, d.2.2)) ()).bind fun y1 =>
  let v2 := not y1.2.1.1
  bif v2 then (some (((), ((0 : Int), ()), ((y1.2.2.1.1, y1.2.2.1.2), (y1.2.2.2.1, y1.2.2.2.2))), G.b, []))
  else (let v3 := (List.length y1.2.2.2.2 : Int)
  some (((), (v3, ()), ((y1.2.2.1.1, y1.2.2.1.2), (y1.2.2.2.1, y1.2.2.2.2))), G.b, []))
theorem bounds_Store_Vars.eval (k : Nat) (G : Gh) (d : Dt75)  : evalX bounds_Store_Vars.spec bounds_Store_Vars.cals T Try.f12 k G d () = bounds_Store_Vars.e  G d  := by kernel_rfl
theorem bounds_Store_Vars.of (d : Dt75)  (y : (Unit × (Int × Unit) × Dt75)) (h : ∀ G : Gh, ∃ k : Nat, bounds_Store_Vars.e  G d  = some (y, (G.b, []))) : bounds_Store_Vars.F d () = some y := limX_of (q := bounds_Store_Vars.spec) (C := bounds_Store_Vars.cals) (T := T) (f := Try.f12) (d := d) (x := ()) y fun G => (h G).imp fun k hk => (bounds_Store_Vars.eval k G d ).trans hk

/-! ### (*fulcrum/bounds.Store).Level -/
def bounds_Store_Level.spec : XSpec := ⟨some ⟨75, 0, Kt75, 0⟩, false, [], false, none, [(false, (.int .i64))], false, fun j => match j with  | _ => []⟩
noncomputable def bounds_Store_Level.cals : Cals := (Cals.consX 31 false bounds_Store_is.sig (Cals.base tabs))
noncomputable def bounds_Store_Level.sig : XSig := bounds_Store_Level.spec.sig bounds_Store_Level.cals T Try.f13
noncomputable def bounds_Store_Level.F (d : Dt75) (x : Unit) : Option (Unit × (Int × Unit) × Dt75) := limX bounds_Store_Level.spec bounds_Store_Level.cals T Try.f13 d x
theorem bounds_Store_Level.ck : CalsOk Try.prog bounds_Store_Level.cals := (CalsOk.consX bounds_Store_is.cal (CalsOk.base tabsOk))
theorem bounds_Store_Level.cal : XOk Try.prog tabs 13 bounds_Store_Level.sig := xok_of tabOk bounds_Store_Level.ck mix Try.func13 (by kernel_rfl) (by kernel_rfl) (by kernel_rfl) (by kernel_rfl)
noncomputable def bounds_Store_Level.e  (G : Gh) (d : Dt75)  : Option ((Unit × (Int × Unit) × Dt75) × Nat × List Value) :=
  (bounds_Store_is.F ((d.1.1, d.1.2), (d.2.1, d.2.2)) ()).bind fun y1 =>
  let v2 := not y1.2.1.1
  bif v2 then (some (((), ((0 : Int), ()), ((y1.2.2.1.1, y1.2.2.1.2), (y1.2.2.2.1, y1.2.2.2.2))), G.b, []))
  else (some (((), (y1.2.2.1.1, ()), ((y1.2.2.1.1, y1.2.2.1.2), (y1.2.2.2.1, y1.2.2.2.2))), G.b, []))
theorem bounds_Store_Level.eval (k : Nat) (G : Gh) (d : Dt75)  : evalX bounds_Store_Level.spec bounds_Store_Level.cals T Try.f13 k G d () = bounds_Store_Level.e  G d  := by kernel_rfl
theorem bounds_Store_Level.of (d : Dt75)  (y : (Unit × (Int × Unit) × Dt75)) (h : ∀ G : Gh, ∃ k : Nat, bounds_Store_Level.e  G d  = some (y, (G.b, []))) : bounds_Store_Level.F d () = some y := limX_of (q := bounds_Store_Level.spec) (C := bounds_Store_Level.cals) (T := T) (f := Try.f13) (d := d) (x := ()) y fun G => (h G).imp fun k hk => (bounds_Store_Level.eval k G d ).trans hk

/-! ### (*fulcrum/bounds.Store).is of nil -/
def bounds_Store_is_nil.spec : XSpec := ⟨none, true, [], false, none, [(false, .bool)], false, fun j => match j with  | _ => []⟩
noncomputable def bounds_Store_is_nil.cals : Cals := (Cals.base tabs)
noncomputable def bounds_Store_is_nil.sig : XSig := bounds_Store_is_nil.spec.sig bounds_Store_is_nil.cals T Try.f31
noncomputable def bounds_Store_is_nil.F (d : Unit) (x : Unit) : Option (Unit × (Bool × Unit) × Unit) := limX bounds_Store_is_nil.spec bounds_Store_is_nil.cals T Try.f31 d x
theorem bounds_Store_is_nil.ck : CalsOk Try.prog bounds_Store_is_nil.cals := (CalsOk.base tabsOk)
theorem bounds_Store_is_nil.cal : XOk Try.prog tabs 31 bounds_Store_is_nil.sig := xok_of tabOk bounds_Store_is_nil.ck mix Try.func31 (by kernel_rfl) (by kernel_rfl) (by kernel_rfl) (by kernel_rfl)
noncomputable def bounds_Store_is_nil.e  (G : Gh) (d : Unit)  : Option ((Unit × (Bool × Unit) × Unit) × Nat × List Value) :=
  some (((), (false, ()), ()), 0, [])
theorem bounds_Store_is_nil.eval (k : Nat) (G : Gh) (d : Unit)  : evalX bounds_Store_is_nil.spec bounds_Store_is_nil.cals T Try.f31 k G d () = bounds_Store_is_nil.e  G d  := by kernel_rfl
theorem bounds_Store_is_nil.of (d : Unit)  (y : (Unit × (Bool × Unit) × Unit)) (h : ∀ G : Gh, ∃ k : Nat, bounds_Store_is_nil.e  G d  = some (y, (0, []))) : bounds_Store_is_nil.F d () = some y := limX_of (q := bounds_Store_is_nil.spec) (C := bounds_Store_is_nil.cals) (T := T) (f := Try.f31) (d := d) (x := ()) y fun G => (h G).imp fun k hk => (bounds_Store_is_nil.eval k G d ).trans hk

/-! ### (*fulcrum/bounds.Store).Grow of nil -/
def bounds_Store_Grow_nil.spec : XSpec := ⟨none, true, [], false, none, [(false, (.int .i64)), (false, (.int .i64))], false, fun j => match j with  | _ => []⟩
noncomputable def bounds_Store_Grow_nil.cals : Cals := (Cals.consX 31 true bounds_Store_is_nil.sig (Cals.base tabs))
noncomputable def bounds_Store_Grow_nil.sig : XSig := bounds_Store_Grow_nil.spec.sig bounds_Store_Grow_nil.cals T Try.f10
noncomputable def bounds_Store_Grow_nil.F (d : Unit) (x : Unit) : Option (Unit × (Int × Int × Unit) × Unit) := limX bounds_Store_Grow_nil.spec bounds_Store_Grow_nil.cals T Try.f10 d x
theorem bounds_Store_Grow_nil.ck : CalsOk Try.prog bounds_Store_Grow_nil.cals := (CalsOk.consX bounds_Store_is_nil.cal (CalsOk.base tabsOk))
theorem bounds_Store_Grow_nil.cal : XOk Try.prog tabs 10 bounds_Store_Grow_nil.sig := xok_of tabOk bounds_Store_Grow_nil.ck mix Try.func10 (by kernel_rfl) (by kernel_rfl) (by kernel_rfl) (by kernel_rfl)
noncomputable def bounds_Store_Grow_nil.e  (G : Gh) (d : Unit)  : Option ((Unit × (Int × Int × Unit) × Unit) × Nat × List Value) :=
  (bounds_Store_is_nil.F () ()).bind fun y1 =>
  let v2 := not y1.2.1.1
  bif v2 then (some (((), ((0 : Int), (1 : Int), ()), ()), 0, []))
  else (none)
theorem bounds_Store_Grow_nil.eval (k : Nat) (G : Gh) (d : Unit)  : evalX bounds_Store_Grow_nil.spec bounds_Store_Grow_nil.cals T Try.f10 k G d () = bounds_Store_Grow_nil.e  G d  := by kernel_rfl
theorem bounds_Store_Grow_nil.of (d : Unit)  (y : (Unit × (Int × Int × Unit) × Unit)) (h : ∀ G : Gh, ∃ k : Nat, bounds_Store_Grow_nil.e  G d  = some (y, (0, []))) : bounds_Store_Grow_nil.F d () = some y := limX_of (q := bounds_Store_Grow_nil.spec) (C := bounds_Store_Grow_nil.cals) (T := T) (f := Try.f10) (d := d) (x := ()) y fun G => (h G).imp fun k hk => (bounds_Store_Grow_nil.eval k G d ).trans hk

/-! ### (*fulcrum/bounds.Store).Vars of nil -/
def bounds_Store_Vars_nil.spec : XSpec := ⟨none, true, [], false, none, [(false, (.int .i64))], false, fun j => match j with  | _ => []⟩
noncomputable def bounds_Store_Vars_nil.cals : Cals := (Cals.consX 31 true bounds_Store_is_nil.sig (Cals.base tabs))
noncomputable def bounds_Store_Vars_nil.sig : XSig := bounds_Store_Vars_nil.spec.sig bounds_Store_Vars_nil.cals T Try.f12
noncomputable def bounds_Store_Vars_nil.F (d : Unit) (x : Unit) : Option (Unit × (Int × Unit) × Unit) := limX bounds_Store_Vars_nil.spec bounds_Store_Vars_nil.cals T Try.f12 d x
theorem bounds_Store_Vars_nil.ck : CalsOk Try.prog bounds_Store_Vars_nil.cals := (CalsOk.consX bounds_Store_is_nil.cal (CalsOk.base tabsOk))
theorem bounds_Store_Vars_nil.cal : XOk Try.prog tabs 12 bounds_Store_Vars_nil.sig := xok_of tabOk bounds_Store_Vars_nil.ck mix Try.func12 (by kernel_rfl) (by kernel_rfl) (by kernel_rfl) (by kernel_rfl)
noncomputable def bounds_Store_Vars_nil.e  (G : Gh) (d : Unit)  : Option ((Unit × (Int × Unit) × Unit) × Nat × List Value) :=
  (bounds_Store_is_nil.F () ()).bind fun y1 =>
  let v2 := not y1.2.1.1
  bif v2 then (some (((), ((0 : Int), ()), ()), 0, []))
  else (none)
theorem bounds_Store_Vars_nil.eval (k : Nat) (G : Gh) (d : Unit)  : evalX bounds_Store_Vars_nil.spec bounds_Store_Vars_nil.cals T Try.f12 k G d () = bounds_Store_Vars_nil.e  G d  := by kernel_rfl
theorem bounds_Store_Vars_nil.of (d : Unit)  (y : (Unit × (Int × Unit) × Unit)) (h : ∀ G : Gh, ∃ k : Nat, bounds_Store_Vars_nil.e  G d  = some (y, (0, []))) : bounds_Store_Vars_nil.F d () = some y := limX_of (q := bounds_Store_Vars_nil.spec) (C := bounds_Store_Vars_nil.cals) (T := T) (f := Try.f12) (d := d) (x := ()) y fun G => (h G).imp fun k hk => (bounds_Store_Vars_nil.eval k G d ).trans hk

/-! ### (*fulcrum/bounds.Store).Level of nil -/
def bounds_Store_Level_nil.spec : XSpec := ⟨none, true, [], false, none, [(false, (.int .i64))], false, fun j => match j with  | _ => []⟩
noncomputable def bounds_Store_Level_nil.cals : Cals := (Cals.consX 31 true bounds_Store_is_nil.sig (Cals.base tabs))
noncomputable def bounds_Store_Level_nil.sig : XSig := bounds_Store_Level_nil.spec.sig bounds_Store_Level_nil.cals T Try.f13
noncomputable def bounds_Store_Level_nil.F (d : Unit) (x : Unit) : Option (Unit × (Int × Unit) × Unit) := limX bounds_Store_Level_nil.spec bounds_Store_Level_nil.cals T Try.f13 d x
theorem bounds_Store_Level_nil.ck : CalsOk Try.prog bounds_Store_Level_nil.cals := (CalsOk.consX bounds_Store_is_nil.cal (CalsOk.base tabsOk))
theorem bounds_Store_Level_nil.cal : XOk Try.prog tabs 13 bounds_Store_Level_nil.sig := xok_of tabOk bounds_Store_Level_nil.ck mix Try.func13 (by kernel_rfl) (by kernel_rfl) (by kernel_rfl) (by kernel_rfl)
noncomputable def bounds_Store_Level_nil.e  (G : Gh) (d : Unit)  : Option ((Unit × (Int × Unit) × Unit) × Nat × List Value) :=
  (bounds_Store_is_nil.F () ()).bind fun y1 =>
  let v2 := not y1.2.1.1
  bif v2 then (some (((), ((0 : Int), ()), ()), 0, []))
  else (none)
theorem bounds_Store_Level_nil.eval (k : Nat) (G : Gh) (d : Unit)  : evalX bounds_Store_Level_nil.spec bounds_Store_Level_nil.cals T Try.f13 k G d () = bounds_Store_Level_nil.e  G d  := by kernel_rfl
theorem bounds_Store_Level_nil.of (d : Unit)  (y : (Unit × (Int × Unit) × Unit)) (h : ∀ G : Gh, ∃ k : Nat, bounds_Store_Level_nil.e  G d  = some (y, (0, []))) : bounds_Store_Level_nil.F d () = some y := limX_of (q := bounds_Store_Level_nil.spec) (C := bounds_Store_Level_nil.cals) (T := T) (f := Try.f13) (d := d) (x := ()) y fun G => (h G).imp fun k hk => (bounds_Store_Level_nil.eval k G d ).trans hk

/-! ### fulcrum/fulcrumlaw08.BoundsMakes -/
def fulcrumlaw08_BoundsMakes.spec : Spec := ⟨[(false, (.int .i64))], [(false, .bool)], .own, fun j => match j with  | _ => []⟩
noncomputable def fulcrumlaw08_BoundsMakes.cals : Cals := (Cals.consX 8 false bounds_New.sig (Cals.consX 10 true bounds_Store_Grow_nil.sig (Cals.consX 12 true bounds_Store_Vars_nil.sig (Cals.consX 13 true bounds_Store_Level_nil.sig (Cals.consX 10 false bounds_Store_Grow.sig (Cals.consX 12 false bounds_Store_Vars.sig (Cals.consX 13 false bounds_Store_Level.sig (Cals.cons 9 fulcrumref08_New.sig (Cals.cons 11 fulcrumref08_Grow.sig (Cals.base tabs))))))))))
noncomputable def fulcrumlaw08_BoundsMakes.sig : Sig := fulcrumlaw08_BoundsMakes.spec.sig fulcrumlaw08_BoundsMakes.cals T Try.f3
noncomputable def fulcrumlaw08_BoundsMakes.F (x : Int × Unit) : Option (Bool × Unit) := limF fulcrumlaw08_BoundsMakes.spec fulcrumlaw08_BoundsMakes.cals T Try.f3 x
theorem fulcrumlaw08_BoundsMakes.ck : CalsOk Try.prog fulcrumlaw08_BoundsMakes.cals := (CalsOk.consX bounds_New.cal (CalsOk.consX bounds_Store_Grow_nil.cal (CalsOk.consX bounds_Store_Vars_nil.cal (CalsOk.consX bounds_Store_Level_nil.cal (CalsOk.consX bounds_Store_Grow.cal (CalsOk.consX bounds_Store_Vars.cal (CalsOk.consX bounds_Store_Level.cal (CalsOk.cons fulcrumref08_New.cal (CalsOk.cons fulcrumref08_Grow.cal (CalsOk.base tabsOk))))))))))
theorem fulcrumlaw08_BoundsMakes.cal : CalOk Try.prog tabs 3 fulcrumlaw08_BoundsMakes.sig := calOk_lim' tabOk fulcrumlaw08_BoundsMakes.ck mix Try.func3 (by kernel_rfl) (by kernel_rfl) (by kernel_rfl) (by kernel_rfl)
noncomputable def fulcrumlaw08_BoundsMakes.e  (a0 : Int) : Option (Bool × Unit) :=
  (bounds_New.F () (a0, ())).bind fun y1 =>
  match y1.1 with
  | none => ((fulcrumref08_New.F (a0, ())).bind fun y3 =>
  let v4 := (y1.2.1.1 != y3.2.1)
  bif v4 then (some (false, ()))
  else (let v5 := (y1.2.1.1 == (0 : Int))
  let v6 := (!(false == v5))
  bif v6 then (some (false, ()))
  else (let v7 := (y1.2.1.1 != (0 : Int))
  bif v7 then (some (true, ()))
  else ((bounds_Store_Grow_nil.F () ()).bind fun y8 =>
  (fulcrumref08_Grow.F ((y3.1.1, (y3.1.2.1, y3.1.2.2)), ())).bind fun y9 =>
  let v10 := (y8.2.1.1 == y9.2.1)
  bif v10 then (let v11 := (y8.2.1.2.1 == y9.2.2.1)
  bif v11 then ((bounds_Store_Vars_nil.F () ()).bind fun y12 =>
  let v13 := (List.length y9.1.1 : Int)
  let v14 := (y12.2.1.1 == v13)
  bif v14 then ((bounds_Store_Level_nil.F () ()).bind fun y15 =>
  let v16 := (y15.2.1.1 == (0 : Int))
  some (v16, ()))
  else (some (false, ())))
  else (some (false, ())))
  else (some (false, ()))))))
  | some z2 => ((fulcrumref08_New.F (a0, ())).bind fun y17 =>
  let v18 := (y1.2.1.1 != y17.2.1)
  bif v18 then (some (false, ()))
  else (let v19 := (y1.2.1.1 == (0 : Int))
  let v20 := (!(true == v19))
  bif v20 then (some (false, ()))
  else (let v21 := (y1.2.1.1 != (0 : Int))
  bif v21 then (some (true, ()))
  else ((bounds_Store_Grow.F ((z2.1.1, z2.1.2), (z2.2.1, z2.2.2)) ()).bind fun y22 =>
  (fulcrumref08_Grow.F ((y17.1.1, (y17.1.2.1, y17.1.2.2)), ())).bind fun y23 =>
  let v24 := (y22.2.1.1 == y23.2.1)
  bif v24 then (let v25 := (y22.2.1.2.1 == y23.2.2.1)
  bif v25 then ((bounds_Store_Vars.F ((y22.2.2.1.1, y22.2.2.1.2), (y22.2.2.2.1, y22.2.2.2.2)) ()).bind fun y26 =>
  let v27 := (List.length y23.1.1 : Int)
  let v28 := (y26.2.1.1 == v27)
  bif v28 then ((bounds_Store_Level.F ((y26.2.2.1.1, y26.2.2.1.2), (y26.2.2.2.1, y26.2.2.2.2)) ()).bind fun y29 =>
  let v30 := (y29.2.1.1 == (0 : Int))
  some (v30, ()))
  else (some (false, ())))
  else (some (false, ())))
  else (some (false, ()))))))
theorem fulcrumlaw08_BoundsMakes.eval (k : Nat) (a0 : Int) : evalF fulcrumlaw08_BoundsMakes.spec fulcrumlaw08_BoundsMakes.cals T Try.f3 k (a0, ()) = fulcrumlaw08_BoundsMakes.e  a0 := by kernel_rfl
theorem fulcrumlaw08_BoundsMakes.F_eq (a0 : Int) : fulcrumlaw08_BoundsMakes.F (a0, ()) = limF fulcrumlaw08_BoundsMakes.spec fulcrumlaw08_BoundsMakes.cals T Try.f3 (a0, ()) := by kernel_rfl
theorem fulcrumlaw08_BoundsMakes.of (k : Nat) (a0 : Int) {y : Bool × Unit} (h : fulcrumlaw08_BoundsMakes.e  a0 = some y) : fulcrumlaw08_BoundsMakes.F (a0, ()) = some y := (fulcrumlaw08_BoundsMakes.F_eq a0).trans (limF_of (q := fulcrumlaw08_BoundsMakes.spec) (C := fulcrumlaw08_BoundsMakes.cals) (T := T) (f := Try.f3) (x := (a0, ())) (y := y) k ((fulcrumlaw08_BoundsMakes.eval k a0).trans h))

end Go.Fx.Try
