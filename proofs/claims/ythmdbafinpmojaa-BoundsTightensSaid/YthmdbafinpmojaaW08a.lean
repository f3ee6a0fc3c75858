import Derived.Test.YthmdbafinpmojaaEv30
import Derived.Test.YthmdbafinpmojaaProg
namespace Go.Fx.Try
open Go Go.Proofs Go.Fx
set_option linter.unusedVariables false
set_option maxRecDepth 100000

def ti3 : TI := ⟨.int .i64, (.int .i64), false, 8⟩
def T3 : Tab := Tab.cons 3 ti3 Tab.nil
theorem tab3 : TabOk Try.prog T3 := TabOk.cons (by kernel_rfl) { info := ⟨Try.t3, by kernel_rfl, by kernel_rfl, by kernel_rfl, (.int .i64 0), by kernel_rfl, by kernel_rfl⟩, agg := ⟨_, Try.underlying3, rfl⟩, desc := ⟨Try.underlying3, rfl⟩ } TabOk.nil
def ti4 : TI := ⟨.bool, .bool, false, 1⟩
def T4 : Tab := Tab.cons 4 ti4 T3
theorem tab4 : TabOk Try.prog T4 := TabOk.cons (by kernel_rfl) { info := ⟨Try.t4, by kernel_rfl, by kernel_rfl, by kernel_rfl, (.bool false), by kernel_rfl, by kernel_rfl⟩, agg := ⟨_, Try.underlying4, rfl⟩, desc := ⟨Try.underlying4, rfl⟩ } tab3
def ti115 : TI := ⟨.int .u32, (.int .u32), false, 4⟩
def T115 : Tab := Tab.cons 115 ti115 T4
theorem tab115 : TabOk Try.prog T115 := TabOk.cons (by kernel_rfl) { info := ⟨Try.t115, by kernel_rfl, by kernel_rfl, by kernel_rfl, (.int .u32 0), by kernel_rfl, by kernel_rfl⟩, agg := ⟨_, Try.underlying115, rfl⟩, desc := ⟨Try.underlying115, rfl⟩ } tab4
def ti41 : TI := ⟨.sl 115, (.sl 115 (.int .u32)), false, 24⟩
def T41 : Tab := Tab.cons 41 ti41 T115
theorem tab41 : TabOk Try.prog T41 := TabOk.cons (by kernel_rfl) { info := ⟨Try.t41, by kernel_rfl, by kernel_rfl, by kernel_rfl, (.slice none 0 0), by kernel_rfl, by kernel_rfl⟩, agg := ⟨_, Try.underlying41, rfl⟩, desc := ⟨Try.underlying41, ti115, by kernel_rfl, rfl, by decide⟩ } tab115
def ti43 : TI := ⟨.struct [(0, 4), (1, 41)], (.prod .bool (.sl 115 (.int .u32))), true, 32⟩
def T43 : Tab := Tab.cons 43 ti43 T41
theorem tab43 : TabOk Try.prog T43 := TabOk.cons (by kernel_rfl) { info := ⟨Try.t43, by kernel_rfl, by kernel_rfl, by kernel_rfl, (.agg #[.bool false, .slice none 0 0]), by kernel_rfl, by kernel_rfl⟩, agg := ⟨_, Try.underlying43, rfl⟩, desc := ⟨_, Try.underlying43, rfl, fun i o ft h => match i, h with | 0, h => by simp at h; obtain ⟨rfl, rfl⟩ := h; exact ⟨_, rfl, rfl, rfl, ti4, by kernel_rfl, by decide⟩ | 1, h => by simp at h; obtain ⟨rfl, rfl⟩ := h; exact ⟨_, rfl, rfl, rfl, ti41, by kernel_rfl, by decide⟩ | n + 2, h => by simp at h⟩ } tab41
def ti45 : TI := ⟨.struct [(0, 43), (2, 41)], (.prod (.prod .bool (.sl 115 (.int .u32))) (.sl 115 (.int .u32))), true, 56⟩
def T45 : Tab := Tab.cons 45 ti45 T43
theorem tab45 : TabOk Try.prog T45 := TabOk.cons (by kernel_rfl) { info := ⟨Try.t45, by kernel_rfl, by kernel_rfl, by kernel_rfl, (.agg #[.bool false, .slice none 0 0, .slice none 0 0]), by kernel_rfl, by kernel_rfl⟩, agg := ⟨_, Try.underlying45, rfl⟩, desc := ⟨_, Try.underlying45, rfl, fun i o ft h => match i, h with | 0, h => by simp at h; obtain ⟨rfl, rfl⟩ := h; exact ⟨_, rfl, rfl, rfl, ti43, by kernel_rfl, by decide⟩ | 1, h => by simp at h; obtain ⟨rfl, rfl⟩ := h; exact ⟨_, rfl, rfl, rfl, ti41, by kernel_rfl, by decide⟩ | n + 2, h => by simp at h⟩ } tab43
def ti47 : TI := ⟨.struct [(0, 45), (3, 45)], (.prod (.prod (.prod .bool (.sl 115 (.int .u32))) (.sl 115 (.int .u32))) (.prod (.prod .bool (.sl 115 (.int .u32))) (.sl 115 (.int .u32)))), true, 112⟩
def T47 : Tab := Tab.cons 47 ti47 T45
theorem tab47 : TabOk Try.prog T47 := TabOk.cons (by kernel_rfl) { info := ⟨Try.t47, by kernel_rfl, by kernel_rfl, by kernel_rfl, (.agg #[.bool false, .slice none 0 0, .slice none 0 0, .bool false, .slice none 0 0, .slice none 0 0]), by kernel_rfl, by kernel_rfl⟩, agg := ⟨_, Try.underlying47, rfl⟩, desc := ⟨_, Try.underlying47, rfl, fun i o ft h => match i, h with | 0, h => by simp at h; obtain ⟨rfl, rfl⟩ := h; exact ⟨_, rfl, rfl, rfl, ti45, by kernel_rfl, by decide⟩ | 1, h => by simp at h; obtain ⟨rfl, rfl⟩ := h; exact ⟨_, rfl, rfl, rfl, ti45, by kernel_rfl, by decide⟩ | n + 2, h => by simp at h⟩ } tab45
def ti53 : TI := ⟨.struct [(0, 4), (1, 47), (7, 3)], (.prod .bool (.prod (.prod (.prod (.prod .bool (.sl 115 (.int .u32))) (.sl 115 (.int .u32))) (.prod (.prod .bool (.sl 115 (.int .u32))) (.sl 115 (.int .u32)))) (.int .i64))), true, 128⟩
def T53 : Tab := Tab.cons 53 ti53 T47
theorem tab53 : TabOk Try.prog T53 := TabOk.cons (by kernel_rfl) { info := ⟨Try.t53, by kernel_rfl, by kernel_rfl, by kernel_rfl, (.agg #[.bool false, .bool false, .slice none 0 0, .slice none 0 0, .bool false, .slice none 0 0, .slice none 0 0,  .int .i64 0]), by kernel_rfl, by kernel_rfl⟩, agg := ⟨_, Try.underlying53, rfl⟩, desc := ⟨_, Try.underlying53, rfl, fun i o ft h => match i, h with | 0, h => by simp at h; obtain ⟨rfl, rfl⟩ := h; exact ⟨_, rfl, rfl, rfl, ti4, by kernel_rfl, by decide⟩ | 1, h => by simp at h; obtain ⟨rfl, rfl⟩ := h; exact ⟨_, rfl, rfl, rfl, ti47, by kernel_rfl, by decide⟩ | 2, h => by simp at h; obtain ⟨rfl, rfl⟩ := h; exact ⟨_, rfl, rfl, rfl, ti3, by kernel_rfl, by decide⟩ | n + 3, h => by simp at h⟩ } tab47
def ti97 : TI := ⟨.struct [(0, 3), (1, 4), (2, 3), (3, 53)], (.prod (.int .i64) (.prod .bool (.prod (.int .i64) (.prod .bool (.prod (.prod (.prod (.prod .bool (.sl 115 (.int .u32))) (.sl 115 (.int .u32))) (.prod (.prod .bool (.sl 115 (.int .u32))) (.sl 115 (.int .u32)))) (.int .i64)))))), true, 152⟩
def T97 : Tab := Tab.cons 97 ti97 T53
theorem tab97 : TabOk Try.prog T97 := TabOk.cons (by kernel_rfl) { info := ⟨Try.t97, by kernel_rfl, by kernel_rfl, by kernel_rfl, (.agg #[ .int .i64 0, .bool false,  .int .i64 0, .bool false, .bool false, .slice none 0 0, .slice none 0 0, .bool false, .slice none 0 0, .slice none 0 0,  .int .i64 0]), by kernel_rfl, by kernel_rfl⟩, agg := ⟨_, Try.underlying97, rfl⟩, desc := ⟨_, Try.underlying97, rfl, fun i o ft h => match i, h with | 0, h => by simp at h; obtain ⟨rfl, rfl⟩ := h; exact ⟨_, rfl, rfl, rfl, ti3, by kernel_rfl, by decide⟩ | 1, h => by simp at h; obtain ⟨rfl, rfl⟩ := h; exact ⟨_, rfl, rfl, rfl, ti4, by kernel_rfl, by decide⟩ | 2, h => by simp at h; obtain ⟨rfl, rfl⟩ := h; exact ⟨_, rfl, rfl, rfl, ti3, by kernel_rfl, by decide⟩ | 3, h => by simp at h; obtain ⟨rfl, rfl⟩ := h; exact ⟨_, rfl, rfl, rfl, ti53, by kernel_rfl, by decide⟩ | n + 4, h => by simp at h⟩ } tab53
def ti27 : TI := ⟨.sl 97, (.sl 97 (.prod (.int .i64) (.prod .bool (.prod (.int .i64) (.prod .bool (.prod (.prod (.prod (.prod .bool (.sl 115 (.int .u32))) (.sl 115 (.int .u32))) (.prod (.prod .bool (.sl 115 (.int .u32))) (.sl 115 (.int .u32)))) (.int .i64))))))), false, 24⟩
def T27 : Tab := Tab.cons 27 ti27 T97
theorem tab27 : TabOk Try.prog T27 := TabOk.cons (by kernel_rfl) { info := ⟨Try.t27, by kernel_rfl, by kernel_rfl, by kernel_rfl, (.slice none 0 0), by kernel_rfl, by kernel_rfl⟩, agg := ⟨_, Try.underlying27, rfl⟩, desc := ⟨Try.underlying27, ti97, by kernel_rfl, rfl, by decide⟩ } tab97
def ti73 : TI := ⟨.struct [(0, 3), (1, 27)], (.prod (.int .i64) (.sl 97 (.prod (.int .i64) (.prod .bool (.prod (.int .i64) (.prod .bool (.prod (.prod (.prod (.prod .bool (.sl 115 (.int .u32))) (.sl 115 (.int .u32))) (.prod (.prod .bool (.sl 115 (.int .u32))) (.sl 115 (.int .u32)))) (.int .i64)))))))), true, 32⟩
def T73 : Tab := Tab.cons 73 ti73 T27
theorem tab73 : TabOk Try.prog T73 := TabOk.cons (by kernel_rfl) { info := ⟨Try.t73, by kernel_rfl, by kernel_rfl, by kernel_rfl, (.agg #[ .int .i64 0, .slice none 0 0]), by kernel_rfl, by kernel_rfl⟩, agg := ⟨_, Try.underlying73, rfl⟩, desc := ⟨_, Try.underlying73, rfl, fun i o ft h => match i, h with | 0, h => by simp at h; obtain ⟨rfl, rfl⟩ := h; exact ⟨_, rfl, rfl, rfl, ti3, by kernel_rfl, by decide⟩ | 1, h => by simp at h; obtain ⟨rfl, rfl⟩ := h; exact ⟨_, rfl, rfl, rfl, ti27, by kernel_rfl, by decide⟩ | n + 2, h => by simp at h⟩ } tab27
def ti55 : TI := ⟨.struct [(0, 53), (8, 53)], (.prod (.prod .bool (.prod (.prod (.prod (.prod .bool (.sl 115 (.int .u32))) (.sl 115 (.int .u32))) (.prod (.prod .bool (.sl 115 (.int .u32))) (.sl 115 (.int .u32)))) (.int .i64))) (.prod .bool (.prod (.prod (.prod (.prod .bool (.sl 115 (.int .u32))) (.sl 115 (.int .u32))) (.prod (.prod .bool (.sl 115 (.int .u32))) (.sl 115 (.int .u32)))) (.int .i64)))), true, 256⟩
def T55 : Tab := Tab.cons 55 ti55 T73
theorem tab55 : TabOk Try.prog T55 := TabOk.cons (by kernel_rfl) { info := ⟨Try.t55, by kernel_rfl, by kernel_rfl, by kernel_rfl, (.agg #[.bool false, .bool false, .slice none 0 0, .slice none 0 0, .bool false, .slice none 0 0, .slice none 0 0,  .int .i64 0, .bool false, .bool false, .slice none 0 0, .slice none 0 0, .bool false, .slice none 0 0, .slice none 0 0,  .int .i64 0]), by kernel_rfl, by kernel_rfl⟩, agg := ⟨_, Try.underlying55, rfl⟩, desc := ⟨_, Try.underlying55, rfl, fun i o ft h => match i, h with | 0, h => by simp at h; obtain ⟨rfl, rfl⟩ := h; exact ⟨_, rfl, rfl, rfl, ti53, by kernel_rfl, by decide⟩ | 1, h => by simp at h; obtain ⟨rfl, rfl⟩ := h; exact ⟨_, rfl, rfl, rfl, ti53, by kernel_rfl, by decide⟩ | n + 2, h => by simp at h⟩ } tab73
def ti26 : TI := ⟨.sl 55, (.sl 55 (.prod (.prod .bool (.prod (.prod (.prod (.prod .bool (.sl 115 (.int .u32))) (.sl 115 (.int .u32))) (.prod (.prod .bool (.sl 115 (.int .u32))) (.sl 115 (.int .u32)))) (.int .i64))) (.prod .bool (.prod (.prod (.prod (.prod .bool (.sl 115 (.int .u32))) (.sl 115 (.int .u32))) (.prod (.prod .bool (.sl 115 (.int .u32))) (.sl 115 (.int .u32)))) (.int .i64))))), false, 24⟩
def T26 : Tab := Tab.cons 26 ti26 T55
theorem tab26 : TabOk Try.prog T26 := TabOk.cons (by kernel_rfl) { info := ⟨Try.t26, by kernel_rfl, by kernel_rfl, by kernel_rfl, (.slice none 0 0), by kernel_rfl, by kernel_rfl⟩, agg := ⟨_, Try.underlying26, rfl⟩, desc := ⟨Try.underlying26, ti55, by kernel_rfl, rfl, by decide⟩ } tab55
def ti75 : TI := ⟨.struct [(0, 73), (2, 4), (3, 26)], (.prod (.prod (.int .i64) (.sl 97 (.prod (.int .i64) (.prod .bool (.prod (.int .i64) (.prod .bool (.prod (.prod (.prod (.prod .bool (.sl 115 (.int .u32))) (.sl 115 (.int .u32))) (.prod (.prod .bool (.sl 115 (.int .u32))) (.sl 115 (.int .u32)))) (.int .i64)))))))) (.prod .bool (.sl 55 (.prod (.prod .bool (.prod (.prod (.prod (.prod .bool (.sl 115 (.int .u32))) (.sl 115 (.int .u32))) (.prod (.prod .bool (.sl 115 (.int .u32))) (.sl 115 (.int .u32)))) (.int .i64))) (.prod .bool (.prod (.prod (.prod (.prod .bool (.sl 115 (.int .u32))) (.sl 115 (.int .u32))) (.prod (.prod .bool (.sl 115 (.int .u32))) (.sl 115 (.int .u32)))) (.int .i64))))))), true, 64⟩
def T75 : Tab := Tab.cons 75 ti75 T26
theorem tab75 : TabOk Try.prog T75 := TabOk.cons (by kernel_rfl) { info := ⟨Try.t75, by kernel_rfl, by kernel_rfl, by kernel_rfl, (.agg #[ .int .i64 0, .slice none 0 0, .bool false, .slice none 0 0]), by kernel_rfl, by kernel_rfl⟩, agg := ⟨_, Try.underlying75, rfl⟩, desc := ⟨_, Try.underlying75, rfl, fun i o ft h => match i, h with | 0, h => by simp at h; obtain ⟨rfl, rfl⟩ := h; exact ⟨_, rfl, rfl, rfl, ti73, by kernel_rfl, by decide⟩ | 1, h => by simp at h; obtain ⟨rfl, rfl⟩ := h; exact ⟨_, rfl, rfl, rfl, ti4, by kernel_rfl, by decide⟩ | 2, h => by simp at h; obtain ⟨rfl, rfl⟩ := h; exact ⟨_, rfl, rfl, rfl, ti26, by kernel_rfl, by decide⟩ | n + 3, h => by simp at h⟩ } tab26
def ti22 : TI := ⟨.ptr, .rp .unit, false, 8⟩
def T22 : Tab := Tab.cons 22 ti22 T75
theorem tab22 : TabOk Try.prog T22 := TabOk.cons (by kernel_rfl) { info := ⟨Try.t22, by kernel_rfl, by kernel_rfl, by kernel_rfl, (.pointer none), by kernel_rfl, by kernel_rfl⟩, agg := ⟨_, Try.underlying22, rfl⟩, desc := ⟨_, Try.underlying22⟩ } tab75
def ti23 : TI := ⟨.int .i64, (.int .i64), false, 8⟩
def T23 : Tab := Tab.cons 23 ti23 T22
theorem tab23 : TabOk Try.prog T23 := TabOk.cons (by kernel_rfl) { info := ⟨Try.t23, by kernel_rfl, by kernel_rfl, by kernel_rfl, (.int .i64 0), by kernel_rfl, by kernel_rfl⟩, agg := ⟨_, Try.underlying23, rfl⟩, desc := ⟨Try.underlying23, rfl⟩ } tab22
def ti5 : TI := ⟨.int .u8, (.int .u8), false, 1⟩
def T5 : Tab := Tab.cons 5 ti5 T23
theorem tab5 : TabOk Try.prog T5 := TabOk.cons (by kernel_rfl) { info := ⟨Try.t5, by kernel_rfl, by kernel_rfl, by kernel_rfl, (.int .u8 0), by kernel_rfl, by kernel_rfl⟩, agg := ⟨_, Try.underlying5, rfl⟩, desc := ⟨Try.underlying5, rfl⟩ } tab23
def ti9 : TI := ⟨.str, .str, false, 16⟩
def T9 : Tab := Tab.cons 9 ti9 T5
theorem tab9 : TabOk Try.prog T9 := TabOk.cons (by kernel_rfl) { info := ⟨Try.t9, by kernel_rfl, by kernel_rfl, by kernel_rfl, (.string ByteArray.empty), by kernel_rfl, by kernel_rfl⟩, agg := ⟨_, Try.underlying9, rfl⟩, desc := ⟨Try.underlying9, rfl⟩ } tab5
def ti139 : TI := ⟨.int .u64, (.int .u64), false, 8⟩
def T139 : Tab := Tab.cons 139 ti139 T9
theorem tab139 : TabOk Try.prog T139 := TabOk.cons (by kernel_rfl) { info := ⟨Try.t139, by kernel_rfl, by kernel_rfl, by kernel_rfl, (.int .u64 0), by kernel_rfl, by kernel_rfl⟩, agg := ⟨_, Try.underlying139, rfl⟩, desc := ⟨Try.underlying139, rfl⟩ } tab9
def ti144 : TI := ⟨.sl 3, (.sl 3 (.int .i64)), false, 24⟩
def T144 : Tab := Tab.cons 144 ti144 T139
theorem tab144 : TabOk Try.prog T144 := TabOk.cons (by kernel_rfl) { info := ⟨Try.t144, by kernel_rfl, by kernel_rfl, by kernel_rfl, (.slice none 0 0), by kernel_rfl, by kernel_rfl⟩, agg := ⟨_, Try.underlying144, rfl⟩, desc := ⟨Try.underlying144, ti3, by kernel_rfl, rfl, by decide⟩ } tab139
def ti138 : TI := ⟨.int .u64, (.int .u64), false, 8⟩
def T138 : Tab := Tab.cons 138 ti138 T144
theorem tab138 : TabOk Try.prog T138 := TabOk.cons (by kernel_rfl) { info := ⟨Try.t138, by kernel_rfl, by kernel_rfl, by kernel_rfl, (.int .u64 0), by kernel_rfl, by kernel_rfl⟩, agg := ⟨_, Try.underlying138, rfl⟩, desc := ⟨Try.underlying138, rfl⟩ } tab144
def ti29 : TI := ⟨.struct [(0, 26), (1, 3), (2, 27)], (.prod (.sl 55 (.prod (.prod .bool (.prod (.prod (.prod (.prod .bool (.sl 115 (.int .u32))) (.sl 115 (.int .u32))) (.prod (.prod .bool (.sl 115 (.int .u32))) (.sl 115 (.int .u32)))) (.int .i64))) (.prod .bool (.prod (.prod (.prod (.prod .bool (.sl 115 (.int .u32))) (.sl 115 (.int .u32))) (.prod (.prod .bool (.sl 115 (.int .u32))) (.sl 115 (.int .u32)))) (.int .i64))))) (.prod (.int .i64) (.sl 97 (.prod (.int .i64) (.prod .bool (.prod (.int .i64) (.prod .bool (.prod (.prod (.prod (.prod .bool (.sl 115 (.int .u32))) (.sl 115 (.int .u32))) (.prod (.prod .bool (.sl 115 (.int .u32))) (.sl 115 (.int .u32)))) (.int .i64))))))))), true, 56⟩
def T29 : Tab := Tab.cons 29 ti29 T138
theorem tab29 : TabOk Try.prog T29 := TabOk.cons (by kernel_rfl) { info := ⟨Try.t29, by kernel_rfl, by kernel_rfl, by kernel_rfl, (.agg #[.slice none 0 0,  .int .i64 0, .slice none 0 0]), by kernel_rfl, by kernel_rfl⟩, agg := ⟨_, Try.underlying29, rfl⟩, desc := ⟨_, Try.underlying29, rfl, fun i o ft h => match i, h with | 0, h => by simp at h; obtain ⟨rfl, rfl⟩ := h; exact ⟨_, rfl, rfl, rfl, ti26, by kernel_rfl, by decide⟩ | 1, h => by simp at h; obtain ⟨rfl, rfl⟩ := h; exact ⟨_, rfl, rfl, rfl, ti3, by kernel_rfl, by decide⟩ | 2, h => by simp at h; obtain ⟨rfl, rfl⟩ := h; exact ⟨_, rfl, rfl, rfl, ti27, by kernel_rfl, by decide⟩ | n + 3, h => by simp at h⟩ } tab138
def ti64 : TI := ⟨.struct [(0, 3), (1, 3)], (.prod (.int .i64) (.int .i64)), true, 16⟩
def T64 : Tab := Tab.cons 64 ti64 T29
theorem tab64 : TabOk Try.prog T64 := TabOk.cons (by kernel_rfl) { info := ⟨Try.t64, by kernel_rfl, by kernel_rfl, by kernel_rfl, (.agg #[ .int .i64 0,  .int .i64 0]), by kernel_rfl, by kernel_rfl⟩, agg := ⟨_, Try.underlying64, rfl⟩, desc := ⟨_, Try.underlying64, rfl, fun i o ft h => match i, h with | 0, h => by simp at h; obtain ⟨rfl, rfl⟩ := h; exact ⟨_, rfl, rfl, rfl, ti3, by kernel_rfl, by decide⟩ | 1, h => by simp at h; obtain ⟨rfl, rfl⟩ := h; exact ⟨_, rfl, rfl, rfl, ti3, by kernel_rfl, by decide⟩ | n + 2, h => by simp at h⟩ } tab29
def ti48 : TI := ⟨.sl 47, (.sl 47 (.prod (.prod (.prod .bool (.sl 115 (.int .u32))) (.sl 115 (.int .u32))) (.prod (.prod .bool (.sl 115 (.int .u32))) (.sl 115 (.int .u32))))), false, 24⟩
def T48 : Tab := Tab.cons 48 ti48 T64
theorem tab48 : TabOk Try.prog T48 := TabOk.cons (by kernel_rfl) { info := ⟨Try.t48, by kernel_rfl, by kernel_rfl, by kernel_rfl, (.slice none 0 0), by kernel_rfl, by kernel_rfl⟩, agg := ⟨_, Try.underlying48, rfl⟩, desc := ⟨Try.underlying48, ti47, by kernel_rfl, rfl, by decide⟩ } tab64
def ti50 : TI := ⟨.struct [(0, 3), (1, 3), (2, 47), (8, 3), (9, 48)], (.prod (.int .i64) (.prod (.int .i64) (.prod (.prod (.prod (.prod .bool (.sl 115 (.int .u32))) (.sl 115 (.int .u32))) (.prod (.prod .bool (.sl 115 (.int .u32))) (.sl 115 (.int .u32)))) (.prod (.int .i64) (.sl 47 (.prod (.prod (.prod .bool (.sl 115 (.int .u32))) (.sl 115 (.int .u32))) (.prod (.prod .bool (.sl 115 (.int .u32))) (.sl 115 (.int .u32))))))))), true, 160⟩
def T50 : Tab := Tab.cons 50 ti50 T48
theorem tab50 : TabOk Try.prog T50 := TabOk.cons (by kernel_rfl) { info := ⟨Try.t50, by kernel_rfl, by kernel_rfl, by kernel_rfl, (.agg #[ .int .i64 0,  .int .i64 0, .bool false, .slice none 0 0, .slice none 0 0, .bool false, .slice none 0 0, .slice none 0 0,  .int .i64 0, .slice none 0 0]), by kernel_rfl, by kernel_rfl⟩, agg := ⟨_, Try.underlying50, rfl⟩, desc := ⟨_, Try.underlying50, rfl, fun i o ft h => match i, h with | 0, h => by simp at h; obtain ⟨rfl, rfl⟩ := h; exact ⟨_, rfl, rfl, rfl, ti3, by kernel_rfl, by decide⟩ | 1, h => by simp at h; obtain ⟨rfl, rfl⟩ := h; exact ⟨_, rfl, rfl, rfl, ti3, by kernel_rfl, by decide⟩ | 2, h => by simp at h; obtain ⟨rfl, rfl⟩ := h; exact ⟨_, rfl, rfl, rfl, ti47, by kernel_rfl, by decide⟩ | 3, h => by simp at h; obtain ⟨rfl, rfl⟩ := h; exact ⟨_, rfl, rfl, rfl, ti3, by kernel_rfl, by decide⟩ | 4, h => by simp at h; obtain ⟨rfl, rfl⟩ := h; exact ⟨_, rfl, rfl, rfl, ti48, by kernel_rfl, by decide⟩ | n + 5, h => by simp at h⟩ } tab48
def ti38 : TI := ⟨.sl 50, (.sl 50 (.prod (.int .i64) (.prod (.int .i64) (.prod (.prod (.prod (.prod .bool (.sl 115 (.int .u32))) (.sl 115 (.int .u32))) (.prod (.prod .bool (.sl 115 (.int .u32))) (.sl 115 (.int .u32)))) (.prod (.int .i64) (.sl 47 (.prod (.prod (.prod .bool (.sl 115 (.int .u32))) (.sl 115 (.int .u32))) (.prod (.prod .bool (.sl 115 (.int .u32))) (.sl 115 (.int .u32)))))))))), false, 24⟩
def T38 : Tab := Tab.cons 38 ti38 T50
theorem tab38 : TabOk Try.prog T38 := TabOk.cons (by kernel_rfl) { info := ⟨Try.t38, by kernel_rfl, by kernel_rfl, by kernel_rfl, (.slice none 0 0), by kernel_rfl, by kernel_rfl⟩, agg := ⟨_, Try.underlying38, rfl⟩, desc := ⟨Try.underlying38, ti50, by kernel_rfl, rfl, by decide⟩ } tab50
def ti60 : TI := ⟨.struct [(0, 3), (1, 38)], (.prod (.int .i64) (.sl 50 (.prod (.int .i64) (.prod (.int .i64) (.prod (.prod (.prod (.prod .bool (.sl 115 (.int .u32))) (.sl 115 (.int .u32))) (.prod (.prod .bool (.sl 115 (.int .u32))) (.sl 115 (.int .u32)))) (.prod (.int .i64) (.sl 47 (.prod (.prod (.prod .bool (.sl 115 (.int .u32))) (.sl 115 (.int .u32))) (.prod (.prod .bool (.sl 115 (.int .u32))) (.sl 115 (.int .u32))))))))))), true, 32⟩
def T60 : Tab := Tab.cons 60 ti60 T38
theorem tab60 : TabOk Try.prog T60 := TabOk.cons (by kernel_rfl) { info := ⟨Try.t60, by kernel_rfl, by kernel_rfl, by kernel_rfl, (.agg #[ .int .i64 0, .slice none 0 0]), by kernel_rfl, by kernel_rfl⟩, agg := ⟨_, Try.underlying60, rfl⟩, desc := ⟨_, Try.underlying60, rfl, fun i o ft h => match i, h with | 0, h => by simp at h; obtain ⟨rfl, rfl⟩ := h; exact ⟨_, rfl, rfl, rfl, ti3, by kernel_rfl, by decide⟩ | 1, h => by simp at h; obtain ⟨rfl, rfl⟩ := h; exact ⟨_, rfl, rfl, rfl, ti38, by kernel_rfl, by decide⟩ | n + 2, h => by simp at h⟩ } tab38
def T : Tab := T60
theorem tabOk : TabOk Try.prog T := tab60
theorem eqOk64 : EqOk Try.prog 64 2 := EqOk.of2 Try.underlying64 (by kernel_rfl) (by kernel_rfl) Try.underlying3 Try.underlying3 (by kernel_rfl) (by kernel_rfl) rfl rfl (fun w => (tabOk 3 ti3 (by kernel_rfl)).size) (fun w => (tabOk 3 ti3 (by kernel_rfl)).size) (fun w => (tabOk 3 ti3 (by kernel_rfl)).isAgg) (fun w => (tabOk 3 ti3 (by kernel_rfl)).isAgg)
theorem mix : Try.prog.follows .mixedOrders = true := by kernel_rfl
def tabs : Nat → Option Tbl := noTabs
theorem tabsOk : ∀ g tb, tabs g = some tb → TblOk Try.prog tb := noTabs_ok

abbrev Kt144 : K := (.sl 3 (.int .i64))
abbrev Dt144 : Type := (List Int)
abbrev zt144 : Dt144 := ([] : List Int)
abbrev Kt41 : K := (.sl 115 (.int .u32))
abbrev Dt41 : Type := Dt144
abbrev zt41 : Dt41 := zt144
abbrev Kt64 : K := (.prod (.int .i64) (.int .i64))
abbrev Dt64 : Type := (Int × Int)
abbrev zt64 : Dt64 := ((0 : Int), (0 : Int))
abbrev Kt43 : K := (.prod .bool Kt41)
abbrev Dt43 : Type := (Bool × Dt41)
abbrev zt43 : Dt43 := (false, zt41)
abbrev Kt45 : K := (.prod Kt43 Kt41)
abbrev Dt45 : Type := (Dt43 × Dt41)
abbrev zt45 : Dt45 := (zt43, zt41)
abbrev Kt47 : K := (.prod Kt45 Kt45)
abbrev Dt47 : Type := (Dt45 × Dt45)
abbrev zt47 : Dt47 := (zt45, zt45)
abbrev Kt48 : K := (.sl 47 Kt47)
abbrev Dt48 : Type := (List Dt47)
abbrev zt48 : Dt48 := ([] : List (((Bool × (List Int)) × (List Int)) × ((Bool × (List Int)) × (List Int))))
abbrev Kt53 : K := (.prod .bool (.prod Kt47 (.int .i64)))
abbrev Dt53 : Type := (Bool × (Dt47 × Int))
abbrev zt53 : Dt53 := (false, (zt47, (0 : Int)))
abbrev Kt97 : K := (.prod (.int .i64) (.prod .bool (.prod (.int .i64) Kt53)))
abbrev Dt97 : Type := (Int × (Bool × (Int × Dt53)))
abbrev zt97 : Dt97 := ((0 : Int), (false, ((0 : Int), zt53)))
abbrev Kt27 : K := (.sl 97 Kt97)
abbrev Dt27 : Type := (List Dt97)
abbrev zt27 : Dt27 := ([] : List (Int × (Bool × (Int × (Bool × ((((Bool × (List Int)) × (List Int)) × ((Bool × (List Int)) × (List Int))) × Int))))))
abbrev Kt73 : K := (.prod (.int .i64) Kt27)
abbrev Dt73 : Type := (Int × Dt27)
abbrev zt73 : Dt73 := ((0 : Int), zt27)
abbrev Kt55 : K := (.prod Kt53 Kt53)
abbrev Dt55 : Type := (Dt53 × Dt53)
abbrev zt55 : Dt55 := (zt53, zt53)
abbrev Kt50 : K := (.prod (.int .i64) (.prod (.int .i64) (.prod Kt47 (.prod (.int .i64) Kt48))))
abbrev Dt50 : Type := (Int × (Int × (Dt47 × (Int × Dt48))))
abbrev zt50 : Dt50 := ((0 : Int), ((0 : Int), (zt47, ((0 : Int), zt48))))
abbrev Kt26 : K := (.sl 55 Kt55)
abbrev Dt26 : Type := (List Dt55)
abbrev zt26 : Dt26 := ([] : List ((Bool × ((((Bool × (List Int)) × (List Int)) × ((Bool × (List Int)) × (List Int))) × Int)) × (Bool × ((((Bool × (List Int)) × (List Int)) × ((Bool × (List Int)) × (List Int))) × Int))))
abbrev Kt38 : K := (.sl 50 Kt50)
abbrev Dt38 : Type := (List Dt50)
abbrev zt38 : Dt38 := ([] : List (Int × (Int × ((((Bool × (List Int)) × (List Int)) × ((Bool × (List Int)) × (List Int))) × (Int × (List (((Bool × (List Int)) × (List Int)) × ((Bool × (List Int)) × (List Int)))))))))
abbrev Kt60 : K := (.prod (.int .i64) Kt38)
abbrev Dt60 : Type := (Int × Dt38)
abbrev zt60 : Dt60 := ((0 : Int), zt38)
abbrev Kt29 : K := (.prod Kt26 Kt73)
abbrev Dt29 : Type := (Dt26 × Dt73)
abbrev zt29 : Dt29 := (zt26, zt73)
abbrev Kt75 : K := (.prod Kt73 (.prod .bool Kt26))
abbrev Dt75 : Type := (Dt73 × (Bool × Dt26))
abbrev zt75 : Dt75 := (zt73, (false, zt26))

def bounds_Store_is.spec : XSpec := ⟨some ⟨75, 0, Kt75, 0⟩, false, [], false, none, [(false, .bool)], false, fun j => match j with  | _ => []⟩
noncomputable def bounds_Store_is.cals : Cals := (Cals.base tabs)
noncomputable def bounds_Store_is.sig : XSig := bounds_Store_is.spec.sig bounds_Store_is.cals T Try.f31
noncomputable def bounds_Store_is.F (d : Dt75) (x : Unit) : Option (Unit × (Bool × Unit) × Dt75) := limX bounds_Store_is.spec bounds_Store_is.cals T Try.f31 d x
theorem bounds_Store_is.ck : CalsOk Try.prog bounds_Store_is.cals := (CalsOk.base tabsOk)
theorem bounds_Store_is.cal : XOk Try.prog tabs 31 bounds_Store_is.sig := xok_of tabOk bounds_Store_is.ck mix Try.func31 (by kernel_rfl) (by kernel_rfl) (by kernel_rfl) (by kernel_rfl)
noncomputable def bounds_Store_is.e  (G : Gh) (d : Dt75)  : Option ((Unit × (Bool × Unit) × Dt75) × Nat × List Value) :=
  some (((), (d.2.1, ()), ((d.1.1, d.1.2), (d.2.1, d.2.2))), G.b, [])
theorem bounds_Store_is.eval (k : Nat) (G : Gh) (d : Dt75)  : evalX bounds_Store_is.spec bounds_Store_is.cals T Try.f31 k G d () = bounds_Store_is.e  G d  := by kernel_rfl
theorem bounds_Store_is.of (d : Dt75)  (y : (Unit × (Bool × Unit) × Dt75)) (h : ∀ G : Gh, ∃ k : Nat, bounds_Store_is.e  G d  = some (y, (G.b, []))) : bounds_Store_is.F d () = some y := limX_of (q := bounds_Store_is.spec) (C := bounds_Store_is.cals) (T := T) (f := Try.f31) (d := d) (x := ()) y fun G => (h G).imp fun k hk => (bounds_Store_is.eval k G d ).trans hk

def bounds_Store_Vars.spec : XSpec := ⟨some ⟨75, 0, Kt75, 0⟩, false, [], false, none, [(false, (.int .i64))], false, fun j => match j with  | _ => []⟩
noncomputable def bounds_Store_Vars.cals : Cals := (Cals.consX 31 false bounds_Store_is.sig (Cals.base tabs))
noncomputable def bounds_Store_Vars.sig : XSig := bounds_Store_Vars.spec.sig bounds_Store_Vars.cals T Try.f12
noncomputable def bounds_Store_Vars.F (d : Dt75) (x : Unit) : Option (Unit × (Int × Unit) × Dt75) := limX bounds_Store_Vars.spec bounds_Store_Vars.cals T Try.f12 d x
theorem bounds_Store_Vars.ck : CalsOk Try.prog bounds_Store_Vars.cals := (CalsOk.consX bounds_Store_is.cal (CalsOk.base tabsOk))
theorem bounds_Store_Vars.cal : XOk Try.prog tabs 12 bounds_Store_Vars.sig := xok_of tabOk bounds_Store_Vars.ck mix Try.func12 (by kernel_rfl) (by kernel_rfl) (by kernel_rfl) (by kernel_rfl)
noncomputable def bounds_Store_Vars.e  (G : Gh) (d : Dt75)  : Option ((Unit × (Int × Unit) × Dt75) × Nat × List Value) :=
  (bounds_Store_is.F ((d.1.1, d.1.2), (d.2.1, d.2.2)) ()).bind fun y1 =>
  let v2 := not y1.2.1.1
  bif v2 then (some (((), ((0 : Int), ()), ((y1.2.2.1.1, y1.2.2.1.2), (y1.2.2.2.1, y1.2.2.2.2))), G.b, []))
  else (let v3 := (List.length y1.2.2.2.2 : Int)
  some (((), (v3, ()), ((y1.2.2.1.1, y1.2.2.1.2), (y1.2.2.2.1, y1.2.2.2.2))), G.b, []))
theorem bounds_Store_Vars.eval (k : Nat) (G : Gh) (d : Dt75)  : evalX bounds_Store_Vars.spec bounds_Store_Vars.cals T Try.f12 k G d () = bounds_Store_Vars.e  G d  := by kernel_rfl
theorem bounds_Store_Vars.of (d : Dt75)  (y : (Unit × (Int × Unit) × Dt75)) (h : ∀ G : Gh, ∃ k : Nat, bounds_Store_Vars.e  G d  = some (y, (G.b, []))) : bounds_Store_Vars.F d () = some y := limX_of (q := bounds_Store_Vars.spec) (C := bounds_Store_Vars.cals) (T := T) (f := Try.f12) (d := d) (x := ()) y fun G => (h G).imp fun k hk => (bounds_Store_Vars.eval k G d ).trans hk

def bounds_Store_wrong.spec : XSpec := ⟨some ⟨75, 0, Kt75, 0⟩, false, [(false, (.int .i64))], false, none, [(false, (.int .i64))], false, fun j => match j with  | _ => []⟩
noncomputable def bounds_Store_wrong.cals : Cals := (Cals.consX 31 false bounds_Store_is.sig (Cals.base tabs))
noncomputable def bounds_Store_wrong.sig : XSig := bounds_Store_wrong.spec.sig bounds_Store_wrong.cals T Try.f37
noncomputable def bounds_Store_wrong.F (d : Dt75) (x : Int × Unit) : Option (Unit × (Int × Unit) × Dt75) := limX bounds_Store_wrong.spec bounds_Store_wrong.cals T Try.f37 d x
theorem bounds_Store_wrong.ck : CalsOk Try.prog bounds_Store_wrong.cals := (CalsOk.consX bounds_Store_is.cal (CalsOk.base tabsOk))
theorem bounds_Store_wrong.cal : XOk Try.prog tabs 37 bounds_Store_wrong.sig := xok_of tabOk bounds_Store_wrong.ck mix Try.func37 (by kernel_rfl) (by kernel_rfl) (by kernel_rfl) (by kernel_rfl)
noncomputable def bounds_Store_wrong.e  (G : Gh) (d : Dt75) (a0 : Int) : Option ((Unit × (Int × Unit) × Dt75) × Nat × List Value) :=
  (bounds_Store_is.F ((d.1.1, d.1.2), (d.2.1, d.2.2)) ()).bind fun y1 =>
  let v2 := not y1.2.1.1
  bif v2 then (some (((), ((1 : Int), ()), ((y1.2.2.1.1, y1.2.2.1.2), (y1.2.2.2.1, y1.2.2.2.2))), G.b, []))
  else (let v3 := decide (a0 < (0 : Int))
  bif v3 then (some (((), ((61 : Int), ()), ((y1.2.2.1.1, y1.2.2.1.2), (y1.2.2.2.1, y1.2.2.2.2))), G.b, []))
  else (let v4 := (List.length y1.2.2.2.2 : Int)
  let v5 := decide (a0 ≥ v4)
  bif v5 then (some (((), ((61 : Int), ()), ((y1.2.2.1.1, y1.2.2.1.2), (y1.2.2.2.1, y1.2.2.2.2))), G.b, []))
  else (some (((), ((0 : Int), ()), ((y1.2.2.1.1, y1.2.2.1.2), (y1.2.2.2.1, y1.2.2.2.2))), G.b, []))))
theorem bounds_Store_wrong.eval (k : Nat) (G : Gh) (d : Dt75) (a0 : Int) : evalX bounds_Store_wrong.spec bounds_Store_wrong.cals T Try.f37 k G d (a0, ()) = bounds_Store_wrong.e  G d a0 := by kernel_rfl
theorem bounds_Store_wrong.of (d : Dt75) (a0 : Int) (y : (Unit × (Int × Unit) × Dt75)) (h : ∀ G : Gh, ∃ k : Nat, bounds_Store_wrong.e  G d a0 = some (y, (G.b, []))) : bounds_Store_wrong.F d (a0, ()) = some y := limX_of (q := bounds_Store_wrong.spec) (C := bounds_Store_wrong.cals) (T := T) (f := Try.f37) (d := d) (x := (a0, ())) y fun G => (h G).imp fun k hk => (bounds_Store_wrong.eval k G d a0).trans hk

def nat_trim.spec : Spec := ⟨[(false, Kt41)], [(false, Kt41)], .shared, fun j => match j with | 2 => [(0, .lf (.z 115 (.int .u32) true)), (3, .lf (.v true))] | _ => []⟩
noncomputable def nat_trim.cals : Cals := (Cals.base tabs)
noncomputable def nat_trim.sig : Sig := nat_trim.spec.sig nat_trim.cals T Try.f80
noncomputable def nat_trim.F (x : Dt41 × Unit) : Option (Dt41 × Unit) := limF nat_trim.spec nat_trim.cals T Try.f80 x
theorem nat_trim.ck : CalsOk Try.prog nat_trim.cals := (CalsOk.base tabsOk)
theorem nat_trim.cal : CalOk Try.prog tabs 80 nat_trim.sig := calOk_lim' tabOk nat_trim.ck mix Try.func80 (by kernel_rfl) (by kernel_rfl) (by kernel_rfl) (by kernel_rfl)
def nat_trim.m2 (x0 : Dt41) (x3 : Int) : S := ⟨[(0, .one (.lf (.val true Kt41 x0))), (3, .one (.lf (.val true (.int .i64) x3)))], ⟨[], []⟩⟩
noncomputable def nat_trim.b2 (f2 : Dt41 → Int → Option (Dt41 × Unit)) (x0 : Dt41) (x3 : Int) : Option (Dt41 × Unit) :=
  let v1 := decide (x3 > (0 : Int))
  bif v1 then (let v2 := IntKind.i64.wrap (x3 - (1 : Int))
  bif decide (0 ≤ v2) && decide (v2 < (List.length x0 : Int)) then (let v3 := List.getD x0 (Int.toNat v2) (0 : Int)
  let v4 := (v3 == (0 : Int))
  bif v4 then (let v5 := IntKind.i64.wrap (x3 - (1 : Int))
  f2 x0 v5)
  else (bif decide (0 ≤ x3) && decide (x3 ≤ (List.length x0 : Int)) then (let v6 := List.take (Int.toNat x3) x0
  some (v6, ()))
  else none))
  else none)
  else (bif decide (0 ≤ x3) && decide (x3 ≤ (List.length x0 : Int)) then (let v7 := List.take (Int.toNat x3) x0
  some (v7, ()))
  else none)
noncomputable def nat_trim.e (f2 : Dt41 → Int → Option (Dt41 × Unit)) (a0 : Dt41) : Option (Dt41 × Unit) :=
  let v1 := (List.length a0 : Int)
  f2 a0 v1
noncomputable def nat_trim.L2 (k : Nat) (x0 : Dt41) (x3 : Int) : Option (Dt41 × Unit) := heads (nat_trim.spec.env nat_trim.cals T Try.f80) (Func.pts Try.f80) k 2 (nat_trim.m2 x0 x3)
theorem nat_trim.L2_succ (k : Nat) (x0 : Dt41) (x3 : Int) : nat_trim.L2 (k + 1) x0 x3 = nat_trim.b2 (nat_trim.L2 k) x0 x3 := by kernel_rfl
theorem nat_trim.eval (k : Nat) (a0 : Dt41) : evalF nat_trim.spec nat_trim.cals T Try.f80 k (a0, ()) = nat_trim.e (nat_trim.L2 k) a0 := by kernel_rfl
theorem nat_trim.F_eq (a0 : Dt41) : nat_trim.F (a0, ()) = limF nat_trim.spec nat_trim.cals T Try.f80 (a0, ()) := by kernel_rfl
theorem nat_trim.of (k : Nat) (a0 : Dt41) {y : Dt41 × Unit} (h : nat_trim.e (nat_trim.L2 k) a0 = some y) : nat_trim.F (a0, ()) = some y := (nat_trim.F_eq a0).trans (limF_of (q := nat_trim.spec) (C := nat_trim.cals) (T := T) (f := Try.f80) (x := (a0, ())) (y := y) k ((nat_trim.eval k a0).trans h))

def bits_Len32.spec : Spec := ⟨[(false, (.int .u32))], [(false, (.int .i64))], .own, fun j => match j with  | _ => []⟩
noncomputable def bits_Len32.cals : Cals := (Cals.base tabs)
noncomputable def bits_Len32.sig : Sig := bits_Len32.spec.sig bits_Len32.cals T Try.f81
noncomputable def bits_Len32.F (x : Int × Unit) : Option (Int × Unit) := limF bits_Len32.spec bits_Len32.cals T Try.f81 x
theorem bits_Len32.ck : CalsOk Try.prog bits_Len32.cals := (CalsOk.base tabsOk)
theorem bits_Len32.cal : CalOk Try.prog tabs 81 bits_Len32.sig := calOk_lim' tabOk bits_Len32.ck mix Try.func81 (by kernel_rfl) (by kernel_rfl) (by kernel_rfl) (by kernel_rfl)
noncomputable def bits_Len32.e  (a0 : Int) : Option (Int × Unit) :=
  let v1 := decide (a0 ≥ (65536 : Int))
  bif v1 then (bif decide ((16 : Int) < 0) then none
  else (let v2 := shrI .u32 a0 (16 : Int)
  let v3 := decide (v2 ≥ (256 : Int))
  bif v3 then (bif decide ((8 : Int) < 0) then none
  else (let v4 := shrI .u32 v2 (8 : Int)
  let v5 := IntKind.i64.wrap ((16 : Int) + (8 : Int))
  let v6 := IntKind.u8.wrap v4
  bif decide (0 ≤ v6) && decide (v6 < (ByteArray.size (⟨#[0, 1, 2, 2, 3, 3, 3, 3, 4, 4, 4, 4, 4, 4, 4, 4, 5, 5, 5, 5, 5, 5, 5, 5, 5, 5, 5, 5, 5, 5, 5, 5, 6, 6, 6, 6, 6, 6, 6, 6, 6, 6, 6, 6, 6, 6, 6, 6, 6, 6, 6, 6, 6, 6, 6, 6, 6, 6, 6, 6, 6, 6, 6, 6, 7, 7, 7, 7, 7, 7, 7, 7, 7, 7, 7, 7, 7, 7, 7, 7, 7, 7, 7, 7, 7, 7, 7, 7, 7, 7, 7, 7, 7, 7, 7, 7, 7, 7, 7, 7, 7, 7, 7, 7, 7, 7, 7, 7, 7, 7, 7, 7, 7, 7, 7, 7, 7, 7, 7, 7, 7, 7, 7, 7, 7, 7, 7, 7, 8, 8, 8, 8, 8, 8, 8, 8, 8, 8, 8, 8, 8, 8, 8, 8, 8, 8, 8, 8, 8, 8, 8, 8, 8, 8, 8, 8, 8, 8, 8, 8, 8, 8, 8, 8, 8, 8, 8, 8, 8, 8, 8, 8, 8, 8, 8, 8, 8, 8, 8, 8, 8, 8, 8, 8, 8, 8, 8, 8, 8, 8, 8, 8, 8, 8, 8, 8, 8, 8, 8, 8, 8, 8, 8, 8, 8, 8, 8, 8, 8, 8, 8, 8, 8, 8, 8, 8, 8, 8, 8, 8, 8, 8, 8, 8, 8, 8, 8, 8, 8, 8, 8, 8, 8, 8, 8, 8, 8, 8, 8, 8, 8, 8, 8, 8, 8, 8, 8, 8, 8, 8, 8, 8, 8, 8, 8, 8]⟩ : ByteArray) : Int)) then (let v7 := btI (⟨#[0, 1, 2, 2, 3, 3, 3, 3, 4, 4, 4, 4, 4, 4, 4, 4, 5, 5, 5, 5, 5, 5, 5, 5, 5, 5, 5, 5, 5, 5, 5, 5, 6, 6, 6, 6, 6, 6, 6, 6, 6, 6, 6, 6, 6, 6, 6, 6, 6, 6, 6, 6, 6, 6, 6, 6, 6, 6, 6, 6, 6, 6, 6, 6, 7, 7, 7, 7, 7, 7, 7, 7, 7, 7, 7, 7, 7, 7, 7, 7, 7, 7, 7, 7, 7, 7, 7, 7, 7, 7, 7, 7, 7, 7, 7, 7, 7, 7, 7, 7, 7, 7, 7, 7, 7, 7, 7, 7, 7, 7, 7, 7, 7, 7, 7, 7, 7, 7, 7, 7, 7, 7, 7, 7, 7, 7, 7, 7, 8, 8, 8, 8, 8, 8, 8, 8, 8, 8, 8, 8, 8, 8, 8, 8, 8, 8, 8, 8, 8, 8, 8, 8, 8, 8, 8, 8, 8, 8, 8, 8, 8, 8, 8, 8, 8, 8, 8, 8, 8, 8, 8, 8, 8, 8, 8, 8, 8, 8, 8, 8, 8, 8, 8, 8, 8, 8, 8, 8, 8, 8, 8, 8, 8, 8, 8, 8, 8, 8, 8, 8, 8, 8, 8, 8, 8, 8, 8, 8, 8, 8, 8, 8, 8, 8, 8, 8, 8, 8, 8, 8, 8, 8, 8, 8, 8, 8, 8, 8, 8, 8, 8, 8, 8, 8, 8, 8, 8, 8, 8, 8, 8, 8, 8, 8, 8, 8, 8, 8, 8, 8, 8, 8, 8, 8, 8, 8]⟩ : ByteArray) v6
  let v8 := IntKind.i64.wrap v7
  let v9 := IntKind.i64.wrap (v5 + v8)
  some (v9, ()))
  else none))
  else (let v10 := IntKind.u8.wrap v2
  bif decide (0 ≤ v10) && decide (v10 < (ByteArray.size (⟨#[0, 1, 2, 2, 3, 3, 3, 3, 4, 4, 4, 4, 4, 4, 4, 4, 5, 5, 5, 5, 5, 5, 5, 5, 5, 5, 5, 5, 5, 5, 5, 5, 6, 6, 6, 6, 6, 6, 6, 6, 6, 6, 6, 6, 6, 6, 6, 6, 6, 6, 6, 6, 6, 6, 6, 6, 6, 6, 6, 6, 6, 6, 6, 6, 7, 7, 7, 7, 7, 7, 7, 7, 7, 7, 7, 7, 7, 7, 7, 7, 7, 7, 7, 7, 7, 7, 7, 7, 7, 7, 7, 7, 7, 7, 7, 7, 7, 7, 7, 7, 7, 7, 7, 7, 7, 7, 7, 7, 7, 7, 7, 7, 7, 7, 7, 7, 7, 7, 7, 7, 7, 7, 7, 7, 7, 7, 7, 7, 8, 8, 8, 8, 8, 8, 8, 8, 8, 8, 8, 8, 8, 8, 8, 8, 8, 8, 8, 8, 8, 8, 8, 8, 8, 8, 8, 8, 8, 8, 8, 8, 8, 8, 8, 8, 8, 8, 8, 8, 8, 8, 8, 8, 8, 8, 8, 8, 8, 8, 8, 8, 8, 8, 8, 8, 8, 8, 8, 8, 8, 8, 8, 8, 8, 8, 8, 8, 8, 8, 8, 8, 8, 8, 8, 8, 8, 8, 8, 8, 8, 8, 8, 8, 8, 8, 8, 8, 8, 8, 8, 8, 8, 8, 8, 8, 8, 8, 8, 8, 8, 8, 8, 8, 8, 8, 8, 8, 8, 8, 8, 8, 8, 8, 8, 8, 8, 8, 8, 8, 8, 8, 8, 8, 8, 8, 8, 8]⟩ : ByteArray) : Int)) then (let v11 := btI (⟨#[0, 1, 2, 2, 3, 3, 3, 3, 4, 4, 4, 4, 4, 4, 4, 4, 5, 5, 5, 5, 5, 5, 5, 5, 5, 5, 5, 5, 5, 5, 5, 5, 6, 6, 6, 6, 6, 6, 6, 6, 6, 6, 6, 6, 6, 6, 6, 6, 6, 6, 6, 6, 6, 6, 6, 6, 6, 6, 6, 6, 6, 6, 6, 6, 7, 7, 7, 7, 7, 7, 7, 7, 7, 7, 7, 7, 7, 7, 7, 7, 7, 7, 7, 7, 7, 7, 7, 7, 7, 7, 7, 7, 7, 7, 7, 7, 7, 7, 7, 7, 7, 7, 7, 7, 7, 7, 7, 7, 7, 7, 7, 7, 7, 7, 7, 7, 7, 7, 7, 7, 7, 7, 7, 7, 7, 7, 7, 7, 8, 8, 8, 8, 8, 8, 8, 8, 8, 8, 8, 8, 8, 8, 8, 8, 8, 8, 8, 8, 8, 8, 8, 8, 8, 8, 8, 8, 8, 8, 8, 8, 8, 8, 8, 8, 8, 8, 8, 8, 8, 8, 8, 8, 8, 8, 8, 8, 8, 8, 8, 8, 8, 8, 8, 8, 8, 8, 8, 8, 8, 8, 8, 8, 8, 8, 8, 8, 8, 8, 8, 8, 8, 8, 8, 8, 8, 8, 8, 8, 8, 8, 8, 8, 8, 8, 8, 8, 8, 8, 8, 8, 8, 8, 8, 8, 8, 8, 8, 8, 8, 8, 8, 8, 8, 8, 8, 8, 8, 8, 8, 8, 8, 8, 8, 8, 8, 8, 8, 8, 8, 8, 8, 8, 8, 8, 8, 8]⟩ : ByteArray) v10
  let v12 := IntKind.i64.wrap v11
  let v13 := IntKind.i64.wrap ((16 : Int) + v12)
  some (v13, ()))
  else none)))
  else (let v14 := decide (a0 ≥ (256 : Int))
  bif v14 then (bif decide ((8 : Int) < 0) then none
  else (let v15 := shrI .u32 a0 (8 : Int)
  let v16 := IntKind.i64.wrap ((0 : Int) + (8 : Int))
  let v17 := IntKind.u8.wrap v15
  bif decide (0 ≤ v17) && decide (v17 < (ByteArray.size (⟨#[0, 1, 2, 2, 3, 3, 3, 3, 4, 4, 4, 4, 4, 4, 4, 4, 5, 5, 5, 5, 5, 5, 5, 5, 5, 5, 5, 5, 5, 5, 5, 5, 6, 6, 6, 6, 6, 6, 6, 6, 6, 6, 6, 6, 6, 6, 6, 6, 6, 6, 6, 6, 6, 6, 6, 6, 6, 6, 6, 6, 6, 6, 6, 6, 7, 7, 7, 7, 7, 7, 7, 7, 7, 7, 7, 7, 7, 7, 7, 7, 7, 7, 7, 7, 7, 7, 7, 7, 7, 7, 7, 7, 7, 7, 7, 7, 7, 7, 7, 7, 7, 7, 7, 7, 7, 7, 7, 7, 7, 7, 7, 7, 7, 7, 7, 7, 7, 7, 7, 7, 7, 7, 7, 7, 7, 7, 7, 7, 8, 8, 8, 8, 8, 8, 8, 8, 8, 8, 8, 8, 8, 8, 8, 8, 8, 8, 8, 8, 8, 8, 8, 8, 8, 8, 8, 8, 8, 8, 8, 8, 8, 8, 8, 8, 8, 8, 8, 8, 8, 8, 8, 8, 8, 8, 8, 8, 8, 8, 8, 8, 8, 8, 8, 8, 8, 8, 8, 8, 8, 8, 8, 8, 8, 8, 8, 8, 8, 8, 8, 8, 8, 8, 8, 8, 8, 8, 8, 8, 8, 8, 8, 8, 8, 8, 8, 8, 8, 8, 8, 8, 8, 8, 8, 8, 8, 8, 8, 8, 8, 8, 8, 8, 8, 8, 8, 8, 8, 8, 8, 8, 8, 8, 8, 8, 8, 8, 8, 8, 8, 8, 8, 8, 8, 8, 8, 8]⟩ : ByteArray) : Int)) then (let v18 := btI (⟨#[0, 1, 2, 2, 3, 3, 3, 3, 4, 4, 4, 4, 4, 4, 4, 4, 5, 5, 5, 5, 5, 5, 5, 5, 5, 5, 5, 5, 5, 5, 5, 5, 6, 6, 6, 6, 6, 6, 6, 6, 6, 6, 6, 6, 6, 6, 6, 6, 6, 6, 6, 6, 6, 6, 6, 6, 6, 6, 6, 6, 6, 6, 6, 6, 7, 7, 7, 7, 7, 7, 7, 7, 7, 7, 7, 7, 7, 7, 7, 7, 7, 7, 7, 7, 7, 7, 7, 7, 7, 7, 7, 7, 7, 7, 7, 7, 7, 7, 7, 7, 7, 7, 7, 7, 7, 7, 7, 7, 7, 7, 7, 7, 7, 7, 7, 7, 7, 7, 7, 7, 7, 7, 7, 7, 7, 7, 7, 7, 8, 8, 8, 8, 8, 8, 8, 8, 8, 8, 8, 8, 8, 8, 8, 8, 8, 8, 8, 8, 8, 8, 8, 8, 8, 8, 8, 8, 8, 8, 8, 8, 8, 8, 8, 8, 8, 8, 8, 8, 8, 8, 8, 8, 8, 8, 8, 8, 8, 8, 8, 8, 8, 8, 8, 8, 8, 8, 8, 8, 8, 8, 8, 8, 8, 8, 8, 8, 8, 8, 8, 8, 8, 8, 8, 8, 8, 8, 8, 8, 8, 8, 8, 8, 8, 8, 8, 8, 8, 8, 8, 8, 8, 8, 8, 8, 8, 8, 8, 8, 8, 8, 8, 8, 8, 8, 8, 8, 8, 8, 8, 8, 8, 8, 8, 8, 8, 8, 8, 8, 8, 8, 8, 8, 8, 8, 8, 8]⟩ : ByteArray) v17
  let v19 := IntKind.i64.wrap v18
  let v20 := IntKind.i64.wrap (v16 + v19)
  some (v20, ()))
  else none))
  else (let v21 := IntKind.u8.wrap a0
  bif decide (0 ≤ v21) && decide (v21 < (ByteArray.size (⟨#[0, 1, 2, 2, 3, 3, 3, 3, 4, 4, 4, 4, 4, 4, 4, 4, 5, 5, 5, 5, 5, 5, 5, 5, 5, 5, 5, 5, 5, 5, 5, 5, 6, 6, 6, 6, 6, 6, 6, 6, 6, 6, 6, 6, 6, 6, 6, 6, 6, 6, 6, 6, 6, 6, 6, 6, 6, 6, 6, 6, 6, 6, 6, 6, 7, 7, 7, 7, 7, 7, 7, 7, 7, 7, 7, 7, 7, 7, 7, 7, 7, 7, 7, 7, 7, 7, 7, 7, 7, 7, 7, 7, 7, 7, 7, 7, 7, 7, 7, 7, 7, 7, 7, 7, 7, 7, 7, 7, 7, 7, 7, 7, 7, 7, 7, 7, 7, 7, 7, 7, 7, 7, 7, 7, 7, 7, 7, 7, 8, 8, 8, 8, 8, 8, 8, 8, 8, 8, 8, 8, 8, 8, 8, 8, 8, 8, 8, 8, 8, 8, 8, 8, 8, 8, 8, 8, 8, 8, 8, 8, 8, 8, 8, 8, 8, 8, 8, 8, 8, 8, 8, 8, 8, 8, 8, 8, 8, 8, 8, 8, 8, 8, 8, 8, 8, 8, 8, 8, 8, 8, 8, 8, 8, 8, 8, 8, 8, 8, 8, 8, 8, 8, 8, 8, 8, 8, 8, 8, 8, 8, 8, 8, 8, 8, 8, 8, 8, 8, 8, 8, 8, 8, 8, 8, 8, 8, 8, 8, 8, 8, 8, 8, 8, 8, 8, 8, 8, 8, 8, 8, 8, 8, 8, 8, 8, 8, 8, 8, 8, 8, 8, 8, 8, 8, 8, 8]⟩ : ByteArray) : Int)) then (let v22 := btI (⟨#[0, 1, 2, 2, 3, 3, 3, 3, 4, 4, 4, 4, 4, 4, 4, 4, 5, 5, 5, 5, 5, 5, 5, 5, 5, 5, 5, 5, 5, 5, 5, 5, 6, 6, 6, 6, 6, 6, 6, 6, 6, 6, 6, 6, 6, 6, 6, 6, 6, 6, 6, 6, 6, 6, 6, 6, 6, 6, 6, 6, 6, 6, 6, 6, 7, 7, 7, 7, 7, 7, 7, 7, 7, 7, 7, 7, 7, 7, 7, 7, 7, 7, 7, 7, 7, 7, 7, 7, 7, 7, 7, 7, 7, 7, 7, 7, 7, 7, 7, 7, 7, 7, 7, 7, 7, 7, 7, 7, 7, 7, 7, 7, 7, 7, 7, 7, 7, 7, 7, 7, 7, 7, 7, 7, 7, 7, 7, 7, 8, 8, 8, 8, 8, 8, 8, 8, 8, 8, 8, 8, 8, 8, 8, 8, 8, 8, 8, 8, 8, 8, 8, 8, 8, 8, 8, 8, 8, 8, 8, 8, 8, 8, 8, 8, 8, 8, 8, 8, 8, 8, 8, 8, 8, 8, 8, 8, 8, 8, 8, 8, 8, 8, 8, 8, 8, 8, 8, 8, 8, 8, 8, 8, 8, 8, 8, 8, 8, 8, 8, 8, 8, 8, 8, 8, 8, 8, 8, 8, 8, 8, 8, 8, 8, 8, 8, 8, 8, 8, 8, 8, 8, 8, 8, 8, 8, 8, 8, 8, 8, 8, 8, 8, 8, 8, 8, 8, 8, 8, 8, 8, 8, 8, 8, 8, 8, 8, 8, 8, 8, 8, 8, 8, 8, 8, 8, 8]⟩ : ByteArray) v21
  let v23 := IntKind.i64.wrap v22
  let v24 := IntKind.i64.wrap ((0 : Int) + v23)
  some (v24, ()))
  else none))
theorem bits_Len32.eval (k : Nat) (a0 : Int) : evalF bits_Len32.spec bits_Len32.cals T Try.f81 k (a0, ()) = bits_Len32.e  a0 := by kernel_rfl
theorem bits_Len32.F_eq (a0 : Int) : bits_Len32.F (a0, ()) = limF bits_Len32.spec bits_Len32.cals T Try.f81 (a0, ()) := by kernel_rfl
theorem bits_Len32.of (k : Nat) (a0 : Int) {y : Int × Unit} (h : bits_Len32.e  a0 = some y) : bits_Len32.F (a0, ()) = some y := (bits_Len32.F_eq a0).trans (limF_of (q := bits_Len32.spec) (C := bits_Len32.cals) (T := T) (f := Try.f81) (x := (a0, ())) (y := y) k ((bits_Len32.eval k a0).trans h))

def nat_Bits.spec : Spec := ⟨[(false, Kt41)], [(false, (.int .i64))], .own, fun j => match j with  | _ => []⟩
noncomputable def nat_Bits.cals : Cals := (Cals.cons 80 nat_trim.sig (Cals.cons 81 bits_Len32.sig (Cals.base tabs)))
noncomputable def nat_Bits.sig : Sig := nat_Bits.spec.sig nat_Bits.cals T Try.f67
noncomputable def nat_Bits.F (x : Dt41 × Unit) : Option (Int × Unit) := limF nat_Bits.spec nat_Bits.cals T Try.f67 x
theorem nat_Bits.ck : CalsOk Try.prog nat_Bits.cals := (CalsOk.cons nat_trim.cal (CalsOk.cons bits_Len32.cal (CalsOk.base tabsOk)))
theorem nat_Bits.cal : CalOk Try.prog tabs 67 nat_Bits.sig := calOk_lim' tabOk nat_Bits.ck mix Try.func67 (by kernel_rfl) (by kernel_rfl) (by kernel_rfl) (by kernel_rfl)
noncomputable def nat_Bits.e  (a0 : Dt41) : Option (Int × Unit) :=
  (nat_trim.F (a0, ())).bind fun y1 =>
  let v2 := (List.length y1.1 : Int)
  let v3 := (v2 == (0 : Int))
  bif v3 then (some ((0 : Int), ()))
  else (let v4 := (List.length y1.1 : Int)
  let v5 := IntKind.i64.wrap (v4 - (1 : Int))
  let v6 := IntKind.i64.wrap ((32 : Int) * v5)
  let v7 := (List.length y1.1 : Int)
  let v8 := IntKind.i64.wrap (v7 - (1 : Int))
  bif decide (0 ≤ v8) && decide (v8 < (List.length y1.1 : Int)) then (let v9 := List.getD y1.1 (Int.toNat v8) (0 : Int)
  (bits_Len32.F (v9, ())).bind fun y10 =>
  let v11 := IntKind.i64.wrap (v6 + y10.1)
  some (v11, ()))
  else none)
theorem nat_Bits.eval (k : Nat) (a0 : Dt41) : evalF nat_Bits.spec nat_Bits.cals T Try.f67 k (a0, ()) = nat_Bits.e  a0 := by kernel_rfl
theorem nat_Bits.F_eq (a0 : Dt41) : nat_Bits.F (a0, ()) = limF nat_Bits.spec nat_Bits.cals T Try.f67 (a0, ()) := by kernel_rfl
theorem nat_Bits.of (k : Nat) (a0 : Dt41) {y : Int × Unit} (h : nat_Bits.e  a0 = some y) : nat_Bits.F (a0, ()) = some y := (nat_Bits.F_eq a0).trans (limF_of (q := nat_Bits.spec) (C := nat_Bits.cals) (T := T) (f := Try.f67) (x := (a0, ())) (y := y) k ((nat_Bits.eval k a0).trans h))

def nat_own.spec : Spec := ⟨[(false, Kt41)], [(false, Kt41)], .own, fun j => match j with  | _ => []⟩
noncomputable def nat_own.cals : Cals := (Cals.cons 80 nat_trim.sig (Cals.base tabs))
noncomputable def nat_own.sig : Sig := nat_own.spec.sig nat_own.cals T Try.f96
noncomputable def nat_own.F (x : Dt41 × Unit) : Option (Dt41 × Unit) := limF nat_own.spec nat_own.cals T Try.f96 x
theorem nat_own.ck : CalsOk Try.prog nat_own.cals := (CalsOk.cons nat_trim.cal (CalsOk.base tabsOk))
theorem nat_own.cal : CalOk Try.prog tabs 96 nat_own.sig := calOk_lim' tabOk nat_own.ck mix Try.func96 (by kernel_rfl) (by kernel_rfl) (by kernel_rfl) (by kernel_rfl)
noncomputable def nat_own.e  (a0 : Dt41) : Option (Dt41 × Unit) :=
  (nat_trim.F (a0, ())).bind fun y1 =>
  let v2 := (List.length y1.1 : Int)
  let v3 := (v2 == (0 : Int))
  bif v3 then (some (zt41, ()))
  else (let v4 := (List.length y1.1 : Int)
  bif decide (0 ≤ v4) && (decide (v4 ≤ v4) && (decide (Int.toNat v4 * 4 ≤ 281474976710656) && Nat.blt 0 4)) then (let v5 := List.replicate (Int.toNat v4) (0 : Int)
  let v6 := List.take (List.length v5) y1.1 ++ List.drop (List.length y1.1) v5
  let v7 := ((Nat.min (List.length y1.1) (List.length v5) : Nat) : Int)
  some (v6, ()))
  else none)
theorem nat_own.eval (k : Nat) (a0 : Dt41) : evalF nat_own.spec nat_own.cals T Try.f96 k (a0, ()) = nat_own.e  a0 := by kernel_rfl
theorem nat_own.F_eq (a0 : Dt41) : nat_own.F (a0, ()) = limF nat_own.spec nat_own.cals T Try.f96 (a0, ()) := by kernel_rfl
theorem nat_own.of (k : Nat) (a0 : Dt41) {y : Dt41 × Unit} (h : nat_own.e  a0 = some y) : nat_own.F (a0, ()) = some y := (nat_own.F_eq a0).trans (limF_of (q := nat_own.spec) (C := nat_own.cals) (T := T) (f := Try.f96) (x := (a0, ())) (y := y) k ((nat_own.eval k a0).trans h))

def nat_Cmp.spec : Spec := ⟨[(false, Kt41), (false, Kt41)], [(false, (.int .i64))], .own, fun j => match j with | 7 => [(0, .lf (.z 115 (.int .u32) false)), (1, .lf (.z 115 (.int .u32) false)), (5, .lf (.v true))] | _ => []⟩
noncomputable def nat_Cmp.cals : Cals := (Cals.cons 80 nat_trim.sig (Cals.base tabs))
noncomputable def nat_Cmp.sig : Sig := nat_Cmp.spec.sig nat_Cmp.cals T Try.f97
noncomputable def nat_Cmp.F (x : Dt41 × Dt41 × Unit) : Option (Int × Unit) := limF nat_Cmp.spec nat_Cmp.cals T Try.f97 x
theorem nat_Cmp.ck : CalsOk Try.prog nat_Cmp.cals := (CalsOk.cons nat_trim.cal (CalsOk.base tabsOk))
theorem nat_Cmp.cal : CalOk Try.prog tabs 97 nat_Cmp.sig := calOk_lim' tabOk nat_Cmp.ck mix Try.func97 (by kernel_rfl) (by kernel_rfl) (by kernel_rfl) (by kernel_rfl)
def nat_Cmp.m7 (x0 : Dt41) (x1 : Dt41) (x5 : Int) : S := ⟨[(0, .one (.lf (.val false Kt41 x0))), (1, .one (.lf (.val false Kt41 x1))), (5, .one (.lf (.val true (.int .i64) x5)))], ⟨[], []⟩⟩
noncomputable def nat_Cmp.b7 (f7 : Dt41 → Dt41 → Int → Option (Int × Unit)) (x0 : Dt41) (x1 : Dt41) (x5 : Int) : Option (Int × Unit) :=
  let v1 := decide (x5 ≥ (0 : Int))
  bif v1 then (bif decide (0 ≤ x5) && decide (x5 < (List.length x0 : Int)) then (let v2 := List.getD x0 (Int.toNat x5) (0 : Int)
  bif decide (0 ≤ x5) && decide (x5 < (List.length x1 : Int)) then (let v3 := List.getD x1 (Int.toNat x5) (0 : Int)
  let v4 := (v2 != v3)
  bif v4 then (bif decide (0 ≤ x5) && decide (x5 < (List.length x0 : Int)) then (let v5 := List.getD x0 (Int.toNat x5) (0 : Int)
  bif decide (0 ≤ x5) && decide (x5 < (List.length x1 : Int)) then (let v6 := List.getD x1 (Int.toNat x5) (0 : Int)
  let v7 := decide (v5 < v6)
  bif v7 then (some ((-1 : Int), ()))
  else (some ((1 : Int), ())))
  else none)
  else none)
  else (let v8 := IntKind.i64.wrap (x5 - (1 : Int))
  f7 x0 x1 v8))
  else none)
  else none)
  else (some ((0 : Int), ()))
noncomputable def nat_Cmp.e (f7 : Dt41 → Dt41 → Int → Option (Int × Unit)) (a0 : Dt41) (a1 : Dt41) : Option (Int × Unit) :=
  (nat_trim.F (a0, ())).bind fun y1 =>
  (nat_trim.F (a1, ())).bind fun y2 =>
  let v3 := (List.length y1.1 : Int)
  let v4 := (List.length y2.1 : Int)
  let v5 := (v3 != v4)
  bif v5 then (let v6 := (List.length y1.1 : Int)
  let v7 := (List.length y2.1 : Int)
  let v8 := decide (v6 < v7)
  bif v8 then (some ((-1 : Int), ()))
  else (some ((1 : Int), ())))
  else (let v9 := (List.length y1.1 : Int)
  let v10 := IntKind.i64.wrap (v9 - (1 : Int))
  f7 y1.1 y2.1 v10)
noncomputable def nat_Cmp.L7 (k : Nat) (x0 : Dt41) (x1 : Dt41) (x5 : Int) : Option (Int × Unit) := heads (nat_Cmp.spec.env nat_Cmp.cals T Try.f97) (Func.pts Try.f97) k 7 (nat_Cmp.m7 x0 x1 x5)
theorem nat_Cmp.L7_succ (k : Nat) (x0 : Dt41) (x1 : Dt41) (x5 : Int) : nat_Cmp.L7 (k + 1) x0 x1 x5 = nat_Cmp.b7 (nat_Cmp.L7 k) x0 x1 x5 := by kernel_rfl
theorem nat_Cmp.eval (k : Nat) (a0 : Dt41) (a1 : Dt41) : evalF nat_Cmp.spec nat_Cmp.cals T Try.f97 k (a0, a1, ()) = nat_Cmp.e (nat_Cmp.L7 k) a0 a1 := by kernel_rfl
theorem nat_Cmp.F_eq (a0 : Dt41) (a1 : Dt41) : nat_Cmp.F (a0, a1, ()) = limF nat_Cmp.spec nat_Cmp.cals T Try.f97 (a0, a1, ()) := by kernel_rfl
theorem nat_Cmp.of (k : Nat) (a0 : Dt41) (a1 : Dt41) {y : Int × Unit} (h : nat_Cmp.e (nat_Cmp.L7 k) a0 a1 = some y) : nat_Cmp.F (a0, a1, ()) = some y := (nat_Cmp.F_eq a0 a1).trans (limF_of (q := nat_Cmp.spec) (C := nat_Cmp.cals) (T := T) (f := Try.f97) (x := (a0, a1, ())) (y := y) k ((nat_Cmp.eval k a0 a1).trans h))

def bits_Div32.spec : Spec := ⟨[(false, (.int .u32)), (false, (.int .u32)), (false, (.int .u32))], [(false, (.int .u32)), (false, (.int .u32))], .own, fun j => match j with  | _ => []⟩
noncomputable def bits_Div32.cals : Cals := (Cals.base tabs)
noncomputable def bits_Div32.sig : Sig := bits_Div32.spec.sig bits_Div32.cals T Try.f105
noncomputable def bits_Div32.F (x : Int × Int × Int × Unit) : Option (Int × Int × Unit) := limF bits_Div32.spec bits_Div32.cals T Try.f105 x
theorem bits_Div32.ck : CalsOk Try.prog bits_Div32.cals := (CalsOk.base tabsOk)
theorem bits_Div32.cal : CalOk Try.prog tabs 105 bits_Div32.sig := calOk_lim' tabOk bits_Div32.ck mix Try.func105 (by kernel_rfl) (by kernel_rfl) (by kernel_rfl) (by kernel_rfl)
noncomputable def bits_Div32.e  (a0 : Int) (a1 : Int) (a2 : Int) : Option (Int × Int × Unit) :=
  let v1 := (a2 != (0 : Int))
  bif v1 then (let v2 := decide (a2 ≤ a0)
  bif v2 then (none)
  else (let v3 := IntKind.u64.wrap a0
  bif decide ((32 : Int) < 0) then none
  else (let v4 := shlI .u64 v3 (32 : Int)
  let v5 := IntKind.u64.wrap a1
  let v6 := bitsOp .or .u64 v4 v5
  let v7 := IntKind.u64.wrap a2
  bif decide (v7 = 0) then none
  else (let v8 := IntKind.u64.wrap (Int.tdiv v6 v7)
  let v9 := IntKind.u32.wrap v8
  let v10 := IntKind.u64.wrap a2
  bif decide (v10 = 0) then none
  else (let v11 := Int.tmod v6 v10
  let v12 := IntKind.u32.wrap v11
  some (v9, v12, ()))))))
  else (let v13 := IntKind.u64.wrap a0
  bif decide ((32 : Int) < 0) then none
  else (let v14 := shlI .u64 v13 (32 : Int)
  let v15 := IntKind.u64.wrap a1
  let v16 := bitsOp .or .u64 v14 v15
  let v17 := IntKind.u64.wrap a2
  bif decide (v17 = 0) then none
  else (let v18 := IntKind.u64.wrap (Int.tdiv v16 v17)
  let v19 := IntKind.u32.wrap v18
  let v20 := IntKind.u64.wrap a2
  bif decide (v20 = 0) then none
  else (let v21 := Int.tmod v16 v20
  let v22 := IntKind.u32.wrap v21
  some (v19, v22, ())))))
theorem bits_Div32.eval (k : Nat) (a0 : Int) (a1 : Int) (a2 : Int) : evalF bits_Div32.spec bits_Div32.cals T Try.f105 k (a0, a1, a2, ()) = bits_Div32.e  a0 a1 a2 := by kernel_rfl
theorem bits_Div32.F_eq (a0 : Int) (a1 : Int) (a2 : Int) : bits_Div32.F (a0, a1, a2, ()) = limF bits_Div32.spec bits_Div32.cals T Try.f105 (a0, a1, a2, ()) := by kernel_rfl
theorem bits_Div32.of (k : Nat) (a0 : Int) (a1 : Int) (a2 : Int) {y : Int × Int × Unit} (h : bits_Div32.e  a0 a1 a2 = some y) : bits_Div32.F (a0, a1, a2, ()) = some y := (bits_Div32.F_eq a0 a1 a2).trans (limF_of (q := bits_Div32.spec) (C := bits_Div32.cals) (T := T) (f := Try.f105) (x := (a0, a1, a2, ())) (y := y) k ((bits_Div32.eval k a0 a1 a2).trans h))

def nat_short.spec : Spec := ⟨[(false, Kt41), (false, (.int .u32))], [(false, Kt41), (false, (.int .u32))], .own, fun j => match j with | 4 => [(0, .lf (.z 115 (.int .u32) false)), (1, .lf (.v false)), (6, .lf (.o 115 (.int .u32) true)), (7, .lf (.v true)), (8, .lf (.v true))] | _ => []⟩
noncomputable def nat_short.cals : Cals := (Cals.cons 105 bits_Div32.sig (Cals.base tabs))
noncomputable def nat_short.sig : Sig := nat_short.spec.sig nat_short.cals T Try.f98
noncomputable def nat_short.F (x : Dt41 × Int × Unit) : Option (Dt41 × Int × Unit) := limF nat_short.spec nat_short.cals T Try.f98 x
theorem nat_short.ck : CalsOk Try.prog nat_short.cals := (CalsOk.cons bits_Div32.cal (CalsOk.base tabsOk))
theorem nat_short.cal : CalOk Try.prog tabs 98 nat_short.sig := calOk_lim' tabOk nat_short.ck mix Try.func98 (by kernel_rfl) (by kernel_rfl) (by kernel_rfl) (by kernel_rfl)
def nat_short.m4 (x0 : Dt41) (x1 : Int) (x6 : Dt41) (x7 : Int) (x8 : Int) : S := ⟨[(0, .one (.lf (.val false Kt41 x0))), (1, .one (.lf (.val false (.int .u32) x1))), (6, .one (.lf (.own 0))), (7, .one (.lf (.val true (.int .u32) x7))), (8, .one (.lf (.val true (.int .i64) x8)))], ⟨[some ⟨115, (.int .u32), true, true, x6⟩], []⟩⟩
noncomputable def nat_short.b4 (f4 : Dt41 → Int → Dt41 → Int → Int → Option (Dt41 × Int × Unit)) (x0 : Dt41) (x1 : Int) (x6 : Dt41) (x7 : Int) (x8 : Int) : Option (Dt41 × Int × Unit) :=
  let v1 := decide (x8 ≥ (0 : Int))
  bif v1 then (bif decide (0 ≤ x8) && decide (x8 < (List.length x0 : Int)) then (let v2 := List.getD x0 (Int.toNat x8) (0 : Int)
  (bits_Div32.F (x7, v2, x1, ())).bind fun y3 =>
  bif decide (0 ≤ x8) && decide (x8 < (List.length x6 : Int)) then (let v4 := List.set x6 (Int.toNat x8) y3.1
  let v5 := IntKind.i64.wrap (x8 - (1 : Int))
  f4 x0 x1 v4 y3.2.1 v5)
  else none)
  else none)
  else (some (x6, x7, ()))
noncomputable def nat_short.e (f4 : Dt41 → Int → Dt41 → Int → Int → Option (Dt41 × Int × Unit)) (a0 : Dt41) (a1 : Int) : Option (Dt41 × Int × Unit) :=
  let v1 := (List.length a0 : Int)
  bif decide (0 ≤ v1) && (decide (v1 ≤ v1) && (decide (Int.toNat v1 * 4 ≤ 281474976710656) && Nat.blt 0 4)) then (let v2 := List.replicate (Int.toNat v1) (0 : Int)
  let v3 := (List.length a0 : Int)
  let v4 := IntKind.i64.wrap (v3 - (1 : Int))
  f4 a0 a1 v2 (0 : Int) v4)
  else none
noncomputable def nat_short.L4 (k : Nat) (x0 : Dt41) (x1 : Int) (x6 : Dt41) (x7 : Int) (x8 : Int) : Option (Dt41 × Int × Unit) := heads (nat_short.spec.env nat_short.cals T Try.f98) (Func.pts Try.f98) k 4 (nat_short.m4 x0 x1 x6 x7 x8)
theorem nat_short.L4_succ (k : Nat) (x0 : Dt41) (x1 : Int) (x6 : Dt41) (x7 : Int) (x8 : Int) : nat_short.L4 (k + 1) x0 x1 x6 x7 x8 = nat_short.b4 (nat_short.L4 k) x0 x1 x6 x7 x8 := by kernel_rfl
theorem nat_short.eval (k : Nat) (a0 : Dt41) (a1 : Int) : evalF nat_short.spec nat_short.cals T Try.f98 k (a0, a1, ()) = nat_short.e (nat_short.L4 k) a0 a1 := by kernel_rfl
theorem nat_short.F_eq (a0 : Dt41) (a1 : Int) : nat_short.F (a0, a1, ()) = limF nat_short.spec nat_short.cals T Try.f98 (a0, a1, ()) := by kernel_rfl
theorem nat_short.of (k : Nat) (a0 : Dt41) (a1 : Int) {y : Dt41 × Int × Unit} (h : nat_short.e (nat_short.L4 k) a0 a1 = some y) : nat_short.F (a0, a1, ()) = some y := (nat_short.F_eq a0 a1).trans (limF_of (q := nat_short.spec) (C := nat_short.cals) (T := T) (f := Try.f98) (x := (a0, a1, ())) (y := y) k ((nat_short.eval k a0 a1).trans h))

def bits_LeadingZeros32.spec : Spec := ⟨[(false, (.int .u32))], [(false, (.int .i64))], .own, fun j => match j with  | _ => []⟩
noncomputable def bits_LeadingZeros32.cals : Cals := (Cals.cons 81 bits_Len32.sig (Cals.base tabs))
noncomputable def bits_LeadingZeros32.sig : Sig := bits_LeadingZeros32.spec.sig bits_LeadingZeros32.cals T Try.f106
noncomputable def bits_LeadingZeros32.F (x : Int × Unit) : Option (Int × Unit) := limF bits_LeadingZeros32.spec bits_LeadingZeros32.cals T Try.f106 x
theorem bits_LeadingZeros32.ck : CalsOk Try.prog bits_LeadingZeros32.cals := (CalsOk.cons bits_Len32.cal (CalsOk.base tabsOk))
theorem bits_LeadingZeros32.cal : CalOk Try.prog tabs 106 bits_LeadingZeros32.sig := calOk_lim' tabOk bits_LeadingZeros32.ck mix Try.func106 (by kernel_rfl) (by kernel_rfl) (by kernel_rfl) (by kernel_rfl)
noncomputable def bits_LeadingZeros32.e  (a0 : Int) : Option (Int × Unit) :=
  (bits_Len32.F (a0, ())).bind fun y1 =>
  let v2 := IntKind.i64.wrap ((32 : Int) - y1.1)
  some (v2, ())
theorem bits_LeadingZeros32.eval (k : Nat) (a0 : Int) : evalF bits_LeadingZeros32.spec bits_LeadingZeros32.cals T Try.f106 k (a0, ()) = bits_LeadingZeros32.e  a0 := by kernel_rfl
theorem bits_LeadingZeros32.F_eq (a0 : Int) : bits_LeadingZeros32.F (a0, ()) = limF bits_LeadingZeros32.spec bits_LeadingZeros32.cals T Try.f106 (a0, ()) := by kernel_rfl
theorem bits_LeadingZeros32.of (k : Nat) (a0 : Int) {y : Int × Unit} (h : bits_LeadingZeros32.e  a0 = some y) : bits_LeadingZeros32.F (a0, ()) = some y := (bits_LeadingZeros32.F_eq a0).trans (limF_of (q := bits_LeadingZeros32.spec) (C := bits_LeadingZeros32.cals) (T := T) (f := Try.f106) (x := (a0, ())) (y := y) k ((bits_LeadingZeros32.eval k a0).trans h))

def nat_moved.spec : Spec := ⟨[(false, Kt41), (false, (.int .i64))], [(false, Kt41)], .own, fun j => match j with | 3 => [(0, .lf (.z 115 (.int .u32) false)), (1, .lf (.v false)), (5, .lf (.o 115 (.int .u32) true)), (12, .lf (.v true)), (13, .lf (.v true))] | _ => []⟩
noncomputable def nat_moved.cals : Cals := (Cals.base tabs)
noncomputable def nat_moved.sig : Sig := nat_moved.spec.sig nat_moved.cals T Try.f107
noncomputable def nat_moved.F (x : Dt41 × Int × Unit) : Option (Dt41 × Unit) := limF nat_moved.spec nat_moved.cals T Try.f107 x
theorem nat_moved.ck : CalsOk Try.prog nat_moved.cals := (CalsOk.base tabsOk)
theorem nat_moved.cal : CalOk Try.prog tabs 107 nat_moved.sig := calOk_lim' tabOk nat_moved.ck mix Try.func107 (by kernel_rfl) (by kernel_rfl) (by kernel_rfl) (by kernel_rfl)
def nat_moved.m3 (x0 : Dt41) (x1 : Int) (x5 : Dt41) (x12 : Int) (x13 : Int) : S := ⟨[(0, .one (.lf (.val false Kt41 x0))), (1, .one (.lf (.val false (.int .i64) x1))), (5, .one (.lf (.own 0))), (12, .one (.lf (.val true (.int .i64) x12))), (13, .one (.lf (.val true (.int .i64) x13)))], ⟨[some ⟨115, (.int .u32), true, true, x5⟩], []⟩⟩
noncomputable def nat_moved.b3 (f3 : Dt41 → Int → Dt41 → Int → Int → Option (Dt41 × Unit)) (x0 : Dt41) (x1 : Int) (x5 : Dt41) (x12 : Int) (x13 : Int) : Option (Dt41 × Unit) :=
  let v1 := decide (x13 < x12)
  bif v1 then (bif decide (0 ≤ x13) && decide (x13 < (List.length x5 : Int)) then (let v2 := List.getD x5 (Int.toNat x13) (0 : Int)
  bif decide (0 ≤ x13) && decide (x13 < (List.length x0 : Int)) then (let v3 := List.getD x0 (Int.toNat x13) (0 : Int)
  bif decide (x1 < 0) then none
  else (let v4 := shlI .u32 v3 x1
  let v5 := bitsOp .or .u32 v2 v4
  bif decide (0 ≤ x13) && decide (x13 < (List.length x5 : Int)) then (let v6 := List.set x5 (Int.toNat x13) v5
  let v7 := IntKind.i64.wrap (x13 + (1 : Int))
  bif decide (0 ≤ x13) && decide (x13 < (List.length x0 : Int)) then (let v8 := List.getD x0 (Int.toNat x13) (0 : Int)
  let v9 := IntKind.u64.wrap v8
  let v10 := IntKind.i64.wrap ((32 : Int) - x1)
  bif decide (v10 < 0) then none
  else (let v11 := shrI .u64 v9 v10
  let v12 := IntKind.u32.wrap v11
  bif decide (0 ≤ v7) && decide (v7 < (List.length v6 : Int)) then (let v13 := List.set v6 (Int.toNat v7) v12
  let v14 := IntKind.i64.wrap (x13 + (1 : Int))
  f3 x0 x1 v13 x12 v14)
  else none))
  else none)
  else none))
  else none)
  else none)
  else (some (x5, ()))
noncomputable def nat_moved.e (f3 : Dt41 → Int → Dt41 → Int → Int → Option (Dt41 × Unit)) (a0 : Dt41) (a1 : Int) : Option (Dt41 × Unit) :=
  let v1 := (List.length a0 : Int)
  let v2 := IntKind.i64.wrap (v1 + (1 : Int))
  bif decide (0 ≤ v2) && (decide (v2 ≤ v2) && (decide (Int.toNat v2 * 4 ≤ 281474976710656) && Nat.blt 0 4)) then (let v3 := List.replicate (Int.toNat v2) (0 : Int)
  let v4 := (List.length a0 : Int)
  f3 a0 a1 v3 v4 (0 : Int))
  else none
noncomputable def nat_moved.L3 (k : Nat) (x0 : Dt41) (x1 : Int) (x5 : Dt41) (x12 : Int) (x13 : Int) : Option (Dt41 × Unit) := heads (nat_moved.spec.env nat_moved.cals T Try.f107) (Func.pts Try.f107) k 3 (nat_moved.m3 x0 x1 x5 x12 x13)
theorem nat_moved.L3_succ (k : Nat) (x0 : Dt41) (x1 : Int) (x5 : Dt41) (x12 : Int) (x13 : Int) : nat_moved.L3 (k + 1) x0 x1 x5 x12 x13 = nat_moved.b3 (nat_moved.L3 k) x0 x1 x5 x12 x13 := by kernel_rfl
theorem nat_moved.eval (k : Nat) (a0 : Dt41) (a1 : Int) : evalF nat_moved.spec nat_moved.cals T Try.f107 k (a0, a1, ()) = nat_moved.e (nat_moved.L3 k) a0 a1 := by kernel_rfl
theorem nat_moved.F_eq (a0 : Dt41) (a1 : Int) : nat_moved.F (a0, a1, ()) = limF nat_moved.spec nat_moved.cals T Try.f107 (a0, a1, ()) := by kernel_rfl
theorem nat_moved.of (k : Nat) (a0 : Dt41) (a1 : Int) {y : Dt41 × Unit} (h : nat_moved.e (nat_moved.L3 k) a0 a1 = some y) : nat_moved.F (a0, a1, ()) = some y := (nat_moved.F_eq a0 a1).trans (limF_of (q := nat_moved.spec) (C := nat_moved.cals) (T := T) (f := Try.f107) (x := (a0, a1, ())) (y := y) k ((nat_moved.eval k a0 a1).trans h))

def bits_Sub32.spec : Spec := ⟨[(false, (.int .u32)), (false, (.int .u32)), (false, (.int .u32))], [(false, (.int .u32)), (false, (.int .u32))], .own, fun j => match j with  | _ => []⟩
noncomputable def bits_Sub32.cals : Cals := (Cals.base tabs)
noncomputable def bits_Sub32.sig : Sig := bits_Sub32.spec.sig bits_Sub32.cals T Try.f111
noncomputable def bits_Sub32.F (x : Int × Int × Int × Unit) : Option (Int × Int × Unit) := limF bits_Sub32.spec bits_Sub32.cals T Try.f111 x
theorem bits_Sub32.ck : CalsOk Try.prog bits_Sub32.cals := (CalsOk.base tabsOk)
theorem bits_Sub32.cal : CalOk Try.prog tabs 111 bits_Sub32.sig := calOk_lim' tabOk bits_Sub32.ck mix Try.func111 (by kernel_rfl) (by kernel_rfl) (by kernel_rfl) (by kernel_rfl)
noncomputable def bits_Sub32.e  (a0 : Int) (a1 : Int) (a2 : Int) : Option (Int × Int × Unit) :=
  let v1 := IntKind.u32.wrap (a0 - a1)
  let v2 := IntKind.u32.wrap (v1 - a2)
  let v3 := bitsOp .xor .u32 (if IntKind.u32.signed then -1 else IntKind.u32.max) a0
  let v4 := bitsOp .and .u32 v3 a1
  let v5 := bitsOp .xor .u32 a0 a1
  let v6 := bitsOp .xor .u32 (if IntKind.u32.signed then -1 else IntKind.u32.max) v5
  let v7 := bitsOp .and .u32 v6 v2
  let v8 := bitsOp .or .u32 v4 v7
  bif decide ((31 : Int) < 0) then none
  else (let v9 := shrI .u32 v8 (31 : Int)
  some (v2, v9, ()))
theorem bits_Sub32.eval (k : Nat) (a0 : Int) (a1 : Int) (a2 : Int) : evalF bits_Sub32.spec bits_Sub32.cals T Try.f111 k (a0, a1, a2, ()) = bits_Sub32.e  a0 a1 a2 := by kernel_rfl
theorem bits_Sub32.F_eq (a0 : Int) (a1 : Int) (a2 : Int) : bits_Sub32.F (a0, a1, a2, ()) = limF bits_Sub32.spec bits_Sub32.cals T Try.f111 (a0, a1, a2, ()) := by kernel_rfl
theorem bits_Sub32.of (k : Nat) (a0 : Int) (a1 : Int) (a2 : Int) {y : Int × Int × Unit} (h : bits_Sub32.e  a0 a1 a2 = some y) : bits_Sub32.F (a0, a1, a2, ()) = some y := (bits_Sub32.F_eq a0 a1 a2).trans (limF_of (q := bits_Sub32.spec) (C := bits_Sub32.cals) (T := T) (f := Try.f111) (x := (a0, a1, a2, ())) (y := y) k ((bits_Sub32.eval k a0 a1 a2).trans h))

def bits_Add32.spec : Spec := ⟨[(false, (.int .u32)), (false, (.int .u32)), (false, (.int .u32))], [(false, (.int .u32)), (false, (.int .u32))], .own, fun j => match j with  | _ => []⟩
noncomputable def bits_Add32.cals : Cals := (Cals.base tabs)
noncomputable def bits_Add32.sig : Sig := bits_Add32.spec.sig bits_Add32.cals T Try.f112
noncomputable def bits_Add32.F (x : Int × Int × Int × Unit) : Option (Int × Int × Unit) := limF bits_Add32.spec bits_Add32.cals T Try.f112 x
theorem bits_Add32.ck : CalsOk Try.prog bits_Add32.cals := (CalsOk.base tabsOk)
theorem bits_Add32.cal : CalOk Try.prog tabs 112 bits_Add32.sig := calOk_lim' tabOk bits_Add32.ck mix Try.func112 (by kernel_rfl) (by kernel_rfl) (by kernel_rfl) (by kernel_rfl)
noncomputable def bits_Add32.e  (a0 : Int) (a1 : Int) (a2 : Int) : Option (Int × Int × Unit) :=
  let v1 := IntKind.u64.wrap a0
  let v2 := IntKind.u64.wrap a1
  let v3 := IntKind.u64.wrap (v1 + v2)
  let v4 := IntKind.u64.wrap a2
  let v5 := IntKind.u64.wrap (v3 + v4)
  let v6 := IntKind.u32.wrap v5
  bif decide ((32 : Int) < 0) then none
  else (let v7 := shrI .u64 v5 (32 : Int)
  let v8 := IntKind.u32.wrap v7
  some (v6, v8, ()))
theorem bits_Add32.eval (k : Nat) (a0 : Int) (a1 : Int) (a2 : Int) : evalF bits_Add32.spec bits_Add32.cals T Try.f112 k (a0, a1, a2, ()) = bits_Add32.e  a0 a1 a2 := by kernel_rfl
theorem bits_Add32.F_eq (a0 : Int) (a1 : Int) (a2 : Int) : bits_Add32.F (a0, a1, a2, ()) = limF bits_Add32.spec bits_Add32.cals T Try.f112 (a0, a1, a2, ()) := by kernel_rfl
theorem bits_Add32.of (k : Nat) (a0 : Int) (a1 : Int) (a2 : Int) {y : Int × Int × Unit} (h : bits_Add32.e  a0 a1 a2 = some y) : bits_Add32.F (a0, a1, a2, ()) = some y := (bits_Add32.F_eq a0 a1 a2).trans (limF_of (q := bits_Add32.spec) (C := bits_Add32.cals) (T := T) (f := Try.f112) (x := (a0, a1, a2, ())) (y := y) k ((bits_Add32.eval k a0 a1 a2).trans h))

def nat_digit.spec : IoSpec := ⟨115, (.int .u32), [(false, Kt41)], [(false, (.int .u32))], fun j => match j with | 4 => [(0, .sub true), (1, .lf (.z 115 (.int .u32) false)), (5, .lf (.v true)), (7, .lf (.v true)), (8, .lf (.v true))] | 10 => [(0, .sub true), (1, .lf (.z 115 (.int .u32) false)), (5, .lf (.v true)), (7, .lf (.v true)), (9, .lf (.v true)), (10, .lf (.v true)), (82, .lf (.v true)), (83, .lf (.v true))] | 21 => [(0, .sub true), (1, .lf (.z 115 (.int .u32) false)), (5, .lf (.v true)), (7, .lf (.v true)), (13, .lf (.v true)), (130, .lf (.v true)), (131, .lf (.v true))] | _ => []⟩
noncomputable def nat_digit.cals : Cals := (Cals.cons 111 bits_Sub32.sig (Cals.cons 112 bits_Add32.sig (Cals.base tabs)))
noncomputable def nat_digit.sig : IoSig := nat_digit.spec.sig nat_digit.cals T Try.f108
noncomputable def nat_digit.F (zs : List Int) (o n : Nat) (x : Dt41 × Unit) : Option ((Int × Unit) × List Int) := limIO nat_digit.spec nat_digit.cals T Try.f108 zs o n x
theorem nat_digit.ck : CalsOk Try.prog nat_digit.cals := (CalsOk.cons bits_Sub32.cal (CalsOk.cons bits_Add32.cal (CalsOk.base tabsOk)))
theorem nat_digit.cal : IoOk Try.prog 108 nat_digit.sig := io_of' tabOk nat_digit.ck mix Try.func108 (by kernel_rfl) (by kernel_rfl) (by kernel_rfl) (by kernel_rfl) rfl
def nat_digit.m4 (x0 : Dt41) (x0_o : Nat) (x0_n : Nat) (x0_g : (Nat × Nat)) (x1 : Dt41) (x5 : Int) (x7 : Int) (x8 : Int) : S := ⟨[(0, .sub 0 x0_o x0_n (some x0_g)), (1, .one (.lf (.val false Kt41 x1))), (5, .one (.lf (.val true (.int .i64) x5))), (7, .one (.lf (.val true (.int .u64) x7))), (8, .one (.lf (.val true (.int .u64) x8)))], ⟨[some ⟨115, (.int .u32), true, true, x0⟩], []⟩⟩
def nat_digit.m10 (x0 : Dt41) (x0_o : Nat) (x0_n : Nat) (x0_g : (Nat × Nat)) (x1 : Dt41) (x5 : Int) (x7 : Int) (x9 : Int) (x10 : Int) (x82 : Int) (x83 : Int) : S := ⟨[(0, .sub 0 x0_o x0_n (some x0_g)), (1, .one (.lf (.val false Kt41 x1))), (5, .one (.lf (.val true (.int .i64) x5))), (7, .one (.lf (.val true (.int .u64) x7))), (9, .one (.lf (.val true (.int .u32) x9))), (10, .one (.lf (.val true (.int .u64) x10))), (82, .one (.lf (.val true (.int .i64) x82))), (83, .one (.lf (.val true (.int .i64) x83)))], ⟨[some ⟨115, (.int .u32), true, true, x0⟩], []⟩⟩
def nat_digit.m21 (x0 : Dt41) (x0_o : Nat) (x0_n : Nat) (x0_g : (Nat × Nat)) (x1 : Dt41) (x5 : Int) (x7 : Int) (x13 : Int) (x130 : Int) (x131 : Int) : S := ⟨[(0, .sub 0 x0_o x0_n (some x0_g)), (1, .one (.lf (.val false Kt41 x1))), (5, .one (.lf (.val true (.int .i64) x5))), (7, .one (.lf (.val true (.int .u64) x7))), (13, .one (.lf (.val true (.int .u32) x13))), (130, .one (.lf (.val true (.int .i64) x130))), (131, .one (.lf (.val true (.int .i64) x131)))], ⟨[some ⟨115, (.int .u32), true, true, x0⟩], []⟩⟩
noncomputable def nat_digit.b4 (f4 : Dt41 → Nat → Nat → (Nat × Nat) → Dt41 → Int → Int → Int → Option ((Int × Unit) × List Int × (Nat × Nat))) (f10 : Dt41 → Nat → Nat → (Nat × Nat) → Dt41 → Int → Int → Int → Int → Int → Int → Option ((Int × Unit) × List Int × (Nat × Nat))) (f21 : Dt41 → Nat → Nat → (Nat × Nat) → Dt41 → Int → Int → Int → Int → Int → Option ((Int × Unit) × List Int × (Nat × Nat))) (x0 : Dt41) (x0_o : Nat) (x0_n : Nat) (x0_g : (Nat × Nat)) (x1 : Dt41) (x5 : Int) (x7 : Int) (x8 : Int) : Option ((Int × Unit) × List Int × (Nat × Nat)) :=
  bif decide ((32 : Int) < 0) then none
  else (let v1 := shrI .u64 x7 (32 : Int)
  let v2 := (v1 != (0 : Int))
  bif v2 then (let v3 := IntKind.u64.wrap (x7 - (1 : Int))
  let v4 := IntKind.i64.wrap (x5 - (1 : Int))
  bif decide (0 ≤ v4) && decide (v4 < (List.length x1 : Int)) then (let v5 := List.getD x1 (Int.toNat v4) (0 : Int)
  let v6 := IntKind.u64.wrap v5
  let v7 := IntKind.u64.wrap (x8 + v6)
  bif decide ((32 : Int) < 0) then none
  else (let v8 := shrI .u64 v7 (32 : Int)
  let v9 := (v8 != (0 : Int))
  bif v9 then (f10 x0 x0_o x0_n x0_g x1 x5 v3 (0 : Int) (0 : Int) x5 (0 : Int))
  else (f4 x0 x0_o x0_n x0_g x1 x5 v3 v7)))
  else none)
  else (let v10 := IntKind.i64.wrap (x5 - (2 : Int))
  bif decide (0 ≤ v10) && decide (v10 < (List.length x1 : Int)) then (let v11 := List.getD x1 (Int.toNat v10) (0 : Int)
  let v12 := IntKind.u64.wrap v11
  let v13 := IntKind.u64.wrap (x7 * v12)
  bif decide ((32 : Int) < 0) then none
  else (let v14 := shlI .u64 x8 (32 : Int)
  let v15 := IntKind.i64.wrap (x5 - (2 : Int))
  bif decide (0 ≤ v15) && decide (v15 < ((x0_n : Nat) : Int)) then (let v16 := List.getD x0 (x0_o + Int.toNat v15) (0 : Int)
  let v17 := IntKind.u64.wrap v16
  let v18 := bitsOp .or .u64 v14 v17
  let v19 := decide (v13 > v18)
  bif v19 then (let v20 := IntKind.u64.wrap (x7 - (1 : Int))
  let v21 := IntKind.i64.wrap (x5 - (1 : Int))
  bif decide (0 ≤ v21) && decide (v21 < (List.length x1 : Int)) then (let v22 := List.getD x1 (Int.toNat v21) (0 : Int)
  let v23 := IntKind.u64.wrap v22
  let v24 := IntKind.u64.wrap (x8 + v23)
  bif decide ((32 : Int) < 0) then none
  else (let v25 := shrI .u64 v24 (32 : Int)
  let v26 := (v25 != (0 : Int))
  bif v26 then (f10 x0 x0_o x0_n x0_g x1 x5 v20 (0 : Int) (0 : Int) x5 (0 : Int))
  else (f4 x0 x0_o x0_n x0_g x1 x5 v20 v24)))
  else none)
  else (f10 x0 x0_o x0_n x0_g x1 x5 x7 (0 : Int) (0 : Int) x5 (0 : Int)))
  else none))
  else none))
noncomputable def nat_digit.b10 (f4 : Dt41 → Nat → Nat → (Nat × Nat) → Dt41 → Int → Int → Int → Option ((Int × Unit) × List Int × (Nat × Nat))) (f10 : Dt41 → Nat → Nat → (Nat × Nat) → Dt41 → Int → Int → Int → Int → Int → Int → Option ((Int × Unit) × List Int × (Nat × Nat))) (f21 : Dt41 → Nat → Nat → (Nat × Nat) → Dt41 → Int → Int → Int → Int → Int → Option ((Int × Unit) × List Int × (Nat × Nat))) (x0 : Dt41) (x0_o : Nat) (x0_n : Nat) (x0_g : (Nat × Nat)) (x1 : Dt41) (x5 : Int) (x7 : Int) (x9 : Int) (x10 : Int) (x82 : Int) (x83 : Int) : Option ((Int × Unit) × List Int × (Nat × Nat)) :=
  let v1 := decide (x83 < x82)
  bif v1 then (bif decide (0 ≤ x83) && decide (x83 < (List.length x1 : Int)) then (let v2 := List.getD x1 (Int.toNat x83) (0 : Int)
  let v3 := IntKind.u64.wrap v2
  let v4 := IntKind.u64.wrap (x7 * v3)
  let v5 := IntKind.u64.wrap (v4 + x10)
  bif decide ((32 : Int) < 0) then none
  else (let v6 := shrI .u64 v5 (32 : Int)
  bif decide (0 ≤ x83) && decide (x83 < ((x0_n : Nat) : Int)) then (let v7 := List.getD x0 (x0_o + Int.toNat x83) (0 : Int)
  let v8 := IntKind.u32.wrap v5
  (bits_Sub32.F (v7, v8, x9, ())).bind fun y9 =>
  bif decide (0 ≤ x83) && decide (x83 < ((x0_n : Nat) : Int)) then (let v10 := List.set x0 (x0_o + Int.toNat x83) y9.1
  let v11 := IntKind.i64.wrap (x83 + (1 : Int))
  f10 v10 x0_o x0_n x0_g x1 x5 x7 y9.2.1 v6 x82 v11)
  else none)
  else none))
  else none)
  else (bif decide (0 ≤ x5) && decide (x5 < ((x0_n : Nat) : Int)) then (let v12 := List.getD x0 (x0_o + Int.toNat x5) (0 : Int)
  let v13 := IntKind.u32.wrap x10
  (bits_Sub32.F (v12, v13, x9, ())).bind fun y14 =>
  bif decide (0 ≤ x5) && decide (x5 < ((x0_n : Nat) : Int)) then (let v15 := List.set x0 (x0_o + Int.toNat x5) y14.1
  let v16 := (y14.2.1 == (1 : Int))
  bif v16 then (let v17 := IntKind.u64.wrap (x7 - (1 : Int))
  f21 v15 x0_o x0_n x0_g x1 x5 v17 (0 : Int) x5 (0 : Int))
  else (let v18 := IntKind.u32.wrap x7
  bif Nat.blt 0 x0_n && true then (some ((v18, ()), v15, x0_g))
  else none))
  else none)
  else none)
noncomputable def nat_digit.b21 (f4 : Dt41 → Nat → Nat → (Nat × Nat) → Dt41 → Int → Int → Int → Option ((Int × Unit) × List Int × (Nat × Nat))) (f10 : Dt41 → Nat → Nat → (Nat × Nat) → Dt41 → Int → Int → Int → Int → Int → Int → Option ((Int × Unit) × List Int × (Nat × Nat))) (f21 : Dt41 → Nat → Nat → (Nat × Nat) → Dt41 → Int → Int → Int → Int → Int → Option ((Int × Unit) × List Int × (Nat × Nat))) (x0 : Dt41) (x0_o : Nat) (x0_n : Nat) (x0_g : (Nat × Nat)) (x1 : Dt41) (x5 : Int) (x7 : Int) (x13 : Int) (x130 : Int) (x131 : Int) : Option ((Int × Unit) × List Int × (Nat × Nat)) :=
  let v1 := decide (x131 < x130)
  bif v1 then (bif decide (0 ≤ x131) && decide (x131 < ((x0_n : Nat) : Int)) then (let v2 := List.getD x0 (x0_o + Int.toNat x131) (0 : Int)
  bif decide (0 ≤ x131) && decide (x131 < (List.length x1 : Int)) then (let v3 := List.getD x1 (Int.toNat x131) (0 : Int)
  (bits_Add32.F (v2, v3, x13, ())).bind fun y4 =>
  bif decide (0 ≤ x131) && decide (x131 < ((x0_n : Nat) : Int)) then (let v5 := List.set x0 (x0_o + Int.toNat x131) y4.1
  let v6 := IntKind.i64.wrap (x131 + (1 : Int))
  f21 v5 x0_o x0_n x0_g x1 x5 x7 y4.2.1 x130 v6)
  else none)
  else none)
  else none)
  else (bif decide (0 ≤ x5) && decide (x5 < ((x0_n : Nat) : Int)) then (let v7 := List.getD x0 (x0_o + Int.toNat x5) (0 : Int)
  let v8 := IntKind.u32.wrap (v7 + x13)
  bif decide (0 ≤ x5) && decide (x5 < ((x0_n : Nat) : Int)) then (let v9 := List.set x0 (x0_o + Int.toNat x5) v8
  let v10 := IntKind.u32.wrap x7
  bif Nat.blt 0 x0_n && true then (some ((v10, ()), v9, x0_g))
  else none)
  else none)
  else none)
noncomputable def nat_digit.e (f4 : Dt41 → Nat → Nat → (Nat × Nat) → Dt41 → Int → Int → Int → Option ((Int × Unit) × List Int × (Nat × Nat))) (f10 : Dt41 → Nat → Nat → (Nat × Nat) → Dt41 → Int → Int → Int → Int → Int → Int → Option ((Int × Unit) × List Int × (Nat × Nat))) (f21 : Dt41 → Nat → Nat → (Nat × Nat) → Dt41 → Int → Int → Int → Int → Int → Option ((Int × Unit) × List Int × (Nat × Nat))) (zs : List Int) (o n : Nat) (g : Nat × Nat) (a1 : Dt41) : Option ((Int × Unit) × List Int × (Nat × Nat)) :=
  let v1 := (List.length a1 : Int)
  bif decide (0 ≤ v1) && decide (v1 < ((n : Nat) : Int)) then (let v2 := List.getD zs (o + Int.toNat v1) (0 : Int)
  let v3 := IntKind.u64.wrap v2
  bif decide ((32 : Int) < 0) then none
  else (let v4 := shlI .u64 v3 (32 : Int)
  let v5 := IntKind.i64.wrap (v1 - (1 : Int))
  bif decide (0 ≤ v5) && decide (v5 < ((n : Nat) : Int)) then (let v6 := List.getD zs (o + Int.toNat v5) (0 : Int)
  let v7 := IntKind.u64.wrap v6
  let v8 := bitsOp .or .u64 v4 v7
  let v9 := IntKind.i64.wrap (v1 - (1 : Int))
  bif decide (0 ≤ v9) && decide (v9 < (List.length a1 : Int)) then (let v10 := List.getD a1 (Int.toNat v9) (0 : Int)
  let v11 := IntKind.u64.wrap v10
  bif decide (v11 = 0) then none
  else (let v12 := IntKind.u64.wrap (Int.tdiv v8 v11)
  let v13 := IntKind.i64.wrap (v1 - (1 : Int))
  bif decide (0 ≤ v13) && decide (v13 < (List.length a1 : Int)) then (let v14 := List.getD a1 (Int.toNat v13) (0 : Int)
  let v15 := IntKind.u64.wrap v14
  bif decide (v15 = 0) then none
  else (let v16 := Int.tmod v8 v15
  f4 zs o n g a1 v1 v12 v16))
  else none))
  else none)
  else none))
  else none
noncomputable def nat_digit.L4 (k : Nat) (x0 : Dt41) (x0_o : Nat) (x0_n : Nat) (x0_g : (Nat × Nat)) (x1 : Dt41) (x5 : Int) (x7 : Int) (x8 : Int) : Option ((Int × Unit) × List Int × (Nat × Nat)) := heads (nat_digit.spec.env nat_digit.cals T Try.f108) (Func.pts Try.f108) k 4 (nat_digit.m4 x0 x0_o x0_n x0_g x1 x5 x7 x8)
noncomputable def nat_digit.L10 (k : Nat) (x0 : Dt41) (x0_o : Nat) (x0_n : Nat) (x0_g : (Nat × Nat)) (x1 : Dt41) (x5 : Int) (x7 : Int) (x9 : Int) (x10 : Int) (x82 : Int) (x83 : Int) : Option ((Int × Unit) × List Int × (Nat × Nat)) := heads (nat_digit.spec.env nat_digit.cals T Try.f108) (Func.pts Try.f108) k 10 (nat_digit.m10 x0 x0_o x0_n x0_g x1 x5 x7 x9 x10 x82 x83)
noncomputable def nat_digit.L21 (k : Nat) (x0 : Dt41) (x0_o : Nat) (x0_n : Nat) (x0_g : (Nat × Nat)) (x1 : Dt41) (x5 : Int) (x7 : Int) (x13 : Int) (x130 : Int) (x131 : Int) : Option ((Int × Unit) × List Int × (Nat × Nat)) := heads (nat_digit.spec.env nat_digit.cals T Try.f108) (Func.pts Try.f108) k 21 (nat_digit.m21 x0 x0_o x0_n x0_g x1 x5 x7 x13 x130 x131)
theorem nat_digit.L4_succ (k : Nat) (x0 : Dt41) (x0_o : Nat) (x0_n : Nat) (x0_g : (Nat × Nat)) (x1 : Dt41) (x5 : Int) (x7 : Int) (x8 : Int) : nat_digit.L4 (k + 1) x0 x0_o x0_n x0_g x1 x5 x7 x8 = nat_digit.b4 (nat_digit.L4 k) (nat_digit.L10 k) (nat_digit.L21 k) x0 x0_o x0_n x0_g x1 x5 x7 x8 := by kernel_rfl
theorem nat_digit.L10_succ (k : Nat) (x0 : Dt41) (x0_o : Nat) (x0_n : Nat) (x0_g : (Nat × Nat)) (x1 : Dt41) (x5 : Int) (x7 : Int) (x9 : Int) (x10 : Int) (x82 : Int) (x83 : Int) : nat_digit.L10 (k + 1) x0 x0_o x0_n x0_g x1 x5 x7 x9 x10 x82 x83 = nat_digit.b10 (nat_digit.L4 k) (nat_digit.L10 k) (nat_digit.L21 k) x0 x0_o x0_n x0_g x1 x5 x7 x9 x10 x82 x83 := by kernel_rfl
theorem nat_digit.L21_succ (k : Nat) (x0 : Dt41) (x0_o : Nat) (x0_n : Nat) (x0_g : (Nat × Nat)) (x1 : Dt41) (x5 : Int) (x7 : Int) (x13 : Int) (x130 : Int) (x131 : Int) : nat_digit.L21 (k + 1) x0 x0_o x0_n x0_g x1 x5 x7 x13 x130 x131 = nat_digit.b21 (nat_digit.L4 k) (nat_digit.L10 k) (nat_digit.L21 k) x0 x0_o x0_n x0_g x1 x5 x7 x13 x130 x131 := by kernel_rfl
theorem nat_digit.eval (k : Nat) (zs : List Int) (o n : Nat) (g : Nat × Nat) (a1 : Dt41) : evalIO nat_digit.spec nat_digit.cals T Try.f108 k zs o n g (a1, ()) = nat_digit.e (nat_digit.L4 k) (nat_digit.L10 k) (nat_digit.L21 k) zs o n g a1 := by kernel_rfl
theorem nat_digit.of (zs : List Int) (o n : Nat) (a1 : Dt41) (y : (Int × Unit)) (ws : List Int) (h : ∀ g, ∃ k, nat_digit.e (nat_digit.L4 k) (nat_digit.L10 k) (nat_digit.L21 k) zs o n g a1 = some (y, ws, g)) : nat_digit.F zs o n (a1, ()) = some (y, ws) := limIO_of (q := nat_digit.spec) (C := nat_digit.cals) (T := T) (f := Try.f108) (x := (a1, ())) y ws fun g => (h g).imp fun k hk => (nat_digit.eval k zs o n g a1).trans hk

def nat_long.spec : Spec := ⟨[(false, Kt41), (false, Kt41)], [(false, Kt41), (false, Kt41)], .own, fun j => match j with | 7 => [(6, .lf (.v true)), (7, .lf (.z 115 (.int .u32) true)), (8, .lf (.o 115 (.int .u32) true)), (9, .lf (.v true)), (10, .lf (.o 115 (.int .u32) true)), (11, .lf (.v true))] | 12 => [(6, .lf (.v true)), (8, .lf (.o 115 (.int .u32) true)), (10, .lf (.o 115 (.int .u32) true)), (12, .lf (.o 115 (.int .u32) true)), (60, .lf (.v true)), (61, .lf (.v true))] | _ => []⟩
noncomputable def nat_long.cals : Cals := (Cals.withSubs [54] (Cals.consIo 108 nat_digit.sig (Cals.cons 106 bits_LeadingZeros32.sig (Cals.cons 107 nat_moved.sig (Cals.cons 96 nat_own.sig (Cals.base tabs))))))
noncomputable def nat_long.sig : Sig := nat_long.spec.sig nat_long.cals T Try.f99
noncomputable def nat_long.F (x : Dt41 × Dt41 × Unit) : Option (Dt41 × Dt41 × Unit) := limF nat_long.spec nat_long.cals T Try.f99 x
theorem nat_long.ck : CalsOk Try.prog nat_long.cals := (CalsOk.withSubs [54] (CalsOk.consIo nat_digit.cal (CalsOk.cons bits_LeadingZeros32.cal (CalsOk.cons nat_moved.cal (CalsOk.cons nat_own.cal (CalsOk.base tabsOk))))))
theorem nat_long.cal : CalOk Try.prog tabs 99 nat_long.sig := calOk_lim' tabOk nat_long.ck mix Try.func99 (by kernel_rfl) (by kernel_rfl) (by kernel_rfl) (by kernel_rfl)
def nat_long.m7 (x6 : Int) (x7 : Dt41) (x8 : Dt41) (x9 : Int) (x10 : Dt41) (x11 : Int) : S := ⟨[(6, .one (.lf (.val true (.int .i64) x6))), (7, .one (.lf (.val true Kt41 x7))), (8, .one (.lf (.own 0))), (9, .one (.lf (.val true (.int .i64) x9))), (10, .one (.lf (.own 1))), (11, .one (.lf (.val true (.int .i64) x11)))], ⟨[some ⟨115, (.int .u32), true, true, x8⟩, some ⟨115, (.int .u32), true, true, x10⟩], []⟩⟩
def nat_long.m12 (x6 : Int) (x8 : Dt41) (x10 : Dt41) (x12 : Dt41) (x60 : Int) (x61 : Int) : S := ⟨[(6, .one (.lf (.val true (.int .i64) x6))), (8, .one (.lf (.own 0))), (10, .one (.lf (.own 1))), (12, .one (.lf (.own 2))), (60, .one (.lf (.val true (.int .i64) x60))), (61, .one (.lf (.val true (.int .i64) x61)))], ⟨[some ⟨115, (.int .u32), true, true, x8⟩, some ⟨115, (.int .u32), true, true, x10⟩, some ⟨115, (.int .u32), true, true, x12⟩], []⟩⟩
noncomputable def nat_long.b7 (f7 : Int → Dt41 → Dt41 → Int → Dt41 → Int → Option (Dt41 × Dt41 × Unit)) (f12 : Int → Dt41 → Dt41 → Dt41 → Int → Int → Option (Dt41 × Dt41 × Unit)) (x6 : Int) (x7 : Dt41) (x8 : Dt41) (x9 : Int) (x10 : Dt41) (x11 : Int) : Option (Dt41 × Dt41 × Unit) :=
  let v1 := decide (x11 ≥ (0 : Int))
  bif v1 then (let v2 := IntKind.i64.wrap (x11 + x9)
  let v3 := IntKind.i64.wrap (v2 + (1 : Int))
  bif decide (0 ≤ x11) && (decide (x11 ≤ v3) && decide (v3 ≤ (List.length x8 : Int))) then (bif Nat.blt 0 (Int.toNat (v3 - x11)) && true then ((nat_digit.F x8 (Int.toNat x11) (Int.toNat (v3 - x11)) (x7, ())).bind fun y4 =>
  bif Nat.beq (List.length y4.2) (List.length x8) then (bif decide (0 ≤ x11) && decide (x11 < (List.length x10 : Int)) then (let v5 := List.set x10 (Int.toNat x11) y4.1.1
  let v6 := IntKind.i64.wrap (x11 - (1 : Int))
  f7 x6 x7 y4.2 x9 v5 v6)
  else none)
  else none)
  else none)
  else none)
  else (bif decide (0 ≤ x9) && (decide (x9 ≤ x9) && (decide (Int.toNat x9 * 4 ≤ 281474976710656) && Nat.blt 0 4)) then (let v7 := List.replicate (Int.toNat x9) (0 : Int)
  f12 x6 x8 x10 v7 x9 (0 : Int))
  else none)
noncomputable def nat_long.b12 (f7 : Int → Dt41 → Dt41 → Int → Dt41 → Int → Option (Dt41 × Dt41 × Unit)) (f12 : Int → Dt41 → Dt41 → Dt41 → Int → Int → Option (Dt41 × Dt41 × Unit)) (x6 : Int) (x8 : Dt41) (x10 : Dt41) (x12 : Dt41) (x60 : Int) (x61 : Int) : Option (Dt41 × Dt41 × Unit) :=
  let v1 := decide (x61 < x60)
  bif v1 then (bif decide (0 ≤ x61) && decide (x61 < (List.length x8 : Int)) then (let v2 := List.getD x8 (Int.toNat x61) (0 : Int)
  bif decide (x6 < 0) then none
  else (let v3 := shrI .u32 v2 x6
  let v4 := IntKind.i64.wrap (x61 + (1 : Int))
  bif decide (0 ≤ v4) && decide (v4 < (List.length x8 : Int)) then (let v5 := List.getD x8 (Int.toNat v4) (0 : Int)
  let v6 := IntKind.u64.wrap v5
  let v7 := IntKind.i64.wrap ((32 : Int) - x6)
  bif decide (v7 < 0) then none
  else (let v8 := shlI .u64 v6 v7
  let v9 := IntKind.u32.wrap v8
  let v10 := bitsOp .or .u32 v3 v9
  bif decide (0 ≤ x61) && decide (x61 < (List.length x12 : Int)) then (let v11 := List.set x12 (Int.toNat x61) v10
  let v12 := IntKind.i64.wrap (x61 + (1 : Int))
  f12 x6 x8 x10 v11 x60 v12)
  else none))
  else none))
  else none)
  else ((nat_own.F (x10, ())).bind fun y13 =>
  (nat_own.F (x12, ())).bind fun y14 =>
  some (y13.1, y14.1, ()))
noncomputable def nat_long.e (f7 : Int → Dt41 → Dt41 → Int → Dt41 → Int → Option (Dt41 × Dt41 × Unit)) (f12 : Int → Dt41 → Dt41 → Dt41 → Int → Int → Option (Dt41 × Dt41 × Unit)) (a0 : Dt41) (a1 : Dt41) : Option (Dt41 × Dt41 × Unit) :=
  let v1 := (List.length a1 : Int)
  let v2 := IntKind.i64.wrap (v1 - (1 : Int))
  bif decide (0 ≤ v2) && decide (v2 < (List.length a1 : Int)) then (let v3 := List.getD a1 (Int.toNat v2) (0 : Int)
  (bits_LeadingZeros32.F (v3, ())).bind fun y4 =>
  (nat_moved.F (a1, y4.1, ())).bind fun y5 =>
  let v6 := (List.length a1 : Int)
  bif decide (0 ≤ v6) && decide (v6 ≤ (List.length y5.1 : Int)) then (let v7 := List.take (Int.toNat v6) y5.1
  (nat_moved.F (a0, y4.1, ())).bind fun y8 =>
  let v9 := (List.length v7 : Int)
  let v10 := (List.length y8.1 : Int)
  let v11 := IntKind.i64.wrap (v10 - v9)
  bif decide (0 ≤ v11) && (decide (v11 ≤ v11) && (decide (Int.toNat v11 * 4 ≤ 281474976710656) && Nat.blt 0 4)) then (let v12 := List.replicate (Int.toNat v11) (0 : Int)
  let v13 := (List.length y8.1 : Int)
  let v14 := IntKind.i64.wrap (v13 - v9)
  let v15 := IntKind.i64.wrap (v14 - (1 : Int))
  f7 y4.1 v7 y8.1 v9 v12 v15)
  else none)
  else none)
  else none
noncomputable def nat_long.L7 (k : Nat) (x6 : Int) (x7 : Dt41) (x8 : Dt41) (x9 : Int) (x10 : Dt41) (x11 : Int) : Option (Dt41 × Dt41 × Unit) := heads (nat_long.spec.env nat_long.cals T Try.f99) (Func.pts Try.f99) k 7 (nat_long.m7 x6 x7 x8 x9 x10 x11)
noncomputable def nat_long.L12 (k : Nat) (x6 : Int) (x8 : Dt41) (x10 : Dt41) (x12 : Dt41) (x60 : Int) (x61 : Int) : Option (Dt41 × Dt41 × Unit) := heads (nat_long.spec.env nat_long.cals T Try.f99) (Func.pts Try.f99) k 12 (nat_long.m12 x6 x8 x10 x12 x60 x61)
theorem nat_long.L7_succ (k : Nat) (x6 : Int) (x7 : Dt41) (x8 : Dt41) (x9 : Int) (x10 : Dt41) (x11 : Int) : nat_long.L7 (k + 1) x6 x7 x8 x9 x10 x11 = nat_long.b7 (nat_long.L7 k) (nat_long.L12 k) x6 x7 x8 x9 x10 x11 := by kernel_rfl
theorem nat_long.L12_succ (k : Nat) (x6 : Int) (x8 : Dt41) (x10 : Dt41) (x12 : Dt41) (x60 : Int) (x61 : Int) : nat_long.L12 (k + 1) x6 x8 x10 x12 x60 x61 = nat_long.b12 (nat_long.L7 k) (nat_long.L12 k) x6 x8 x10 x12 x60 x61 := by kernel_rfl
theorem nat_long.eval (k : Nat) (a0 : Dt41) (a1 : Dt41) : evalF nat_long.spec nat_long.cals T Try.f99 k (a0, a1, ()) = nat_long.e (nat_long.L7 k) (nat_long.L12 k) a0 a1 := by kernel_rfl
theorem nat_long.F_eq (a0 : Dt41) (a1 : Dt41) : nat_long.F (a0, a1, ()) = limF nat_long.spec nat_long.cals T Try.f99 (a0, a1, ()) := by kernel_rfl
theorem nat_long.of (k : Nat) (a0 : Dt41) (a1 : Dt41) {y : Dt41 × Dt41 × Unit} (h : nat_long.e (nat_long.L7 k) (nat_long.L12 k) a0 a1 = some y) : nat_long.F (a0, a1, ()) = some y := (nat_long.F_eq a0 a1).trans (limF_of (q := nat_long.spec) (C := nat_long.cals) (T := T) (f := Try.f99) (x := (a0, a1, ())) (y := y) k ((nat_long.eval k a0 a1).trans h))

def nat_Div.spec : Spec := ⟨[(false, Kt41), (false, Kt41)], [(false, Kt41), (false, Kt41), (false, (.int .i64))], .own, fun j => match j with  | _ => []⟩
noncomputable def nat_Div.cals : Cals := (Cals.cons 80 nat_trim.sig (Cals.cons 97 nat_Cmp.sig (Cals.cons 96 nat_own.sig (Cals.cons 98 nat_short.sig (Cals.cons 99 nat_long.sig (Cals.base tabs))))))
noncomputable def nat_Div.sig : Sig := nat_Div.spec.sig nat_Div.cals T Try.f83
noncomputable def nat_Div.F (x : Dt41 × Dt41 × Unit) : Option (Dt41 × Dt41 × Int × Unit) := limF nat_Div.spec nat_Div.cals T Try.f83 x
theorem nat_Div.ck : CalsOk Try.prog nat_Div.cals := (CalsOk.cons nat_trim.cal (CalsOk.cons nat_Cmp.cal (CalsOk.cons nat_own.cal (CalsOk.cons nat_short.cal (CalsOk.cons nat_long.cal (CalsOk.base tabsOk))))))
theorem nat_Div.cal : CalOk Try.prog tabs 83 nat_Div.sig := calOk_lim' tabOk nat_Div.ck mix Try.func83 (by kernel_rfl) (by kernel_rfl) (by kernel_rfl) (by kernel_rfl)
noncomputable def nat_Div.e  (a0 : Dt41) (a1 : Dt41) : Option (Dt41 × Dt41 × Int × Unit) :=
  (nat_trim.F (a0, ())).bind fun y1 =>
  (nat_trim.F (a1, ())).bind fun y2 =>
  let v3 := (List.length y2.1 : Int)
  let v4 := (v3 == (0 : Int))
  bif v4 then (some (zt41, zt41, (11 : Int), ()))
  else ((nat_Cmp.F (y1.1, y2.1, ())).bind fun y5 =>
  let v6 := decide (y5.1 < (0 : Int))
  bif v6 then ((nat_own.F (y1.1, ())).bind fun y7 =>
  some (zt41, y7.1, (0 : Int), ()))
  else (let v8 := (List.length y2.1 : Int)
  let v9 := (v8 == (1 : Int))
  bif v9 then (bif decide (0 ≤ (0 : Int)) && decide ((0 : Int) < (List.length y2.1 : Int)) then (let v10 := List.getD y2.1 (Int.toNat (0 : Int)) (0 : Int)
  (nat_short.F (y1.1, v10, ())).bind fun y11 =>
  (nat_own.F (y11.1, ())).bind fun y12 =>
  let v13 := ([y11.2.1] : List Int)
  (nat_own.F (v13, ())).bind fun y14 =>
  some (y12.1, y14.1, (0 : Int), ()))
  else none)
  else ((nat_long.F (y1.1, y2.1, ())).bind fun y15 =>
  some (y15.1, y15.2.1, (0 : Int), ()))))
theorem nat_Div.eval (k : Nat) (a0 : Dt41) (a1 : Dt41) : evalF nat_Div.spec nat_Div.cals T Try.f83 k (a0, a1, ()) = nat_Div.e  a0 a1 := by kernel_rfl
theorem nat_Div.F_eq (a0 : Dt41) (a1 : Dt41) : nat_Div.F (a0, a1, ()) = limF nat_Div.spec nat_Div.cals T Try.f83 (a0, a1, ()) := by kernel_rfl
theorem nat_Div.of (k : Nat) (a0 : Dt41) (a1 : Dt41) {y : Dt41 × Dt41 × Int × Unit} (h : nat_Div.e  a0 a1 = some y) : nat_Div.F (a0, a1, ()) = some y := (nat_Div.F_eq a0 a1).trans (limF_of (q := nat_Div.spec) (C := nat_Div.cals) (T := T) (f := Try.f83) (x := (a0, a1, ())) (y := y) k ((nat_Div.eval k a0 a1).trans h))

def nat_Gcd.spec : Spec := ⟨[(false, Kt41), (false, Kt41)], [(false, Kt41)], .own, fun j => match j with | 2 => [(0, .lf (.o 115 (.int .u32) true)), (1, .lf (.o 115 (.int .u32) true))] | _ => []⟩
noncomputable def nat_Gcd.cals : Cals := (Cals.cons 96 nat_own.sig (Cals.cons 83 nat_Div.sig (Cals.base tabs)))
noncomputable def nat_Gcd.sig : Sig := nat_Gcd.spec.sig nat_Gcd.cals T Try.f82
noncomputable def nat_Gcd.F (x : Dt41 × Dt41 × Unit) : Option (Dt41 × Unit) := limF nat_Gcd.spec nat_Gcd.cals T Try.f82 x
theorem nat_Gcd.ck : CalsOk Try.prog nat_Gcd.cals := (CalsOk.cons nat_own.cal (CalsOk.cons nat_Div.cal (CalsOk.base tabsOk)))
theorem nat_Gcd.cal : CalOk Try.prog tabs 82 nat_Gcd.sig := calOk_lim' tabOk nat_Gcd.ck mix Try.func82 (by kernel_rfl) (by kernel_rfl) (by kernel_rfl) (by kernel_rfl)
def nat_Gcd.m2 (x0 : Dt41) (x1 : Dt41) : S := ⟨[(0, .one (.lf (.own 0))), (1, .one (.lf (.own 1)))], ⟨[some ⟨115, (.int .u32), true, true, x0⟩, some ⟨115, (.int .u32), true, true, x1⟩], []⟩⟩
noncomputable def nat_Gcd.b2 (f2 : Dt41 → Dt41 → Option (Dt41 × Unit)) (x0 : Dt41) (x1 : Dt41) : Option (Dt41 × Unit) :=
  let v1 := (List.length x1 : Int)
  let v2 := decide (v1 > (0 : Int))
  bif v2 then ((nat_Div.F (x0, x1, ())).bind fun y3 =>
  f2 x1 y3.2.1)
  else (some (x0, ()))
noncomputable def nat_Gcd.e (f2 : Dt41 → Dt41 → Option (Dt41 × Unit)) (a0 : Dt41) (a1 : Dt41) : Option (Dt41 × Unit) :=
  (nat_own.F (a0, ())).bind fun y1 =>
  (nat_own.F (a1, ())).bind fun y2 =>
  f2 y1.1 y2.1
noncomputable def nat_Gcd.L2 (k : Nat) (x0 : Dt41) (x1 : Dt41) : Option (Dt41 × Unit) := heads (nat_Gcd.spec.env nat_Gcd.cals T Try.f82) (Func.pts Try.f82) k 2 (nat_Gcd.m2 x0 x1)
theorem nat_Gcd.L2_succ (k : Nat) (x0 : Dt41) (x1 : Dt41) : nat_Gcd.L2 (k + 1) x0 x1 = nat_Gcd.b2 (nat_Gcd.L2 k) x0 x1 := by kernel_rfl
theorem nat_Gcd.eval (k : Nat) (a0 : Dt41) (a1 : Dt41) : evalF nat_Gcd.spec nat_Gcd.cals T Try.f82 k (a0, a1, ()) = nat_Gcd.e (nat_Gcd.L2 k) a0 a1 := by kernel_rfl
theorem nat_Gcd.F_eq (a0 : Dt41) (a1 : Dt41) : nat_Gcd.F (a0, a1, ()) = limF nat_Gcd.spec nat_Gcd.cals T Try.f82 (a0, a1, ()) := by kernel_rfl
theorem nat_Gcd.of (k : Nat) (a0 : Dt41) (a1 : Dt41) {y : Dt41 × Unit} (h : nat_Gcd.e (nat_Gcd.L2 k) a0 a1 = some y) : nat_Gcd.F (a0, a1, ()) = some y := (nat_Gcd.F_eq a0 a1).trans (limF_of (q := nat_Gcd.spec) (C := nat_Gcd.cals) (T := T) (f := Try.f82) (x := (a0, a1, ())) (y := y) k ((nat_Gcd.eval k a0 a1).trans h))

def whole_core.spec : Spec := ⟨[(false, Kt41)], [(false, Kt41)], .shared, fun j => match j with | 2 => [(0, .lf (.z 115 (.int .u32) true)), (3, .lf (.v true))] | _ => []⟩
noncomputable def whole_core.cals : Cals := (Cals.base tabs)
noncomputable def whole_core.sig : Sig := whole_core.spec.sig whole_core.cals T Try.f100
noncomputable def whole_core.F (x : Dt41 × Unit) : Option (Dt41 × Unit) := limF whole_core.spec whole_core.cals T Try.f100 x
theorem whole_core.ck : CalsOk Try.prog whole_core.cals := (CalsOk.base tabsOk)
theorem whole_core.cal : CalOk Try.prog tabs 100 whole_core.sig := calOk_lim' tabOk whole_core.ck mix Try.func100 (by kernel_rfl) (by kernel_rfl) (by kernel_rfl) (by kernel_rfl)
def whole_core.m2 (x0 : Dt41) (x3 : Int) : S := ⟨[(0, .one (.lf (.val true Kt41 x0))), (3, .one (.lf (.val true (.int .i64) x3)))], ⟨[], []⟩⟩
noncomputable def whole_core.b2 (f2 : Dt41 → Int → Option (Dt41 × Unit)) (x0 : Dt41) (x3 : Int) : Option (Dt41 × Unit) :=
  let v1 := decide (x3 > (0 : Int))
  bif v1 then (let v2 := IntKind.i64.wrap (x3 - (1 : Int))
  bif decide (0 ≤ v2) && decide (v2 < (List.length x0 : Int)) then (let v3 := List.getD x0 (Int.toNat v2) (0 : Int)
  let v4 := (v3 == (0 : Int))
  bif v4 then (let v5 := IntKind.i64.wrap (x3 - (1 : Int))
  f2 x0 v5)
  else (bif decide (0 ≤ x3) && (decide (x3 ≤ x3) && decide (x3 ≤ (List.length x0 : Int))) then (let v6 := List.take (Int.toNat x3) x0
  some (v6, ()))
  else none))
  else none)
  else (bif decide (0 ≤ x3) && (decide (x3 ≤ x3) && decide (x3 ≤ (List.length x0 : Int))) then (let v7 := List.take (Int.toNat x3) x0
  some (v7, ()))
  else none)
noncomputable def whole_core.e (f2 : Dt41 → Int → Option (Dt41 × Unit)) (a0 : Dt41) : Option (Dt41 × Unit) :=
  let v1 := (List.length a0 : Int)
  f2 a0 v1
noncomputable def whole_core.L2 (k : Nat) (x0 : Dt41) (x3 : Int) : Option (Dt41 × Unit) := heads (whole_core.spec.env whole_core.cals T Try.f100) (Func.pts Try.f100) k 2 (whole_core.m2 x0 x3)
theorem whole_core.L2_succ (k : Nat) (x0 : Dt41) (x3 : Int) : whole_core.L2 (k + 1) x0 x3 = whole_core.b2 (whole_core.L2 k) x0 x3 := by kernel_rfl
theorem whole_core.eval (k : Nat) (a0 : Dt41) : evalF whole_core.spec whole_core.cals T Try.f100 k (a0, ()) = whole_core.e (whole_core.L2 k) a0 := by kernel_rfl
theorem whole_core.F_eq (a0 : Dt41) : whole_core.F (a0, ()) = limF whole_core.spec whole_core.cals T Try.f100 (a0, ()) := by kernel_rfl
theorem whole_core.of (k : Nat) (a0 : Dt41) {y : Dt41 × Unit} (h : whole_core.e (whole_core.L2 k) a0 = some y) : whole_core.F (a0, ()) = some y := (whole_core.F_eq a0).trans (limF_of (q := whole_core.spec) (C := whole_core.cals) (T := T) (f := Try.f100) (x := (a0, ())) (y := y) k ((whole_core.eval k a0).trans h))

def whole_Sign.spec : Spec := ⟨[(true, Kt43)], [(false, (.int .i64))], .own, fun j => match j with  | _ => []⟩
noncomputable def whole_Sign.cals : Cals := (Cals.cons 100 whole_core.sig (Cals.base tabs))
noncomputable def whole_Sign.sig : Sig := whole_Sign.spec.sig whole_Sign.cals T Try.f85
noncomputable def whole_Sign.F (x : Dt43 × Unit) : Option (Int × Unit) := limF whole_Sign.spec whole_Sign.cals T Try.f85 x
theorem whole_Sign.ck : CalsOk Try.prog whole_Sign.cals := (CalsOk.cons whole_core.cal (CalsOk.base tabsOk))
theorem whole_Sign.cal : CalOk Try.prog tabs 85 whole_Sign.sig := calOk_lim' tabOk whole_Sign.ck mix Try.func85 (by kernel_rfl) (by kernel_rfl) (by kernel_rfl) (by kernel_rfl)
noncomputable def whole_Sign.e  (a0 : Dt43) : Option (Int × Unit) :=
  (whole_core.F (a0.2, ())).bind fun y1 =>
  let v2 := (List.length y1.1 : Int)
  let v3 := (v2 == (0 : Int))
  bif v3 then (some ((0 : Int), ()))
  else (bif a0.1 then (some ((-1 : Int), ()))
  else (some ((1 : Int), ())))
theorem whole_Sign.eval (k : Nat) (a0 : Dt43) : evalF whole_Sign.spec whole_Sign.cals T Try.f85 k (a0, ()) = whole_Sign.e  a0 := by kernel_rfl
theorem whole_Sign.F_eq (a0 : Dt43) : whole_Sign.F (a0, ()) = limF whole_Sign.spec whole_Sign.cals T Try.f85 (a0, ()) := by kernel_rfl
theorem whole_Sign.of (k : Nat) (a0 : Dt43) {y : Int × Unit} (h : whole_Sign.e  a0 = some y) : whole_Sign.F (a0, ()) = some y := (whole_Sign.F_eq a0).trans (limF_of (q := whole_Sign.spec) (C := whole_Sign.cals) (T := T) (f := Try.f85) (x := (a0, ())) (y := y) k ((whole_Sign.eval k a0).trans h))

def nat_Norm.spec : Spec := ⟨[(false, Kt41)], [(false, Kt41)], .own, fun j => match j with  | _ => []⟩
noncomputable def nat_Norm.cals : Cals := (Cals.cons 96 nat_own.sig (Cals.base tabs))
noncomputable def nat_Norm.sig : Sig := nat_Norm.spec.sig nat_Norm.cals T Try.f103
noncomputable def nat_Norm.F (x : Dt41 × Unit) : Option (Dt41 × Unit) := limF nat_Norm.spec nat_Norm.cals T Try.f103 x
theorem nat_Norm.ck : CalsOk Try.prog nat_Norm.cals := (CalsOk.cons nat_own.cal (CalsOk.base tabsOk))
theorem nat_Norm.cal : CalOk Try.prog tabs 103 nat_Norm.sig := calOk_lim' tabOk nat_Norm.ck mix Try.func103 (by kernel_rfl) (by kernel_rfl) (by kernel_rfl) (by kernel_rfl)
noncomputable def nat_Norm.e  (a0 : Dt41) : Option (Dt41 × Unit) :=
  (nat_own.F (a0, ())).bind fun y1 =>
  some (y1.1, ())
theorem nat_Norm.eval (k : Nat) (a0 : Dt41) : evalF nat_Norm.spec nat_Norm.cals T Try.f103 k (a0, ()) = nat_Norm.e  a0 := by kernel_rfl
theorem nat_Norm.F_eq (a0 : Dt41) : nat_Norm.F (a0, ()) = limF nat_Norm.spec nat_Norm.cals T Try.f103 (a0, ()) := by kernel_rfl
theorem nat_Norm.of (k : Nat) (a0 : Dt41) {y : Dt41 × Unit} (h : nat_Norm.e  a0 = some y) : nat_Norm.F (a0, ()) = some y := (nat_Norm.F_eq a0).trans (limF_of (q := nat_Norm.spec) (C := nat_Norm.cals) (T := T) (f := Try.f103) (x := (a0, ())) (y := y) k ((nat_Norm.eval k a0).trans h))

def whole_signed.spec : Spec := ⟨[(false, Kt41), (false, Kt144)], [(true, Kt43)], .own, fun j => match j with | 4 => [(0, .lf (.o 115 (.int .u32) true)), (4, .box 43 [.v true, .v true]), (5, .lf (.v true)), (10, .lf (.z 3 (.int .i64) false)), (11, .lf (.v true)), (12, .lf (.v true))] | _ => []⟩
noncomputable def whole_signed.cals : Cals := (Cals.cons 103 nat_Norm.sig (Cals.base tabs))
noncomputable def whole_signed.sig : Sig := whole_signed.spec.sig whole_signed.cals T Try.f87
noncomputable def whole_signed.F (x : Dt41 × Dt41 × Unit) : Option (Dt43 × Unit) := limF whole_signed.spec whole_signed.cals T Try.f87 x
theorem whole_signed.ck : CalsOk Try.prog whole_signed.cals := (CalsOk.cons nat_Norm.cal (CalsOk.base tabsOk))
theorem whole_signed.cal : CalOk Try.prog tabs 87 whole_signed.sig := calOk_lim' tabOk whole_signed.ck mix Try.func87 (by kernel_rfl) (by kernel_rfl) (by kernel_rfl) (by kernel_rfl)
def whole_signed.m4 (x0 : Dt41) (x4_0 : Bool) (x5 : Int) (x10 : Dt41) (x11 : Int) (x12 : Int) : S := ⟨[(0, .one (.lf (.own 0))), (4, .box 0 0), (5, .one (.lf (.val true (.int .i64) x5))), (10, .one (.lf (.val false Kt144 x10))), (11, .one (.lf (.val true (.int .i64) x11))), (12, .one (.lf (.val true (.int .i64) x12)))], ⟨[some ⟨115, (.int .u32), true, true, x0⟩], [some ⟨43, [.val true .bool x4_0, .nil]⟩]⟩⟩
noncomputable def whole_signed.b4 (f4 : Dt41 → Bool → Int → Dt41 → Int → Int → Option (Dt43 × Unit)) (x0 : Dt41) (x4_0 : Bool) (x5 : Int) (x10 : Dt41) (x11 : Int) (x12 : Int) : Option (Dt43 × Unit) :=
  let v1 := decide (x12 < x11)
  bif v1 then (bif decide (0 ≤ x12) && decide (x12 < (List.length x10 : Int)) then (let v2 := List.getD x10 (Int.toNat x12) (0 : Int)
  let v3 := IntKind.i64.wrap (x5 * v2)
  let v4 := IntKind.i64.wrap (x12 + (1 : Int))
  f4 x0 x4_0 v3 x10 x11 v4)
  else none)
  else (let v5 := decide (x5 < (0 : Int))
  bif v5 then (let v6 := (List.length x0 : Int)
  let v7 := decide (v6 > (0 : Int))
  some ((v7, x0), ()))
  else (some ((false, x0), ())))
noncomputable def whole_signed.e (f4 : Dt41 → Bool → Int → Dt41 → Int → Int → Option (Dt43 × Unit)) (a0 : Dt41) (a1 : Dt41) : Option (Dt43 × Unit) :=
  (nat_Norm.F (a0, ())).bind fun y1 =>
  let v2 := (List.length a1 : Int)
  f4 y1.1 false (1 : Int) a1 v2 (0 : Int)
noncomputable def whole_signed.L4 (k : Nat) (x0 : Dt41) (x4_0 : Bool) (x5 : Int) (x10 : Dt41) (x11 : Int) (x12 : Int) : Option (Dt43 × Unit) := heads (whole_signed.spec.env whole_signed.cals T Try.f87) (Func.pts Try.f87) k 4 (whole_signed.m4 x0 x4_0 x5 x10 x11 x12)
theorem whole_signed.L4_succ (k : Nat) (x0 : Dt41) (x4_0 : Bool) (x5 : Int) (x10 : Dt41) (x11 : Int) (x12 : Int) : whole_signed.L4 (k + 1) x0 x4_0 x5 x10 x11 x12 = whole_signed.b4 (whole_signed.L4 k) x0 x4_0 x5 x10 x11 x12 := by kernel_rfl
theorem whole_signed.eval (k : Nat) (a0 : Dt41) (a1 : Dt41) : evalF whole_signed.spec whole_signed.cals T Try.f87 k (a0, a1, ()) = whole_signed.e (whole_signed.L4 k) a0 a1 := by kernel_rfl
theorem whole_signed.F_eq (a0 : Dt41) (a1 : Dt41) : whole_signed.F (a0, a1, ()) = limF whole_signed.spec whole_signed.cals T Try.f87 (a0, a1, ()) := by kernel_rfl
theorem whole_signed.of (k : Nat) (a0 : Dt41) (a1 : Dt41) {y : Dt43 × Unit} (h : whole_signed.e (whole_signed.L4 k) a0 a1 = some y) : whole_signed.F (a0, a1, ()) = some y := (whole_signed.F_eq a0 a1).trans (limF_of (q := whole_signed.spec) (C := whole_signed.cals) (T := T) (f := Try.f87) (x := (a0, a1, ())) (y := y) k ((whole_signed.eval k a0 a1).trans h))

def whole_Norm.spec : Spec := ⟨[(true, Kt43)], [(true, Kt43)], .own, fun j => match j with  | _ => []⟩
noncomputable def whole_Norm.cals : Cals := (Cals.cons 85 whole_Sign.sig (Cals.cons 87 whole_signed.sig (Cals.base tabs)))
noncomputable def whole_Norm.sig : Sig := whole_Norm.spec.sig whole_Norm.cals T Try.f84
noncomputable def whole_Norm.F (x : Dt43 × Unit) : Option (Dt43 × Unit) := limF whole_Norm.spec whole_Norm.cals T Try.f84 x
theorem whole_Norm.ck : CalsOk Try.prog whole_Norm.cals := (CalsOk.cons whole_Sign.cal (CalsOk.cons whole_signed.cal (CalsOk.base tabsOk)))
theorem whole_Norm.cal : CalOk Try.prog tabs 84 whole_Norm.sig := calOk_lim' tabOk whole_Norm.ck mix Try.func84 (by kernel_rfl) (by kernel_rfl) (by kernel_rfl) (by kernel_rfl)
noncomputable def whole_Norm.e  (a0 : Dt43) : Option (Dt43 × Unit) :=
  (whole_Sign.F ((a0.1, a0.2), ())).bind fun y1 =>
  let v2 := ([y1.1] : List Int)
  (whole_signed.F (a0.2, v2, ())).bind fun y3 =>
  some ((y3.1.1, y3.1.2), ())
theorem whole_Norm.eval (k : Nat) (a0 : Dt43) : evalF whole_Norm.spec whole_Norm.cals T Try.f84 k (a0, ()) = whole_Norm.e  a0 := by kernel_rfl
theorem whole_Norm.F_eq (a0 : Dt43) : whole_Norm.F (a0, ()) = limF whole_Norm.spec whole_Norm.cals T Try.f84 (a0, ()) := by kernel_rfl
theorem whole_Norm.of (k : Nat) (a0 : Dt43) {y : Dt43 × Unit} (h : whole_Norm.e  a0 = some y) : whole_Norm.F (a0, ()) = some y := (whole_Norm.F_eq a0).trans (limF_of (q := whole_Norm.spec) (C := whole_Norm.cals) (T := T) (f := Try.f84) (x := (a0, ())) (y := y) k ((whole_Norm.eval k a0).trans h))

def ratio_made.spec : Spec := ⟨[(true, Kt43), (false, Kt41)], [(true, Kt45)], .own, fun j => match j with  | _ => []⟩
noncomputable def ratio_made.cals : Cals := (Cals.cons 82 nat_Gcd.sig (Cals.cons 83 nat_Div.sig (Cals.cons 84 whole_Norm.sig (Cals.base tabs))))
noncomputable def ratio_made.sig : Sig := ratio_made.spec.sig ratio_made.cals T Try.f68
noncomputable def ratio_made.F (x : Dt43 × Dt41 × Unit) : Option (Dt45 × Unit) := limF ratio_made.spec ratio_made.cals T Try.f68 x
theorem ratio_made.ck : CalsOk Try.prog ratio_made.cals := (CalsOk.cons nat_Gcd.cal (CalsOk.cons nat_Div.cal (CalsOk.cons whole_Norm.cal (CalsOk.base tabsOk))))
theorem ratio_made.cal : CalOk Try.prog tabs 68 ratio_made.sig := calOk_lim' tabOk ratio_made.ck mix Try.func68 (by kernel_rfl) (by kernel_rfl) (by kernel_rfl) (by kernel_rfl)
noncomputable def ratio_made.e  (a0 : Dt43) (a1 : Dt41) : Option (Dt45 × Unit) :=
  (nat_Gcd.F (a0.2, a1, ())).bind fun y1 =>
  (nat_Div.F (a0.2, y1.1, ())).bind fun y2 =>
  (nat_Div.F (a1, y1.1, ())).bind fun y3 =>
  (whole_Norm.F ((a0.1, y2.1), ())).bind fun y4 =>
  some (((y4.1.1, y4.1.2), y3.1), ())
theorem ratio_made.eval (k : Nat) (a0 : Dt43) (a1 : Dt41) : evalF ratio_made.spec ratio_made.cals T Try.f68 k (a0, a1, ()) = ratio_made.e  a0 a1 := by kernel_rfl
theorem ratio_made.F_eq (a0 : Dt43) (a1 : Dt41) : ratio_made.F (a0, a1, ()) = limF ratio_made.spec ratio_made.cals T Try.f68 (a0, a1, ()) := by kernel_rfl
theorem ratio_made.of (k : Nat) (a0 : Dt43) (a1 : Dt41) {y : Dt45 × Unit} (h : ratio_made.e  a0 a1 = some y) : ratio_made.F (a0, a1, ()) = some y := (ratio_made.F_eq a0 a1).trans (limF_of (q := ratio_made.spec) (C := ratio_made.cals) (T := T) (f := Try.f68) (x := (a0, a1, ())) (y := y) k ((ratio_made.eval k a0 a1).trans h))

def ratio_Norm.spec : Spec := ⟨[(true, Kt45)], [(true, Kt45)], .own, fun j => match j with  | _ => []⟩
noncomputable def ratio_Norm.cals : Cals := (Cals.cons 67 nat_Bits.sig (Cals.cons 68 ratio_made.sig (Cals.base tabs)))
noncomputable def ratio_Norm.sig : Sig := ratio_Norm.spec.sig ratio_Norm.cals T Try.f56
noncomputable def ratio_Norm.F (x : Dt45 × Unit) : Option (Dt45 × Unit) := limF ratio_Norm.spec ratio_Norm.cals T Try.f56 x
theorem ratio_Norm.ck : CalsOk Try.prog ratio_Norm.cals := (CalsOk.cons nat_Bits.cal (CalsOk.cons ratio_made.cal (CalsOk.base tabsOk)))
theorem ratio_Norm.cal : CalOk Try.prog tabs 56 ratio_Norm.sig := calOk_lim' tabOk ratio_Norm.ck mix Try.func56 (by kernel_rfl) (by kernel_rfl) (by kernel_rfl) (by kernel_rfl)
noncomputable def ratio_Norm.e  (a0 : Dt45) : Option (Dt45 × Unit) :=
  (nat_Bits.F (a0.2, ())).bind fun y1 =>
  let v2 := (y1.1 == (0 : Int))
  bif v2 then (let v3 := ([(1 : Int)] : List Int)
  some ((zt43, v3), ()))
  else ((ratio_made.F ((a0.1.1, a0.1.2), a0.2, ())).bind fun y4 =>
  some (((y4.1.1.1, y4.1.1.2), y4.1.2), ()))
theorem ratio_Norm.eval (k : Nat) (a0 : Dt45) : evalF ratio_Norm.spec ratio_Norm.cals T Try.f56 k (a0, ()) = ratio_Norm.e  a0 := by kernel_rfl
theorem ratio_Norm.F_eq (a0 : Dt45) : ratio_Norm.F (a0, ()) = limF ratio_Norm.spec ratio_Norm.cals T Try.f56 (a0, ()) := by kernel_rfl
theorem ratio_Norm.of (k : Nat) (a0 : Dt45) {y : Dt45 × Unit} (h : ratio_Norm.e  a0 = some y) : ratio_Norm.F (a0, ()) = some y := (ratio_Norm.F_eq a0).trans (limF_of (q := ratio_Norm.spec) (C := ratio_Norm.cals) (T := T) (f := Try.f56) (x := (a0, ())) (y := y) k ((ratio_Norm.eval k a0).trans h))

def delta_Norm.spec : Spec := ⟨[(true, Kt47)], [(true, Kt47)], .own, fun j => match j with  | _ => []⟩
noncomputable def delta_Norm.cals : Cals := (Cals.cons 56 ratio_Norm.sig (Cals.base tabs))
noncomputable def delta_Norm.sig : Sig := delta_Norm.spec.sig delta_Norm.cals T Try.f40
noncomputable def delta_Norm.F (x : Dt47 × Unit) : Option (Dt47 × Unit) := limF delta_Norm.spec delta_Norm.cals T Try.f40 x
theorem delta_Norm.ck : CalsOk Try.prog delta_Norm.cals := (CalsOk.cons ratio_Norm.cal (CalsOk.base tabsOk))
theorem delta_Norm.cal : CalOk Try.prog tabs 40 delta_Norm.sig := calOk_lim' tabOk delta_Norm.ck mix Try.func40 (by kernel_rfl) (by kernel_rfl) (by kernel_rfl) (by kernel_rfl)
noncomputable def delta_Norm.e  (a0 : Dt47) : Option (Dt47 × Unit) :=
  (ratio_Norm.F (((a0.1.1.1, a0.1.1.2), a0.1.2), ())).bind fun y1 =>
  (ratio_Norm.F (((a0.2.1.1, a0.2.1.2), a0.2.2), ())).bind fun y2 =>
  some ((((y1.1.1.1, y1.1.1.2), y1.1.2), ((y2.1.1.1, y2.1.1.2), y2.1.2)), ())
theorem delta_Norm.eval (k : Nat) (a0 : Dt47) : evalF delta_Norm.spec delta_Norm.cals T Try.f40 k (a0, ()) = delta_Norm.e  a0 := by kernel_rfl
theorem delta_Norm.F_eq (a0 : Dt47) : delta_Norm.F (a0, ()) = limF delta_Norm.spec delta_Norm.cals T Try.f40 (a0, ()) := by kernel_rfl
theorem delta_Norm.of (k : Nat) (a0 : Dt47) {y : Dt47 × Unit} (h : delta_Norm.e  a0 = some y) : delta_Norm.F (a0, ()) = some y := (delta_Norm.F_eq a0).trans (limF_of (q := delta_Norm.spec) (C := delta_Norm.cals) (T := T) (f := Try.f40) (x := (a0, ())) (y := y) k ((delta_Norm.eval k a0).trans h))

def bounds_copied.spec : Spec := ⟨[(true, Kt53)], [(true, Kt53)], .own, fun j => match j with  | _ => []⟩
noncomputable def bounds_copied.cals : Cals := (Cals.cons 40 delta_Norm.sig (Cals.base tabs))
noncomputable def bounds_copied.sig : Sig := bounds_copied.spec.sig bounds_copied.cals T Try.f57
noncomputable def bounds_copied.F (x : Dt53 × Unit) : Option (Dt53 × Unit) := limF bounds_copied.spec bounds_copied.cals T Try.f57 x
theorem bounds_copied.ck : CalsOk Try.prog bounds_copied.cals := (CalsOk.cons delta_Norm.cal (CalsOk.base tabsOk))
theorem bounds_copied.cal : CalOk Try.prog tabs 57 bounds_copied.sig := calOk_lim' tabOk bounds_copied.ck mix Try.func57 (by kernel_rfl) (by kernel_rfl) (by kernel_rfl) (by kernel_rfl)
noncomputable def bounds_copied.e  (a0 : Dt53) : Option (Dt53 × Unit) :=
  let v1 := not a0.1
  bif v1 then (some (zt53, ()))
  else ((delta_Norm.F ((((a0.2.1.1.1.1, a0.2.1.1.1.2), a0.2.1.1.2), ((a0.2.1.2.1.1, a0.2.1.2.1.2), a0.2.1.2.2)), ())).bind fun y2 =>
  some ((true, ((((y2.1.1.1.1, y2.1.1.1.2), y2.1.1.2), ((y2.1.2.1.1, y2.1.2.1.2), y2.1.2.2)), a0.2.2)), ()))
theorem bounds_copied.eval (k : Nat) (a0 : Dt53) : evalF bounds_copied.spec bounds_copied.cals T Try.f57 k (a0, ()) = bounds_copied.e  a0 := by kernel_rfl
theorem bounds_copied.F_eq (a0 : Dt53) : bounds_copied.F (a0, ()) = limF bounds_copied.spec bounds_copied.cals T Try.f57 (a0, ()) := by kernel_rfl
theorem bounds_copied.of (k : Nat) (a0 : Dt53) {y : Dt53 × Unit} (h : bounds_copied.e  a0 = some y) : bounds_copied.F (a0, ()) = some y := (bounds_copied.F_eq a0).trans (limF_of (q := bounds_copied.spec) (C := bounds_copied.cals) (T := T) (f := Try.f57) (x := (a0, ())) (y := y) k ((bounds_copied.eval k a0).trans h))

def bounds_copiedLimit.spec : Spec := ⟨[(true, Kt55)], [(true, Kt55)], .own, fun j => match j with  | _ => []⟩
noncomputable def bounds_copiedLimit.cals : Cals := (Cals.cons 57 bounds_copied.sig (Cals.base tabs))
noncomputable def bounds_copiedLimit.sig : Sig := bounds_copiedLimit.spec.sig bounds_copiedLimit.cals T Try.f44
noncomputable def bounds_copiedLimit.F (x : Dt55 × Unit) : Option (Dt55 × Unit) := limF bounds_copiedLimit.spec bounds_copiedLimit.cals T Try.f44 x
theorem bounds_copiedLimit.ck : CalsOk Try.prog bounds_copiedLimit.cals := (CalsOk.cons bounds_copied.cal (CalsOk.base tabsOk))
theorem bounds_copiedLimit.cal : CalOk Try.prog tabs 44 bounds_copiedLimit.sig := calOk_lim' tabOk bounds_copiedLimit.ck mix Try.func44 (by kernel_rfl) (by kernel_rfl) (by kernel_rfl) (by kernel_rfl)
noncomputable def bounds_copiedLimit.e  (a0 : Dt55) : Option (Dt55 × Unit) :=
  (bounds_copied.F ((a0.1.1, ((((a0.1.2.1.1.1.1, a0.1.2.1.1.1.2), a0.1.2.1.1.2), ((a0.1.2.1.2.1.1, a0.1.2.1.2.1.2), a0.1.2.1.2.2)), a0.1.2.2)), ())).bind fun y1 =>
  (bounds_copied.F ((a0.2.1, ((((a0.2.2.1.1.1.1, a0.2.2.1.1.1.2), a0.2.2.1.1.2), ((a0.2.2.1.2.1.1, a0.2.2.1.2.1.2), a0.2.2.1.2.2)), a0.2.2.2)), ())).bind fun y2 =>
  some (((y1.1.1, ((((y1.1.2.1.1.1.1, y1.1.2.1.1.1.2), y1.1.2.1.1.2), ((y1.1.2.1.2.1.1, y1.1.2.1.2.1.2), y1.1.2.1.2.2)), y1.1.2.2)), (y2.1.1, ((((y2.1.2.1.1.1.1, y2.1.2.1.1.1.2), y2.1.2.1.1.2), ((y2.1.2.1.2.1.1, y2.1.2.1.2.1.2), y2.1.2.1.2.2)), y2.1.2.2))), ())
theorem bounds_copiedLimit.eval (k : Nat) (a0 : Dt55) : evalF bounds_copiedLimit.spec bounds_copiedLimit.cals T Try.f44 k (a0, ()) = bounds_copiedLimit.e  a0 := by kernel_rfl
theorem bounds_copiedLimit.F_eq (a0 : Dt55) : bounds_copiedLimit.F (a0, ()) = limF bounds_copiedLimit.spec bounds_copiedLimit.cals T Try.f44 (a0, ()) := by kernel_rfl
theorem bounds_copiedLimit.of (k : Nat) (a0 : Dt55) {y : Dt55 × Unit} (h : bounds_copiedLimit.e  a0 = some y) : bounds_copiedLimit.F (a0, ()) = some y := (bounds_copiedLimit.F_eq a0).trans (limF_of (q := bounds_copiedLimit.spec) (C := bounds_copiedLimit.cals) (T := T) (f := Try.f44) (x := (a0, ())) (y := y) k ((bounds_copiedLimit.eval k a0).trans h))

def bounds_Store_Limit.spec : XSpec := ⟨some ⟨75, 0, Kt75, 0⟩, false, [(false, (.int .i64))], false, none, [(true, Kt55), (false, (.int .i64))], false, fun j => match j with  | _ => []⟩
noncomputable def bounds_Store_Limit.cals : Cals := (Cals.consX 37 false bounds_Store_wrong.sig (Cals.cons 44 bounds_copiedLimit.sig (Cals.base tabs)))
noncomputable def bounds_Store_Limit.sig : XSig := bounds_Store_Limit.spec.sig bounds_Store_Limit.cals T Try.f25
noncomputable def bounds_Store_Limit.F (d : Dt75) (x : Int × Unit) : Option (Unit × (Dt55 × Int × Unit) × Dt75) := limX bounds_Store_Limit.spec bounds_Store_Limit.cals T Try.f25 d x
theorem bounds_Store_Limit.ck : CalsOk Try.prog bounds_Store_Limit.cals := (CalsOk.consX bounds_Store_wrong.cal (CalsOk.cons bounds_copiedLimit.cal (CalsOk.base tabsOk)))
theorem bounds_Store_Limit.cal : XOk Try.prog tabs 25 bounds_Store_Limit.sig := xok_of tabOk bounds_Store_Limit.ck mix Try.func25 (by kernel_rfl) (by kernel_rfl) (by kernel_rfl) (by kernel_rfl)
noncomputable def bounds_Store_Limit.e  (G : Gh) (d : Dt75) (a0 : Int) : Option ((Unit × (Dt55 × Int × Unit) × Dt75) × Nat × List Value) :=
  (bounds_Store_wrong.F ((d.1.1, d.1.2), (d.2.1, d.2.2)) (a0, ())).bind fun y1 =>
  let v2 := (y1.2.1.1 != (0 : Int))
  bif v2 then (some (((), (zt55, y1.2.1.1, ()), ((y1.2.2.1.1, y1.2.2.1.2), (y1.2.2.2.1, y1.2.2.2.2))), G.b, []))
  else (bif decide (0 ≤ a0) && decide (a0 < (List.length y1.2.2.2.2 : Int)) then (let v3 := ((List.getD y1.2.2.2.2 (Int.toNat a0) zt55).1).1
  let v4 := ((((((List.getD y1.2.2.2.2 (Int.toNat a0) zt55).1).2).1).1).1).1
  let v5 := ((((((List.getD y1.2.2.2.2 (Int.toNat a0) zt55).1).2).1).1).1).2
  let v6 := (((((List.getD y1.2.2.2.2 (Int.toNat a0) zt55).1).2).1).1).2
  let v7 := ((((((List.getD y1.2.2.2.2 (Int.toNat a0) zt55).1).2).1).2).1).1
  let v8 := ((((((List.getD y1.2.2.2.2 (Int.toNat a0) zt55).1).2).1).2).1).2
  let v9 := (((((List.getD y1.2.2.2.2 (Int.toNat a0) zt55).1).2).1).2).2
  let v10 := (((List.getD y1.2.2.2.2 (Int.toNat a0) zt55).1).2).2
  let v11 := ((List.getD y1.2.2.2.2 (Int.toNat a0) zt55).2).1
  let v12 := ((((((List.getD y1.2.2.2.2 (Int.toNat a0) zt55).2).2).1).1).1).1
  let v13 := ((((((List.getD y1.2.2.2.2 (Int.toNat a0) zt55).2).2).1).1).1).2
  let v14 := (((((List.getD y1.2.2.2.2 (Int.toNat a0) zt55).2).2).1).1).2
  let v15 := ((((((List.getD y1.2.2.2.2 (Int.toNat a0) zt55).2).2).1).2).1).1
  let v16 := ((((((List.getD y1.2.2.2.2 (Int.toNat a0) zt55).2).2).1).2).1).2
  let v17 := (((((List.getD y1.2.2.2.2 (Int.toNat a0) zt55).2).2).1).2).2
  let v18 := (((List.getD y1.2.2.2.2 (Int.toNat a0) zt55).2).2).2
  (bounds_copiedLimit.F (((v3, ((((v4, v5), v6), ((v7, v8), v9)), v10)), (v11, ((((v12, v13), v14), ((v15, v16), v17)), v18))), ())).bind fun y19 =>
  some (((), (((y19.1.1.1, ((((y19.1.1.2.1.1.1.1, y19.1.1.2.1.1.1.2), y19.1.1.2.1.1.2), ((y19.1.1.2.1.2.1.1, y19.1.1.2.1.2.1.2), y19.1.1.2.1.2.2)), y19.1.1.2.2)), (y19.1.2.1, ((((y19.1.2.2.1.1.1.1, y19.1.2.2.1.1.1.2), y19.1.2.2.1.1.2), ((y19.1.2.2.1.2.1.1, y19.1.2.2.1.2.1.2), y19.1.2.2.1.2.2)), y19.1.2.2.2))), (0 : Int), ()), ((y1.2.2.1.1, y1.2.2.1.2), (y1.2.2.2.1, y1.2.2.2.2))), G.b, []))
  else none)
theorem bounds_Store_Limit.eval (k : Nat) (G : Gh) (d : Dt75) (a0 : Int) : evalX bounds_Store_Limit.spec bounds_Store_Limit.cals T Try.f25 k G d (a0, ()) = bounds_Store_Limit.e  G d a0 := by kernel_rfl
theorem bounds_Store_Limit.of (d : Dt75) (a0 : Int) (y : (Unit × (Dt55 × Int × Unit) × Dt75)) (h : ∀ G : Gh, ∃ k : Nat, bounds_Store_Limit.e  G d a0 = some (y, (G.b, []))) : bounds_Store_Limit.F d (a0, ()) = some y := limX_of (q := bounds_Store_Limit.spec) (C := bounds_Store_Limit.cals) (T := T) (f := Try.f25) (d := d) (x := (a0, ())) y fun G => (h G).imp fun k hk => (bounds_Store_Limit.eval k G d a0).trans hk

def fulcrumlaw08_limits.spec : XSpec := ⟨some ⟨75, 0, Kt75, 0⟩, false, [(false, (.int .i64))], false, none, [(false, Kt26)], false, fun j => match j with | 3 => [(0, .pbox 75 [.v true, .o 97 Kt97 true, .v true, .o 55 Kt55 true]), (1, .lf (.v true)), (5, .lf (.o 55 Kt55 true)), (6, .lf (.v true))] | _ => []⟩
noncomputable def fulcrumlaw08_limits.cals : Cals := (Cals.consX 25 false bounds_Store_Limit.sig (Cals.base tabs))
noncomputable def fulcrumlaw08_limits.sig : XSig := fulcrumlaw08_limits.spec.sig fulcrumlaw08_limits.cals T Try.f15
noncomputable def fulcrumlaw08_limits.F (d : Dt75) (x : Int × Unit) : Option (Unit × (Dt26 × Unit) × Dt75) := limX fulcrumlaw08_limits.spec fulcrumlaw08_limits.cals T Try.f15 d x
theorem fulcrumlaw08_limits.ck : CalsOk Try.prog fulcrumlaw08_limits.cals := (CalsOk.consX bounds_Store_Limit.cal (CalsOk.base tabsOk))
theorem fulcrumlaw08_limits.cal : XOk Try.prog tabs 15 fulcrumlaw08_limits.sig := xok_of tabOk fulcrumlaw08_limits.ck mix Try.func15 (by kernel_rfl) (by kernel_rfl) (by kernel_rfl) (by kernel_rfl)
def fulcrumlaw08_limits.m3 (x0_g : Nat) (x0_0 : Int) (x0_1 : Dt27) (x0_2 : Bool) (x0_3 : Dt26) (x1 : Int) (x5 : Dt26) (x6 : Int) : S := ⟨[(0, .pbox 0 0 x0_g), (1, .one (.lf (.val true (.int .i64) x1))), (5, .one (.lf (.own 0))), (6, .one (.lf (.val true (.int .i64) x6)))], ⟨[some ⟨55, Kt55, true, true, x5⟩, some ⟨97, Kt97, true, true, x0_1⟩, some ⟨55, Kt55, true, true, x0_3⟩], [some ⟨75, [.val true (.int .i64) x0_0, .own 1, .val true .bool x0_2, .own 2]⟩]⟩⟩
noncomputable def fulcrumlaw08_limits.b3 (f3 : Nat → Int → Dt27 → Bool → Dt26 → Int → Dt26 → Int → Option ((Unit × (Dt26 × Unit) × Dt75) × Nat × List Value)) (x0_g : Nat) (x0_0 : Int) (x0_1 : Dt27) (x0_2 : Bool) (x0_3 : Dt26) (x1 : Int) (x5 : Dt26) (x6 : Int) : Option ((Unit × (Dt26 × Unit) × Dt75) × Nat × List Value) :=
  let v1 := decide (x6 < x1)
  bif v1 then ((bounds_Store_Limit.F ((x0_0, x0_1), (x0_2, x0_3)) (x6, ())).bind fun y2 =>
  let v3 := ([((y2.2.1.1.1.1, ((((y2.2.1.1.1.2.1.1.1.1, y2.2.1.1.1.2.1.1.1.2), y2.2.1.1.1.2.1.1.2), ((y2.2.1.1.1.2.1.2.1.1, y2.2.1.1.1.2.1.2.1.2), y2.2.1.1.1.2.1.2.2)), y2.2.1.1.1.2.2)), (y2.2.1.1.2.1, ((((y2.2.1.1.2.2.1.1.1.1, y2.2.1.1.2.2.1.1.1.2), y2.2.1.1.2.2.1.1.2), ((y2.2.1.1.2.2.1.2.1.1, y2.2.1.1.2.2.1.2.1.2), y2.2.1.1.2.2.1.2.2)), y2.2.1.1.2.2.2)))] : List Dt55)
  bif decide (List.length x5 + List.length v3 < 549755813888) then (let v4 := List.append x5 v3
  let v5 := IntKind.i64.wrap (x6 + (1 : Int))
  f3 x0_g y2.2.2.1.1 y2.2.2.1.2 y2.2.2.2.1 y2.2.2.2.2 x1 v4 v5)
  else none)
  else (some (((), (x5, ()), ((x0_0, x0_1), (x0_2, x0_3))), x0_g, []))
noncomputable def fulcrumlaw08_limits.e (f3 : Nat → Int → Dt27 → Bool → Dt26 → Int → Dt26 → Int → Option ((Unit × (Dt26 × Unit) × Dt75) × Nat × List Value)) (G : Gh) (d : Dt75) (a0 : Int) : Option ((Unit × (Dt26 × Unit) × Dt75) × Nat × List Value) :=
  f3 G.b d.1.1 d.1.2 d.2.1 d.2.2 a0 zt26 (0 : Int)
noncomputable def fulcrumlaw08_limits.L3 (k : Nat) (x0_g : Nat) (x0_0 : Int) (x0_1 : Dt27) (x0_2 : Bool) (x0_3 : Dt26) (x1 : Int) (x5 : Dt26) (x6 : Int) : Option ((Unit × (Dt26 × Unit) × Dt75) × Nat × List Value) := heads (fulcrumlaw08_limits.spec.env fulcrumlaw08_limits.cals T Try.f15) (Func.pts Try.f15) k 3 (fulcrumlaw08_limits.m3 x0_g x0_0 x0_1 x0_2 x0_3 x1 x5 x6)
theorem fulcrumlaw08_limits.L3_succ (k : Nat) (x0_g : Nat) (x0_0 : Int) (x0_1 : Dt27) (x0_2 : Bool) (x0_3 : Dt26) (x1 : Int) (x5 : Dt26) (x6 : Int) : fulcrumlaw08_limits.L3 (k + 1) x0_g x0_0 x0_1 x0_2 x0_3 x1 x5 x6 = fulcrumlaw08_limits.b3 (fulcrumlaw08_limits.L3 k) x0_g x0_0 x0_1 x0_2 x0_3 x1 x5 x6 := by kernel_rfl
theorem fulcrumlaw08_limits.eval (k : Nat) (G : Gh) (d : Dt75) (a0 : Int) : evalX fulcrumlaw08_limits.spec fulcrumlaw08_limits.cals T Try.f15 k G d (a0, ()) = fulcrumlaw08_limits.e (fulcrumlaw08_limits.L3 k) G d a0 := by kernel_rfl
theorem fulcrumlaw08_limits.of (d : Dt75) (a0 : Int) (y : (Unit × (Dt26 × Unit) × Dt75)) (h : ∀ G : Gh, ∃ k : Nat, fulcrumlaw08_limits.e (fulcrumlaw08_limits.L3 k) G d a0 = some (y, (G.b, []))) : fulcrumlaw08_limits.F d (a0, ()) = some y := limX_of (q := fulcrumlaw08_limits.spec) (C := fulcrumlaw08_limits.cals) (T := T) (f := Try.f15) (d := d) (x := (a0, ())) y fun G => (h G).imp fun k hk => (fulcrumlaw08_limits.eval k G d a0).trans hk

def fulcrumref01_Norm.spec : Spec := ⟨[(false, Kt41)], [(false, Kt41)], .own, fun j => match j with | 2 => [(0, .lf (.z 115 (.int .u32) false)), (3, .lf (.v true))] | 6 => [(0, .lf (.z 115 (.int .u32) false)), (3, .lf (.v true)), (4, .lf (.o 115 (.int .u32) true)), (5, .lf (.v true))] | _ => []⟩
noncomputable def fulcrumref01_Norm.cals : Cals := (Cals.base tabs)
noncomputable def fulcrumref01_Norm.sig : Sig := fulcrumref01_Norm.spec.sig fulcrumref01_Norm.cals T Try.f72
noncomputable def fulcrumref01_Norm.F (x : Dt41 × Unit) : Option (Dt41 × Unit) := limF fulcrumref01_Norm.spec fulcrumref01_Norm.cals T Try.f72 x
theorem fulcrumref01_Norm.ck : CalsOk Try.prog fulcrumref01_Norm.cals := (CalsOk.base tabsOk)
theorem fulcrumref01_Norm.cal : CalOk Try.prog tabs 72 fulcrumref01_Norm.sig := calOk_lim' tabOk fulcrumref01_Norm.ck mix Try.func72 (by kernel_rfl) (by kernel_rfl) (by kernel_rfl) (by kernel_rfl)
def fulcrumref01_Norm.m2 (x0 : Dt41) (x3 : Int) : S := ⟨[(0, .one (.lf (.val false Kt41 x0))), (3, .one (.lf (.val true (.int .i64) x3)))], ⟨[], []⟩⟩
def fulcrumref01_Norm.m6 (x0 : Dt41) (x3 : Int) (x4 : Dt41) (x5 : Int) : S := ⟨[(0, .one (.lf (.val false Kt41 x0))), (3, .one (.lf (.val true (.int .i64) x3))), (4, .one (.lf (.own 0))), (5, .one (.lf (.val true (.int .i64) x5)))], ⟨[some ⟨115, (.int .u32), true, true, x4⟩], []⟩⟩
noncomputable def fulcrumref01_Norm.b2 (f2 : Dt41 → Int → Option (Dt41 × Unit)) (f6 : Dt41 → Int → Dt41 → Int → Option (Dt41 × Unit)) (x0 : Dt41) (x3 : Int) : Option (Dt41 × Unit) :=
  let v1 := decide (x3 > (0 : Int))
  bif v1 then (let v2 := IntKind.i64.wrap (x3 - (1 : Int))
  bif decide (0 ≤ v2) && decide (v2 < (List.length x0 : Int)) then (let v3 := List.getD x0 (Int.toNat v2) (0 : Int)
  let v4 := (v3 == (0 : Int))
  bif v4 then (let v5 := IntKind.i64.wrap (x3 - (1 : Int))
  f2 x0 v5)
  else (bif decide (0 ≤ x3) && (decide (x3 ≤ x3) && (decide (Int.toNat x3 * 4 ≤ 281474976710656) && Nat.blt 0 4)) then (let v6 := List.replicate (Int.toNat x3) (0 : Int)
  f6 x0 x3 v6 (0 : Int))
  else none))
  else none)
  else (bif decide (0 ≤ x3) && (decide (x3 ≤ x3) && (decide (Int.toNat x3 * 4 ≤ 281474976710656) && Nat.blt 0 4)) then (let v7 := List.replicate (Int.toNat x3) (0 : Int)
  f6 x0 x3 v7 (0 : Int))
  else none)
noncomputable def fulcrumref01_Norm.b6 (f2 : Dt41 → Int → Option (Dt41 × Unit)) (f6 : Dt41 → Int → Dt41 → Int → Option (Dt41 × Unit)) (x0 : Dt41) (x3 : Int) (x4 : Dt41) (x5 : Int) : Option (Dt41 × Unit) :=
  let v1 := decide (x5 < x3)
  bif v1 then (bif decide (0 ≤ x5) && decide (x5 < (List.length x0 : Int)) then (let v2 := List.getD x0 (Int.toNat x5) (0 : Int)
  bif decide (0 ≤ x5) && decide (x5 < (List.length x4 : Int)) then (let v3 := List.set x4 (Int.toNat x5) v2
  let v4 := IntKind.i64.wrap (x5 + (1 : Int))
  f6 x0 x3 v3 v4)
  else none)
  else none)
  else (some (x4, ()))
noncomputable def fulcrumref01_Norm.e (f2 : Dt41 → Int → Option (Dt41 × Unit)) (f6 : Dt41 → Int → Dt41 → Int → Option (Dt41 × Unit)) (a0 : Dt41) : Option (Dt41 × Unit) :=
  let v1 := (List.length a0 : Int)
  f2 a0 v1
noncomputable def fulcrumref01_Norm.L2 (k : Nat) (x0 : Dt41) (x3 : Int) : Option (Dt41 × Unit) := heads (fulcrumref01_Norm.spec.env fulcrumref01_Norm.cals T Try.f72) (Func.pts Try.f72) k 2 (fulcrumref01_Norm.m2 x0 x3)
noncomputable def fulcrumref01_Norm.L6 (k : Nat) (x0 : Dt41) (x3 : Int) (x4 : Dt41) (x5 : Int) : Option (Dt41 × Unit) := heads (fulcrumref01_Norm.spec.env fulcrumref01_Norm.cals T Try.f72) (Func.pts Try.f72) k 6 (fulcrumref01_Norm.m6 x0 x3 x4 x5)
theorem fulcrumref01_Norm.L2_succ (k : Nat) (x0 : Dt41) (x3 : Int) : fulcrumref01_Norm.L2 (k + 1) x0 x3 = fulcrumref01_Norm.b2 (fulcrumref01_Norm.L2 k) (fulcrumref01_Norm.L6 k) x0 x3 := by kernel_rfl
theorem fulcrumref01_Norm.L6_succ (k : Nat) (x0 : Dt41) (x3 : Int) (x4 : Dt41) (x5 : Int) : fulcrumref01_Norm.L6 (k + 1) x0 x3 x4 x5 = fulcrumref01_Norm.b6 (fulcrumref01_Norm.L2 k) (fulcrumref01_Norm.L6 k) x0 x3 x4 x5 := by kernel_rfl
theorem fulcrumref01_Norm.eval (k : Nat) (a0 : Dt41) : evalF fulcrumref01_Norm.spec fulcrumref01_Norm.cals T Try.f72 k (a0, ()) = fulcrumref01_Norm.e (fulcrumref01_Norm.L2 k) (fulcrumref01_Norm.L6 k) a0 := by kernel_rfl
theorem fulcrumref01_Norm.F_eq (a0 : Dt41) : fulcrumref01_Norm.F (a0, ()) = limF fulcrumref01_Norm.spec fulcrumref01_Norm.cals T Try.f72 (a0, ()) := by kernel_rfl
theorem fulcrumref01_Norm.of (k : Nat) (a0 : Dt41) {y : Dt41 × Unit} (h : fulcrumref01_Norm.e (fulcrumref01_Norm.L2 k) (fulcrumref01_Norm.L6 k) a0 = some y) : fulcrumref01_Norm.F (a0, ()) = some y := (fulcrumref01_Norm.F_eq a0).trans (limF_of (q := fulcrumref01_Norm.spec) (C := fulcrumref01_Norm.cals) (T := T) (f := Try.f72) (x := (a0, ())) (y := y) k ((fulcrumref01_Norm.eval k a0).trans h))

def fulcrumref02_made.spec : Spec := ⟨[(false, .bool), (false, Kt41)], [(true, Kt43)], .own, fun j => match j with  | _ => []⟩
noncomputable def fulcrumref02_made.cals : Cals := (Cals.cons 72 fulcrumref01_Norm.sig (Cals.base tabs))
noncomputable def fulcrumref02_made.sig : Sig := fulcrumref02_made.spec.sig fulcrumref02_made.cals T Try.f89
noncomputable def fulcrumref02_made.F (x : Bool × Dt41 × Unit) : Option (Dt43 × Unit) := limF fulcrumref02_made.spec fulcrumref02_made.cals T Try.f89 x
theorem fulcrumref02_made.ck : CalsOk Try.prog fulcrumref02_made.cals := (CalsOk.cons fulcrumref01_Norm.cal (CalsOk.base tabsOk))
theorem fulcrumref02_made.cal : CalOk Try.prog tabs 89 fulcrumref02_made.sig := calOk_lim' tabOk fulcrumref02_made.ck mix Try.func89 (by kernel_rfl) (by kernel_rfl) (by kernel_rfl) (by kernel_rfl)
noncomputable def fulcrumref02_made.e  (a0 : Bool) (a1 : Dt41) : Option (Dt43 × Unit) :=
  (fulcrumref01_Norm.F (a1, ())).bind fun y1 =>
  bif a0 then (let v2 := (List.length y1.1 : Int)
  let v3 := decide (v2 > (0 : Int))
  some ((v3, y1.1), ()))
  else (some ((false, y1.1), ()))
theorem fulcrumref02_made.eval (k : Nat) (a0 : Bool) (a1 : Dt41) : evalF fulcrumref02_made.spec fulcrumref02_made.cals T Try.f89 k (a0, a1, ()) = fulcrumref02_made.e  a0 a1 := by kernel_rfl
theorem fulcrumref02_made.F_eq (a0 : Bool) (a1 : Dt41) : fulcrumref02_made.F (a0, a1, ()) = limF fulcrumref02_made.spec fulcrumref02_made.cals T Try.f89 (a0, a1, ()) := by kernel_rfl
theorem fulcrumref02_made.of (k : Nat) (a0 : Bool) (a1 : Dt41) {y : Dt43 × Unit} (h : fulcrumref02_made.e  a0 a1 = some y) : fulcrumref02_made.F (a0, a1, ()) = some y := (fulcrumref02_made.F_eq a0 a1).trans (limF_of (q := fulcrumref02_made.spec) (C := fulcrumref02_made.cals) (T := T) (f := Try.f89) (x := (a0, a1, ())) (y := y) k ((fulcrumref02_made.eval k a0 a1).trans h))

def fulcrumref02_Norm.spec : Spec := ⟨[(true, Kt43)], [(true, Kt43)], .own, fun j => match j with  | _ => []⟩
noncomputable def fulcrumref02_Norm.cals : Cals := (Cals.cons 89 fulcrumref02_made.sig (Cals.base tabs))
noncomputable def fulcrumref02_Norm.sig : Sig := fulcrumref02_Norm.spec.sig fulcrumref02_Norm.cals T Try.f71
noncomputable def fulcrumref02_Norm.F (x : Dt43 × Unit) : Option (Dt43 × Unit) := limF fulcrumref02_Norm.spec fulcrumref02_Norm.cals T Try.f71 x
theorem fulcrumref02_Norm.ck : CalsOk Try.prog fulcrumref02_Norm.cals := (CalsOk.cons fulcrumref02_made.cal (CalsOk.base tabsOk))
theorem fulcrumref02_Norm.cal : CalOk Try.prog tabs 71 fulcrumref02_Norm.sig := calOk_lim' tabOk fulcrumref02_Norm.ck mix Try.func71 (by kernel_rfl) (by kernel_rfl) (by kernel_rfl) (by kernel_rfl)
noncomputable def fulcrumref02_Norm.e  (a0 : Dt43) : Option (Dt43 × Unit) :=
  (fulcrumref02_made.F (a0.1, a0.2, ())).bind fun y1 =>
  some ((y1.1.1, y1.1.2), ())
theorem fulcrumref02_Norm.eval (k : Nat) (a0 : Dt43) : evalF fulcrumref02_Norm.spec fulcrumref02_Norm.cals T Try.f71 k (a0, ()) = fulcrumref02_Norm.e  a0 := by kernel_rfl
theorem fulcrumref02_Norm.F_eq (a0 : Dt43) : fulcrumref02_Norm.F (a0, ()) = limF fulcrumref02_Norm.spec fulcrumref02_Norm.cals T Try.f71 (a0, ()) := by kernel_rfl
theorem fulcrumref02_Norm.of (k : Nat) (a0 : Dt43) {y : Dt43 × Unit} (h : fulcrumref02_Norm.e  a0 = some y) : fulcrumref02_Norm.F (a0, ()) = some y := (fulcrumref02_Norm.F_eq a0).trans (limF_of (q := fulcrumref02_Norm.spec) (C := fulcrumref02_Norm.cals) (T := T) (f := Try.f71) (x := (a0, ())) (y := y) k ((fulcrumref02_Norm.eval k a0).trans h))

def fulcrumref02_Sign.spec : Spec := ⟨[(true, Kt43)], [(false, (.int .i64))], .own, fun j => match j with  | _ => []⟩
noncomputable def fulcrumref02_Sign.cals : Cals := (Cals.cons 71 fulcrumref02_Norm.sig (Cals.base tabs))
noncomputable def fulcrumref02_Sign.sig : Sig := fulcrumref02_Sign.spec.sig fulcrumref02_Sign.cals T Try.f60
noncomputable def fulcrumref02_Sign.F (x : Dt43 × Unit) : Option (Int × Unit) := limF fulcrumref02_Sign.spec fulcrumref02_Sign.cals T Try.f60 x
theorem fulcrumref02_Sign.ck : CalsOk Try.prog fulcrumref02_Sign.cals := (CalsOk.cons fulcrumref02_Norm.cal (CalsOk.base tabsOk))
theorem fulcrumref02_Sign.cal : CalOk Try.prog tabs 60 fulcrumref02_Sign.sig := calOk_lim' tabOk fulcrumref02_Sign.ck mix Try.func60 (by kernel_rfl) (by kernel_rfl) (by kernel_rfl) (by kernel_rfl)
noncomputable def fulcrumref02_Sign.e  (a0 : Dt43) : Option (Int × Unit) :=
  (fulcrumref02_Norm.F ((a0.1, a0.2), ())).bind fun y1 =>
  bif y1.1.1 then (some ((-1 : Int), ()))
  else (let v2 := (List.length y1.1.2 : Int)
  let v3 := decide (v2 > (0 : Int))
  bif v3 then (some ((1 : Int), ()))
  else (some ((0 : Int), ())))
theorem fulcrumref02_Sign.eval (k : Nat) (a0 : Dt43) : evalF fulcrumref02_Sign.spec fulcrumref02_Sign.cals T Try.f60 k (a0, ()) = fulcrumref02_Sign.e  a0 := by kernel_rfl
theorem fulcrumref02_Sign.F_eq (a0 : Dt43) : fulcrumref02_Sign.F (a0, ()) = limF fulcrumref02_Sign.spec fulcrumref02_Sign.cals T Try.f60 (a0, ()) := by kernel_rfl
theorem fulcrumref02_Sign.of (k : Nat) (a0 : Dt43) {y : Int × Unit} (h : fulcrumref02_Sign.e  a0 = some y) : fulcrumref02_Sign.F (a0, ()) = some y := (fulcrumref02_Sign.F_eq a0).trans (limF_of (q := fulcrumref02_Sign.spec) (C := fulcrumref02_Sign.cals) (T := T) (f := Try.f60) (x := (a0, ())) (y := y) k ((fulcrumref02_Sign.eval k a0).trans h))

def fulcrumref01_at.spec : Spec := ⟨[(false, Kt41), (false, (.int .i64))], [(false, (.int .u64))], .own, fun j => match j with  | _ => []⟩
noncomputable def fulcrumref01_at.cals : Cals := (Cals.base tabs)
noncomputable def fulcrumref01_at.sig : Sig := fulcrumref01_at.spec.sig fulcrumref01_at.cals T Try.f104
noncomputable def fulcrumref01_at.F (x : Dt41 × Int × Unit) : Option (Int × Unit) := limF fulcrumref01_at.spec fulcrumref01_at.cals T Try.f104 x
theorem fulcrumref01_at.ck : CalsOk Try.prog fulcrumref01_at.cals := (CalsOk.base tabsOk)
theorem fulcrumref01_at.cal : CalOk Try.prog tabs 104 fulcrumref01_at.sig := calOk_lim' tabOk fulcrumref01_at.ck mix Try.func104 (by kernel_rfl) (by kernel_rfl) (by kernel_rfl) (by kernel_rfl)
noncomputable def fulcrumref01_at.e  (a0 : Dt41) (a1 : Int) : Option (Int × Unit) :=
  let v1 := (List.length a0 : Int)
  let v2 := decide (a1 ≥ v1)
  bif v2 then (some ((0 : Int), ()))
  else (bif decide (0 ≤ a1) && decide (a1 < (List.length a0 : Int)) then (let v3 := List.getD a0 (Int.toNat a1) (0 : Int)
  let v4 := IntKind.u64.wrap v3
  some (v4, ()))
  else none)
theorem fulcrumref01_at.eval (k : Nat) (a0 : Dt41) (a1 : Int) : evalF fulcrumref01_at.spec fulcrumref01_at.cals T Try.f104 k (a0, a1, ()) = fulcrumref01_at.e  a0 a1 := by kernel_rfl
theorem fulcrumref01_at.F_eq (a0 : Dt41) (a1 : Int) : fulcrumref01_at.F (a0, a1, ()) = limF fulcrumref01_at.spec fulcrumref01_at.cals T Try.f104 (a0, a1, ()) := by kernel_rfl
theorem fulcrumref01_at.of (k : Nat) (a0 : Dt41) (a1 : Int) {y : Int × Unit} (h : fulcrumref01_at.e  a0 a1 = some y) : fulcrumref01_at.F (a0, a1, ()) = some y := (fulcrumref01_at.F_eq a0 a1).trans (limF_of (q := fulcrumref01_at.spec) (C := fulcrumref01_at.cals) (T := T) (f := Try.f104) (x := (a0, a1, ())) (y := y) k ((fulcrumref01_at.eval k a0 a1).trans h))

def fulcrumref01_Cmp.spec : Spec := ⟨[(false, Kt41), (false, Kt41)], [(false, (.int .i64))], .own, fun j => match j with | 5 => [(0, .lf (.z 115 (.int .u32) false)), (1, .lf (.z 115 (.int .u32) false)), (6, .lf (.v true))] | _ => []⟩
noncomputable def fulcrumref01_Cmp.cals : Cals := (Cals.cons 104 fulcrumref01_at.sig (Cals.base tabs))
noncomputable def fulcrumref01_Cmp.sig : Sig := fulcrumref01_Cmp.spec.sig fulcrumref01_Cmp.cals T Try.f90
noncomputable def fulcrumref01_Cmp.F (x : Dt41 × Dt41 × Unit) : Option (Int × Unit) := limF fulcrumref01_Cmp.spec fulcrumref01_Cmp.cals T Try.f90 x
theorem fulcrumref01_Cmp.ck : CalsOk Try.prog fulcrumref01_Cmp.cals := (CalsOk.cons fulcrumref01_at.cal (CalsOk.base tabsOk))
theorem fulcrumref01_Cmp.cal : CalOk Try.prog tabs 90 fulcrumref01_Cmp.sig := calOk_lim' tabOk fulcrumref01_Cmp.ck mix Try.func90 (by kernel_rfl) (by kernel_rfl) (by kernel_rfl) (by kernel_rfl)
def fulcrumref01_Cmp.m5 (x0 : Dt41) (x1 : Dt41) (x6 : Int) : S := ⟨[(0, .one (.lf (.val false Kt41 x0))), (1, .one (.lf (.val false Kt41 x1))), (6, .one (.lf (.val true (.int .i64) x6)))], ⟨[], []⟩⟩
noncomputable def fulcrumref01_Cmp.b5 (f5 : Dt41 → Dt41 → Int → Option (Int × Unit)) (x0 : Dt41) (x1 : Dt41) (x6 : Int) : Option (Int × Unit) :=
  let v1 := decide (x6 ≥ (0 : Int))
  bif v1 then ((fulcrumref01_at.F (x0, x6, ())).bind fun y2 =>
  (fulcrumref01_at.F (x1, x6, ())).bind fun y3 =>
  let v4 := decide (y2.1 < y3.1)
  bif v4 then (some ((-1 : Int), ()))
  else ((fulcrumref01_at.F (x0, x6, ())).bind fun y5 =>
  (fulcrumref01_at.F (x1, x6, ())).bind fun y6 =>
  let v7 := decide (y5.1 > y6.1)
  bif v7 then (some ((1 : Int), ()))
  else (let v8 := IntKind.i64.wrap (x6 - (1 : Int))
  f5 x0 x1 v8)))
  else (some ((0 : Int), ()))
noncomputable def fulcrumref01_Cmp.e (f5 : Dt41 → Dt41 → Int → Option (Int × Unit)) (a0 : Dt41) (a1 : Dt41) : Option (Int × Unit) :=
  let v1 := (List.length a0 : Int)
  let v2 := (List.length a1 : Int)
  let v3 := decide (v2 > v1)
  bif v3 then (let v4 := (List.length a1 : Int)
  let v5 := IntKind.i64.wrap (v4 - (1 : Int))
  f5 a0 a1 v5)
  else (let v6 := IntKind.i64.wrap (v1 - (1 : Int))
  f5 a0 a1 v6)
noncomputable def fulcrumref01_Cmp.L5 (k : Nat) (x0 : Dt41) (x1 : Dt41) (x6 : Int) : Option (Int × Unit) := heads (fulcrumref01_Cmp.spec.env fulcrumref01_Cmp.cals T Try.f90) (Func.pts Try.f90) k 5 (fulcrumref01_Cmp.m5 x0 x1 x6)
theorem fulcrumref01_Cmp.L5_succ (k : Nat) (x0 : Dt41) (x1 : Dt41) (x6 : Int) : fulcrumref01_Cmp.L5 (k + 1) x0 x1 x6 = fulcrumref01_Cmp.b5 (fulcrumref01_Cmp.L5 k) x0 x1 x6 := by kernel_rfl
theorem fulcrumref01_Cmp.eval (k : Nat) (a0 : Dt41) (a1 : Dt41) : evalF fulcrumref01_Cmp.spec fulcrumref01_Cmp.cals T Try.f90 k (a0, a1, ()) = fulcrumref01_Cmp.e (fulcrumref01_Cmp.L5 k) a0 a1 := by kernel_rfl
theorem fulcrumref01_Cmp.F_eq (a0 : Dt41) (a1 : Dt41) : fulcrumref01_Cmp.F (a0, a1, ()) = limF fulcrumref01_Cmp.spec fulcrumref01_Cmp.cals T Try.f90 (a0, a1, ()) := by kernel_rfl
theorem fulcrumref01_Cmp.of (k : Nat) (a0 : Dt41) (a1 : Dt41) {y : Int × Unit} (h : fulcrumref01_Cmp.e (fulcrumref01_Cmp.L5 k) a0 a1 = some y) : fulcrumref01_Cmp.F (a0, a1, ()) = some y := (fulcrumref01_Cmp.F_eq a0 a1).trans (limF_of (q := fulcrumref01_Cmp.spec) (C := fulcrumref01_Cmp.cals) (T := T) (f := Try.f90) (x := (a0, a1, ())) (y := y) k ((fulcrumref01_Cmp.eval k a0 a1).trans h))

def fulcrumref01_Bit.spec : Spec := ⟨[(false, Kt41), (false, (.int .i64))], [(false, .bool)], .own, fun j => match j with  | _ => []⟩
noncomputable def fulcrumref01_Bit.cals : Cals := (Cals.base tabs)
noncomputable def fulcrumref01_Bit.sig : Sig := fulcrumref01_Bit.spec.sig fulcrumref01_Bit.cals T Try.f91
noncomputable def fulcrumref01_Bit.F (x : Dt41 × Int × Unit) : Option (Bool × Unit) := limF fulcrumref01_Bit.spec fulcrumref01_Bit.cals T Try.f91 x
theorem fulcrumref01_Bit.ck : CalsOk Try.prog fulcrumref01_Bit.cals := (CalsOk.base tabsOk)
theorem fulcrumref01_Bit.cal : CalOk Try.prog tabs 91 fulcrumref01_Bit.sig := calOk_lim' tabOk fulcrumref01_Bit.ck mix Try.func91 (by kernel_rfl) (by kernel_rfl) (by kernel_rfl) (by kernel_rfl)
noncomputable def fulcrumref01_Bit.e  (a0 : Dt41) (a1 : Int) : Option (Bool × Unit) :=
  let v1 := decide (a1 ≥ (0 : Int))
  bif v1 then (bif decide ((32 : Int) = 0) then none
  else (let v2 := IntKind.i64.wrap (Int.tdiv a1 (32 : Int))
  let v3 := (List.length a0 : Int)
  let v4 := decide (v2 < v3)
  bif v4 then (bif decide ((32 : Int) = 0) then none
  else (let v5 := IntKind.i64.wrap (Int.tdiv a1 (32 : Int))
  bif decide (0 ≤ v5) && decide (v5 < (List.length a0 : Int)) then (let v6 := List.getD a0 (Int.toNat v5) (0 : Int)
  bif decide ((32 : Int) = 0) then none
  else (let v7 := Int.tmod a1 (32 : Int)
  let v8 := IntKind.u64.wrap v7
  bif decide (v8 < 0) then none
  else (let v9 := shrI .u32 v6 v8
  let v10 := bitsOp .and .u32 v9 (1 : Int)
  let v11 := (v10 == (1 : Int))
  some (v11, ()))))
  else none))
  else (some (false, ()))))
  else (some (false, ()))
theorem fulcrumref01_Bit.eval (k : Nat) (a0 : Dt41) (a1 : Int) : evalF fulcrumref01_Bit.spec fulcrumref01_Bit.cals T Try.f91 k (a0, a1, ()) = fulcrumref01_Bit.e  a0 a1 := by kernel_rfl
theorem fulcrumref01_Bit.F_eq (a0 : Dt41) (a1 : Int) : fulcrumref01_Bit.F (a0, a1, ()) = limF fulcrumref01_Bit.spec fulcrumref01_Bit.cals T Try.f91 (a0, a1, ()) := by kernel_rfl
theorem fulcrumref01_Bit.of (k : Nat) (a0 : Dt41) (a1 : Int) {y : Bool × Unit} (h : fulcrumref01_Bit.e  a0 a1 = some y) : fulcrumref01_Bit.F (a0, a1, ()) = some y := (fulcrumref01_Bit.F_eq a0 a1).trans (limF_of (q := fulcrumref01_Bit.spec) (C := fulcrumref01_Bit.cals) (T := T) (f := Try.f91) (x := (a0, a1, ())) (y := y) k ((fulcrumref01_Bit.eval k a0 a1).trans h))

def fulcrumref01_Shift.spec : Spec := ⟨[(false, Kt41), (false, (.int .i64))], [(false, Kt41), (false, (.int .i64))], .own, fun j => match j with | 15 => [(0, .lf (.z 115 (.int .u32) false)), (6, .lf (.v true)), (7, .lf (.o 115 (.int .u32) true)), (8, .lf (.v true)), (9, .lf (.v true)), (10, .lf (.v true))] | _ => []⟩
noncomputable def fulcrumref01_Shift.cals : Cals := (Cals.cons 72 fulcrumref01_Norm.sig (Cals.base tabs))
noncomputable def fulcrumref01_Shift.sig : Sig := fulcrumref01_Shift.spec.sig fulcrumref01_Shift.cals T Try.f92
noncomputable def fulcrumref01_Shift.F (x : Dt41 × Int × Unit) : Option (Dt41 × Int × Unit) := limF fulcrumref01_Shift.spec fulcrumref01_Shift.cals T Try.f92 x
theorem fulcrumref01_Shift.ck : CalsOk Try.prog fulcrumref01_Shift.cals := (CalsOk.cons fulcrumref01_Norm.cal (CalsOk.base tabsOk))
theorem fulcrumref01_Shift.cal : CalOk Try.prog tabs 92 fulcrumref01_Shift.sig := calOk_lim' tabOk fulcrumref01_Shift.ck mix Try.func92 (by kernel_rfl) (by kernel_rfl) (by kernel_rfl) (by kernel_rfl)
def fulcrumref01_Shift.m15 (x0 : Dt41) (x6 : Int) (x7 : Dt41) (x8 : Int) (x9 : Int) (x10 : Int) : S := ⟨[(0, .one (.lf (.val false Kt41 x0))), (6, .one (.lf (.val true (.int .i64) x6))), (7, .one (.lf (.own 0))), (8, .one (.lf (.val true (.int .i64) x8))), (9, .one (.lf (.val true (.int .i64) x9))), (10, .one (.lf (.val true (.int .i64) x10)))], ⟨[some ⟨115, (.int .u32), true, true, x7⟩], []⟩⟩
noncomputable def fulcrumref01_Shift.b15 (f15 : Dt41 → Int → Dt41 → Int → Int → Int → Option (Dt41 × Int × Unit)) (x0 : Dt41) (x6 : Int) (x7 : Dt41) (x8 : Int) (x9 : Int) (x10 : Int) : Option (Dt41 × Int × Unit) :=
  let v1 := (List.length x0 : Int)
  let v2 := decide (x10 < v1)
  bif v2 then (bif decide (0 ≤ x10) && decide (x10 < (List.length x0 : Int)) then (let v3 := List.getD x0 (Int.toNat x10) (0 : Int)
  let v4 := IntKind.u64.wrap v3
  let v5 := IntKind.u64.wrap x9
  bif decide (v5 < 0) then none
  else (let v6 := shlI .u64 v4 v5
  let v7 := IntKind.i64.wrap (x10 + x8)
  let v8 := decide (v7 ≥ (0 : Int))
  bif v8 then (let v9 := IntKind.i64.wrap (x10 + x8)
  let v10 := decide (v9 < x6)
  bif v10 then (let v11 := IntKind.i64.wrap (x10 + x8)
  bif decide (0 ≤ v11) && decide (v11 < (List.length x7 : Int)) then (let v12 := List.getD x7 (Int.toNat v11) (0 : Int)
  let v13 := IntKind.u32.wrap v6
  let v14 := bitsOp .or .u32 v12 v13
  bif decide (0 ≤ v11) && decide (v11 < (List.length x7 : Int)) then (let v15 := List.set x7 (Int.toNat v11) v14
  let v16 := IntKind.i64.wrap (x10 + x8)
  let v17 := IntKind.i64.wrap (v16 + (1 : Int))
  let v18 := decide (v17 ≥ (0 : Int))
  bif v18 then (let v19 := IntKind.i64.wrap (x10 + x8)
  let v20 := IntKind.i64.wrap (v19 + (1 : Int))
  let v21 := decide (v20 < x6)
  bif v21 then (let v22 := IntKind.i64.wrap (x10 + x8)
  let v23 := IntKind.i64.wrap (v22 + (1 : Int))
  bif decide (0 ≤ v23) && decide (v23 < (List.length v15 : Int)) then (let v24 := List.getD v15 (Int.toNat v23) (0 : Int)
  bif decide ((32 : Int) < 0) then none
  else (let v25 := shrI .u64 v6 (32 : Int)
  let v26 := IntKind.u32.wrap v25
  let v27 := bitsOp .or .u32 v24 v26
  bif decide (0 ≤ v23) && decide (v23 < (List.length v15 : Int)) then (let v28 := List.set v15 (Int.toNat v23) v27
  let v29 := IntKind.i64.wrap (x10 + (1 : Int))
  f15 x0 x6 v28 x8 x9 v29)
  else none))
  else none)
  else (let v30 := IntKind.i64.wrap (x10 + (1 : Int))
  f15 x0 x6 v15 x8 x9 v30))
  else (let v31 := IntKind.i64.wrap (x10 + (1 : Int))
  f15 x0 x6 v15 x8 x9 v31))
  else none)
  else none)
  else (let v32 := IntKind.i64.wrap (x10 + x8)
  let v33 := IntKind.i64.wrap (v32 + (1 : Int))
  let v34 := decide (v33 ≥ (0 : Int))
  bif v34 then (let v35 := IntKind.i64.wrap (x10 + x8)
  let v36 := IntKind.i64.wrap (v35 + (1 : Int))
  let v37 := decide (v36 < x6)
  bif v37 then (let v38 := IntKind.i64.wrap (x10 + x8)
  let v39 := IntKind.i64.wrap (v38 + (1 : Int))
  bif decide (0 ≤ v39) && decide (v39 < (List.length x7 : Int)) then (let v40 := List.getD x7 (Int.toNat v39) (0 : Int)
  bif decide ((32 : Int) < 0) then none
  else (let v41 := shrI .u64 v6 (32 : Int)
  let v42 := IntKind.u32.wrap v41
  let v43 := bitsOp .or .u32 v40 v42
  bif decide (0 ≤ v39) && decide (v39 < (List.length x7 : Int)) then (let v44 := List.set x7 (Int.toNat v39) v43
  let v45 := IntKind.i64.wrap (x10 + (1 : Int))
  f15 x0 x6 v44 x8 x9 v45)
  else none))
  else none)
  else (let v46 := IntKind.i64.wrap (x10 + (1 : Int))
  f15 x0 x6 x7 x8 x9 v46))
  else (let v47 := IntKind.i64.wrap (x10 + (1 : Int))
  f15 x0 x6 x7 x8 x9 v47)))
  else (let v48 := IntKind.i64.wrap (x10 + x8)
  let v49 := IntKind.i64.wrap (v48 + (1 : Int))
  let v50 := decide (v49 ≥ (0 : Int))
  bif v50 then (let v51 := IntKind.i64.wrap (x10 + x8)
  let v52 := IntKind.i64.wrap (v51 + (1 : Int))
  let v53 := decide (v52 < x6)
  bif v53 then (let v54 := IntKind.i64.wrap (x10 + x8)
  let v55 := IntKind.i64.wrap (v54 + (1 : Int))
  bif decide (0 ≤ v55) && decide (v55 < (List.length x7 : Int)) then (let v56 := List.getD x7 (Int.toNat v55) (0 : Int)
  bif decide ((32 : Int) < 0) then none
  else (let v57 := shrI .u64 v6 (32 : Int)
  let v58 := IntKind.u32.wrap v57
  let v59 := bitsOp .or .u32 v56 v58
  bif decide (0 ≤ v55) && decide (v55 < (List.length x7 : Int)) then (let v60 := List.set x7 (Int.toNat v55) v59
  let v61 := IntKind.i64.wrap (x10 + (1 : Int))
  f15 x0 x6 v60 x8 x9 v61)
  else none))
  else none)
  else (let v62 := IntKind.i64.wrap (x10 + (1 : Int))
  f15 x0 x6 x7 x8 x9 v62))
  else (let v63 := IntKind.i64.wrap (x10 + (1 : Int))
  f15 x0 x6 x7 x8 x9 v63))))
  else none)
  else ((fulcrumref01_Norm.F (x7, ())).bind fun y64 =>
  some (y64.1, (0 : Int), ()))
noncomputable def fulcrumref01_Shift.e (f15 : Dt41 → Int → Dt41 → Int → Int → Int → Option (Dt41 × Int × Unit)) (a0 : Dt41) (a1 : Int) : Option (Dt41 × Int × Unit) :=
  let v1 := decide (a1 < (-1048576 : Int))
  bif v1 then (some (zt41, (12 : Int), ()))
  else (let v2 := decide (a1 > (1048576 : Int))
  bif v2 then (some (zt41, (12 : Int), ()))
  else ((fulcrumref01_Norm.F (a0, ())).bind fun y3 =>
  let v4 := (List.length y3.1 : Int)
  let v5 := (v4 == (0 : Int))
  bif v5 then (let v6 := zt41
  some (v6, (0 : Int), ()))
  else (let v7 := (List.length a0 : Int)
  let v8 := decide (a1 > (0 : Int))
  bif v8 then (bif decide ((32 : Int) = 0) then none
  else (let v9 := IntKind.i64.wrap (Int.tdiv a1 (32 : Int))
  let v10 := IntKind.i64.wrap (v9 + (1 : Int))
  let v11 := IntKind.i64.wrap (v7 + v10)
  bif decide (0 ≤ v11) && (decide (v11 ≤ v11) && (decide (Int.toNat v11 * 4 ≤ 281474976710656) && Nat.blt 0 4)) then (let v12 := List.replicate (Int.toNat v11) (0 : Int)
  bif decide ((32 : Int) = 0) then none
  else (let v13 := IntKind.i64.wrap (Int.tdiv a1 (32 : Int))
  bif decide ((32 : Int) = 0) then none
  else (let v14 := Int.tmod a1 (32 : Int)
  let v15 := decide (v14 < (0 : Int))
  bif v15 then (let v16 := IntKind.i64.wrap (v13 - (1 : Int))
  let v17 := IntKind.i64.wrap (v14 + (32 : Int))
  f15 a0 v11 v12 v16 v17 (0 : Int))
  else (f15 a0 v11 v12 v13 v14 (0 : Int)))))
  else none))
  else (bif decide (0 ≤ v7) && (decide (v7 ≤ v7) && (decide (Int.toNat v7 * 4 ≤ 281474976710656) && Nat.blt 0 4)) then (let v18 := List.replicate (Int.toNat v7) (0 : Int)
  bif decide ((32 : Int) = 0) then none
  else (let v19 := IntKind.i64.wrap (Int.tdiv a1 (32 : Int))
  bif decide ((32 : Int) = 0) then none
  else (let v20 := Int.tmod a1 (32 : Int)
  let v21 := decide (v20 < (0 : Int))
  bif v21 then (let v22 := IntKind.i64.wrap (v19 - (1 : Int))
  let v23 := IntKind.i64.wrap (v20 + (32 : Int))
  f15 a0 v7 v18 v22 v23 (0 : Int))
  else (f15 a0 v7 v18 v19 v20 (0 : Int)))))
  else none))))
noncomputable def fulcrumref01_Shift.L15 (k : Nat) (x0 : Dt41) (x6 : Int) (x7 : Dt41) (x8 : Int) (x9 : Int) (x10 : Int) : Option (Dt41 × Int × Unit) := heads (fulcrumref01_Shift.spec.env fulcrumref01_Shift.cals T Try.f92) (Func.pts Try.f92) k 15 (fulcrumref01_Shift.m15 x0 x6 x7 x8 x9 x10)
theorem fulcrumref01_Shift.L15_succ (k : Nat) (x0 : Dt41) (x6 : Int) (x7 : Dt41) (x8 : Int) (x9 : Int) (x10 : Int) : fulcrumref01_Shift.L15 (k + 1) x0 x6 x7 x8 x9 x10 = fulcrumref01_Shift.b15 (fulcrumref01_Shift.L15 k) x0 x6 x7 x8 x9 x10 := by kernel_rfl
theorem fulcrumref01_Shift.eval (k : Nat) (a0 : Dt41) (a1 : Int) : evalF fulcrumref01_Shift.spec fulcrumref01_Shift.cals T Try.f92 k (a0, a1, ()) = fulcrumref01_Shift.e (fulcrumref01_Shift.L15 k) a0 a1 := by kernel_rfl
theorem fulcrumref01_Shift.F_eq (a0 : Dt41) (a1 : Int) : fulcrumref01_Shift.F (a0, a1, ()) = limF fulcrumref01_Shift.spec fulcrumref01_Shift.cals T Try.f92 (a0, a1, ()) := by kernel_rfl
theorem fulcrumref01_Shift.of (k : Nat) (a0 : Dt41) (a1 : Int) {y : Dt41 × Int × Unit} (h : fulcrumref01_Shift.e (fulcrumref01_Shift.L15 k) a0 a1 = some y) : fulcrumref01_Shift.F (a0, a1, ()) = some y := (fulcrumref01_Shift.F_eq a0 a1).trans (limF_of (q := fulcrumref01_Shift.spec) (C := fulcrumref01_Shift.cals) (T := T) (f := Try.f92) (x := (a0, a1, ())) (y := y) k ((fulcrumref01_Shift.eval k a0 a1).trans h))

def fulcrumref01_Sub.spec : Spec := ⟨[(false, Kt41), (false, Kt41)], [(false, Kt41), (false, (.int .i64))], .own, fun j => match j with | 6 => [(0, .lf (.z 115 (.int .u32) false)), (1, .lf (.z 115 (.int .u32) false)), (6, .lf (.o 115 (.int .u32) true)), (7, .lf (.v true)), (8, .lf (.v true))] | _ => []⟩
noncomputable def fulcrumref01_Sub.cals : Cals := (Cals.cons 90 fulcrumref01_Cmp.sig (Cals.cons 104 fulcrumref01_at.sig (Cals.cons 72 fulcrumref01_Norm.sig (Cals.base tabs))))
noncomputable def fulcrumref01_Sub.sig : Sig := fulcrumref01_Sub.spec.sig fulcrumref01_Sub.cals T Try.f93
noncomputable def fulcrumref01_Sub.F (x : Dt41 × Dt41 × Unit) : Option (Dt41 × Int × Unit) := limF fulcrumref01_Sub.spec fulcrumref01_Sub.cals T Try.f93 x
theorem fulcrumref01_Sub.ck : CalsOk Try.prog fulcrumref01_Sub.cals := (CalsOk.cons fulcrumref01_Cmp.cal (CalsOk.cons fulcrumref01_at.cal (CalsOk.cons fulcrumref01_Norm.cal (CalsOk.base tabsOk))))
theorem fulcrumref01_Sub.cal : CalOk Try.prog tabs 93 fulcrumref01_Sub.sig := calOk_lim' tabOk fulcrumref01_Sub.ck mix Try.func93 (by kernel_rfl) (by kernel_rfl) (by kernel_rfl) (by kernel_rfl)
def fulcrumref01_Sub.m6 (x0 : Dt41) (x1 : Dt41) (x6 : Dt41) (x7 : Int) (x8 : Int) : S := ⟨[(0, .one (.lf (.val false Kt41 x0))), (1, .one (.lf (.val false Kt41 x1))), (6, .one (.lf (.own 0))), (7, .one (.lf (.val true (.int .u64) x7))), (8, .one (.lf (.val true (.int .i64) x8)))], ⟨[some ⟨115, (.int .u32), true, true, x6⟩], []⟩⟩
noncomputable def fulcrumref01_Sub.b6 (f6 : Dt41 → Dt41 → Dt41 → Int → Int → Option (Dt41 × Int × Unit)) (x0 : Dt41) (x1 : Dt41) (x6 : Dt41) (x7 : Int) (x8 : Int) : Option (Dt41 × Int × Unit) :=
  let v1 := (List.length x0 : Int)
  let v2 := decide (x8 < v1)
  bif v2 then ((fulcrumref01_at.F (x0, x8, ())).bind fun y3 =>
  (fulcrumref01_at.F (x1, x8, ())).bind fun y4 =>
  let v5 := IntKind.u64.wrap (y3.1 - y4.1)
  let v6 := IntKind.u64.wrap (v5 - x7)
  let v7 := IntKind.u32.wrap v6
  bif decide (0 ≤ x8) && decide (x8 < (List.length x6 : Int)) then (let v8 := List.set x6 (Int.toNat x8) v7
  bif decide ((63 : Int) < 0) then none
  else (let v9 := shrI .u64 v6 (63 : Int)
  let v10 := IntKind.i64.wrap (x8 + (1 : Int))
  f6 x0 x1 v8 v9 v10))
  else none)
  else ((fulcrumref01_Norm.F (x6, ())).bind fun y11 =>
  some (y11.1, (0 : Int), ()))
noncomputable def fulcrumref01_Sub.e (f6 : Dt41 → Dt41 → Dt41 → Int → Int → Option (Dt41 × Int × Unit)) (a0 : Dt41) (a1 : Dt41) : Option (Dt41 × Int × Unit) :=
  (fulcrumref01_Cmp.F (a0, a1, ())).bind fun y1 =>
  let v2 := decide (y1.1 < (0 : Int))
  bif v2 then (some (zt41, (10 : Int), ()))
  else (let v3 := (List.length a0 : Int)
  bif decide (0 ≤ v3) && (decide (v3 ≤ v3) && (decide (Int.toNat v3 * 4 ≤ 281474976710656) && Nat.blt 0 4)) then (let v4 := List.replicate (Int.toNat v3) (0 : Int)
  f6 a0 a1 v4 (0 : Int) (0 : Int))
  else none)
noncomputable def fulcrumref01_Sub.L6 (k : Nat) (x0 : Dt41) (x1 : Dt41) (x6 : Dt41) (x7 : Int) (x8 : Int) : Option (Dt41 × Int × Unit) := heads (fulcrumref01_Sub.spec.env fulcrumref01_Sub.cals T Try.f93) (Func.pts Try.f93) k 6 (fulcrumref01_Sub.m6 x0 x1 x6 x7 x8)
theorem fulcrumref01_Sub.L6_succ (k : Nat) (x0 : Dt41) (x1 : Dt41) (x6 : Dt41) (x7 : Int) (x8 : Int) : fulcrumref01_Sub.L6 (k + 1) x0 x1 x6 x7 x8 = fulcrumref01_Sub.b6 (fulcrumref01_Sub.L6 k) x0 x1 x6 x7 x8 := by kernel_rfl
theorem fulcrumref01_Sub.eval (k : Nat) (a0 : Dt41) (a1 : Dt41) : evalF fulcrumref01_Sub.spec fulcrumref01_Sub.cals T Try.f93 k (a0, a1, ()) = fulcrumref01_Sub.e (fulcrumref01_Sub.L6 k) a0 a1 := by kernel_rfl
theorem fulcrumref01_Sub.F_eq (a0 : Dt41) (a1 : Dt41) : fulcrumref01_Sub.F (a0, a1, ()) = limF fulcrumref01_Sub.spec fulcrumref01_Sub.cals T Try.f93 (a0, a1, ()) := by kernel_rfl
theorem fulcrumref01_Sub.of (k : Nat) (a0 : Dt41) (a1 : Dt41) {y : Dt41 × Int × Unit} (h : fulcrumref01_Sub.e (fulcrumref01_Sub.L6 k) a0 a1 = some y) : fulcrumref01_Sub.F (a0, a1, ()) = some y := (fulcrumref01_Sub.F_eq a0 a1).trans (limF_of (q := fulcrumref01_Sub.spec) (C := fulcrumref01_Sub.cals) (T := T) (f := Try.f93) (x := (a0, a1, ())) (y := y) k ((fulcrumref01_Sub.eval k a0 a1).trans h))

def fulcrumref01_twice.spec : Spec := ⟨[(false, Kt41), (false, .bool)], [(false, Kt41)], .own, fun j => match j with | 6 => [(0, .lf (.z 115 (.int .u32) false)), (5, .lf (.o 115 (.int .u32) true)), (6, .lf (.v true)), (7, .lf (.v true))] | _ => []⟩
noncomputable def fulcrumref01_twice.cals : Cals := (Cals.cons 72 fulcrumref01_Norm.sig (Cals.base tabs))
noncomputable def fulcrumref01_twice.sig : Sig := fulcrumref01_twice.spec.sig fulcrumref01_twice.cals T Try.f94
noncomputable def fulcrumref01_twice.F (x : Dt41 × Bool × Unit) : Option (Dt41 × Unit) := limF fulcrumref01_twice.spec fulcrumref01_twice.cals T Try.f94 x
theorem fulcrumref01_twice.ck : CalsOk Try.prog fulcrumref01_twice.cals := (CalsOk.cons fulcrumref01_Norm.cal (CalsOk.base tabsOk))
theorem fulcrumref01_twice.cal : CalOk Try.prog tabs 94 fulcrumref01_twice.sig := calOk_lim' tabOk fulcrumref01_twice.ck mix Try.func94 (by kernel_rfl) (by kernel_rfl) (by kernel_rfl) (by kernel_rfl)
def fulcrumref01_twice.m6 (x0 : Dt41) (x5 : Dt41) (x6 : Int) (x7 : Int) : S := ⟨[(0, .one (.lf (.val false Kt41 x0))), (5, .one (.lf (.own 0))), (6, .one (.lf (.val true (.int .u32) x6))), (7, .one (.lf (.val true (.int .i64) x7)))], ⟨[some ⟨115, (.int .u32), true, true, x5⟩], []⟩⟩
noncomputable def fulcrumref01_twice.b6 (f6 : Dt41 → Dt41 → Int → Int → Option (Dt41 × Unit)) (x0 : Dt41) (x5 : Dt41) (x6 : Int) (x7 : Int) : Option (Dt41 × Unit) :=
  let v1 := (List.length x0 : Int)
  let v2 := decide (x7 < v1)
  bif v2 then (bif decide (0 ≤ x7) && decide (x7 < (List.length x0 : Int)) then (let v3 := List.getD x0 (Int.toNat x7) (0 : Int)
  bif decide ((1 : Int) < 0) then none
  else (let v4 := shlI .u32 v3 (1 : Int)
  let v5 := bitsOp .or .u32 v4 x6
  bif decide (0 ≤ x7) && decide (x7 < (List.length x5 : Int)) then (let v6 := List.set x5 (Int.toNat x7) v5
  bif decide (0 ≤ x7) && decide (x7 < (List.length x0 : Int)) then (let v7 := List.getD x0 (Int.toNat x7) (0 : Int)
  bif decide ((31 : Int) < 0) then none
  else (let v8 := shrI .u32 v7 (31 : Int)
  let v9 := IntKind.i64.wrap (x7 + (1 : Int))
  f6 x0 v6 v8 v9))
  else none)
  else none))
  else none)
  else (let v10 := (List.length x0 : Int)
  bif decide (0 ≤ v10) && decide (v10 < (List.length x5 : Int)) then (let v11 := List.set x5 (Int.toNat v10) x6
  (fulcrumref01_Norm.F (v11, ())).bind fun y12 =>
  some (y12.1, ()))
  else none)
noncomputable def fulcrumref01_twice.e (f6 : Dt41 → Dt41 → Int → Int → Option (Dt41 × Unit)) (a0 : Dt41) (a1 : Bool) : Option (Dt41 × Unit) :=
  let v1 := (List.length a0 : Int)
  let v2 := IntKind.i64.wrap (v1 + (1 : Int))
  bif decide (0 ≤ v2) && (decide (v2 ≤ v2) && (decide (Int.toNat v2 * 4 ≤ 281474976710656) && Nat.blt 0 4)) then (let v3 := List.replicate (Int.toNat v2) (0 : Int)
  bif a1 then (f6 a0 v3 (1 : Int) (0 : Int))
  else (f6 a0 v3 (0 : Int) (0 : Int)))
  else none
noncomputable def fulcrumref01_twice.L6 (k : Nat) (x0 : Dt41) (x5 : Dt41) (x6 : Int) (x7 : Int) : Option (Dt41 × Unit) := heads (fulcrumref01_twice.spec.env fulcrumref01_twice.cals T Try.f94) (Func.pts Try.f94) k 6 (fulcrumref01_twice.m6 x0 x5 x6 x7)
theorem fulcrumref01_twice.L6_succ (k : Nat) (x0 : Dt41) (x5 : Dt41) (x6 : Int) (x7 : Int) : fulcrumref01_twice.L6 (k + 1) x0 x5 x6 x7 = fulcrumref01_twice.b6 (fulcrumref01_twice.L6 k) x0 x5 x6 x7 := by kernel_rfl
theorem fulcrumref01_twice.eval (k : Nat) (a0 : Dt41) (a1 : Bool) : evalF fulcrumref01_twice.spec fulcrumref01_twice.cals T Try.f94 k (a0, a1, ()) = fulcrumref01_twice.e (fulcrumref01_twice.L6 k) a0 a1 := by kernel_rfl
theorem fulcrumref01_twice.F_eq (a0 : Dt41) (a1 : Bool) : fulcrumref01_twice.F (a0, a1, ()) = limF fulcrumref01_twice.spec fulcrumref01_twice.cals T Try.f94 (a0, a1, ()) := by kernel_rfl
theorem fulcrumref01_twice.of (k : Nat) (a0 : Dt41) (a1 : Bool) {y : Dt41 × Unit} (h : fulcrumref01_twice.e (fulcrumref01_twice.L6 k) a0 a1 = some y) : fulcrumref01_twice.F (a0, a1, ()) = some y := (fulcrumref01_twice.F_eq a0 a1).trans (limF_of (q := fulcrumref01_twice.spec) (C := fulcrumref01_twice.cals) (T := T) (f := Try.f94) (x := (a0, a1, ())) (y := y) k ((fulcrumref01_twice.eval k a0 a1).trans h))

def fulcrumref01_Gcd.spec : Spec := ⟨[(false, Kt41), (false, Kt41)], [(false, Kt41)], .own, fun j => match j with | 11 => [(0, .lf (.o 115 (.int .u32) true)), (1, .lf (.o 115 (.int .u32) true)), (6, .lf (.v true))] | 15 => [(0, .lf (.o 115 (.int .u32) true)), (1, .lf (.o 115 (.int .u32) true)), (6, .lf (.v true))] | 16 => [(0, .lf (.o 115 (.int .u32) true)), (1, .lf (.o 115 (.int .u32) true)), (6, .lf (.v true))] | 18 => [(0, .lf (.o 115 (.int .u32) true)), (1, .lf (.o 115 (.int .u32) true)), (6, .lf (.v true))] | 24 => [(0, .lf (.o 115 (.int .u32) true)), (6, .lf (.v true)), (7, .lf (.v true))] | _ => []⟩
noncomputable def fulcrumref01_Gcd.cals : Cals := (Cals.cons 72 fulcrumref01_Norm.sig (Cals.cons 90 fulcrumref01_Cmp.sig (Cals.cons 91 fulcrumref01_Bit.sig (Cals.cons 92 fulcrumref01_Shift.sig (Cals.cons 93 fulcrumref01_Sub.sig (Cals.cons 94 fulcrumref01_twice.sig (Cals.base tabs)))))))
noncomputable def fulcrumref01_Gcd.sig : Sig := fulcrumref01_Gcd.spec.sig fulcrumref01_Gcd.cals T Try.f73
noncomputable def fulcrumref01_Gcd.F (x : Dt41 × Dt41 × Unit) : Option (Dt41 × Unit) := limF fulcrumref01_Gcd.spec fulcrumref01_Gcd.cals T Try.f73 x
theorem fulcrumref01_Gcd.ck : CalsOk Try.prog fulcrumref01_Gcd.cals := (CalsOk.cons fulcrumref01_Norm.cal (CalsOk.cons fulcrumref01_Cmp.cal (CalsOk.cons fulcrumref01_Bit.cal (CalsOk.cons fulcrumref01_Shift.cal (CalsOk.cons fulcrumref01_Sub.cal (CalsOk.cons fulcrumref01_twice.cal (CalsOk.base tabsOk)))))))
theorem fulcrumref01_Gcd.cal : CalOk Try.prog tabs 73 fulcrumref01_Gcd.sig := calOk_lim' tabOk fulcrumref01_Gcd.ck mix Try.func73 (by kernel_rfl) (by kernel_rfl) (by kernel_rfl) (by kernel_rfl)
def fulcrumref01_Gcd.m11 (x0 : Dt41) (x1 : Dt41) (x6 : Int) : S := ⟨[(0, .one (.lf (.own 0))), (1, .one (.lf (.own 1))), (6, .one (.lf (.val true (.int .i64) x6)))], ⟨[some ⟨115, (.int .u32), true, true, x0⟩, some ⟨115, (.int .u32), true, true, x1⟩], []⟩⟩
def fulcrumref01_Gcd.m15 (x0 : Dt41) (x1 : Dt41) (x6 : Int) : S := ⟨[(0, .one (.lf (.own 0))), (1, .one (.lf (.own 1))), (6, .one (.lf (.val true (.int .i64) x6)))], ⟨[some ⟨115, (.int .u32), true, true, x0⟩, some ⟨115, (.int .u32), true, true, x1⟩], []⟩⟩
def fulcrumref01_Gcd.m16 (x0 : Dt41) (x1 : Dt41) (x6 : Int) : S := ⟨[(0, .one (.lf (.own 0))), (1, .one (.lf (.own 1))), (6, .one (.lf (.val true (.int .i64) x6)))], ⟨[some ⟨115, (.int .u32), true, true, x0⟩, some ⟨115, (.int .u32), true, true, x1⟩], []⟩⟩
def fulcrumref01_Gcd.m18 (x0 : Dt41) (x1 : Dt41) (x6 : Int) : S := ⟨[(0, .one (.lf (.own 0))), (1, .one (.lf (.own 1))), (6, .one (.lf (.val true (.int .i64) x6)))], ⟨[some ⟨115, (.int .u32), true, true, x0⟩, some ⟨115, (.int .u32), true, true, x1⟩], []⟩⟩
def fulcrumref01_Gcd.m24 (x0 : Dt41) (x6 : Int) (x7 : Int) : S := ⟨[(0, .one (.lf (.own 0))), (6, .one (.lf (.val true (.int .i64) x6))), (7, .one (.lf (.val true (.int .i64) x7)))], ⟨[some ⟨115, (.int .u32), true, true, x0⟩], []⟩⟩
noncomputable def fulcrumref01_Gcd.b11 (f11 : Dt41 → Dt41 → Int → Option (Dt41 × Unit)) (f15 : Dt41 → Dt41 → Int → Option (Dt41 × Unit)) (f16 : Dt41 → Dt41 → Int → Option (Dt41 × Unit)) (f18 : Dt41 → Dt41 → Int → Option (Dt41 × Unit)) (f24 : Dt41 → Int → Int → Option (Dt41 × Unit)) (x0 : Dt41) (x1 : Dt41) (x6 : Int) : Option (Dt41 × Unit) :=
  (fulcrumref01_Bit.F (x0, (0 : Int), ())).bind fun y1 =>
  let v2 := not y1.1
  bif v2 then ((fulcrumref01_Bit.F (x1, (0 : Int), ())).bind fun y3 =>
  let v4 := not y3.1
  bif v4 then ((fulcrumref01_Shift.F (x0, (-1 : Int), ())).bind fun y5 =>
  (fulcrumref01_Shift.F (x1, (-1 : Int), ())).bind fun y6 =>
  let v7 := IntKind.i64.wrap (x6 + (1 : Int))
  f11 y5.1 y6.1 v7)
  else (f15 x0 x1 x6))
  else (f15 x0 x1 x6)
noncomputable def fulcrumref01_Gcd.b15 (f11 : Dt41 → Dt41 → Int → Option (Dt41 × Unit)) (f15 : Dt41 → Dt41 → Int → Option (Dt41 × Unit)) (f16 : Dt41 → Dt41 → Int → Option (Dt41 × Unit)) (f18 : Dt41 → Dt41 → Int → Option (Dt41 × Unit)) (f24 : Dt41 → Int → Int → Option (Dt41 × Unit)) (x0 : Dt41) (x1 : Dt41) (x6 : Int) : Option (Dt41 × Unit) :=
  let v1 := (List.length x1 : Int)
  let v2 := decide (v1 > (0 : Int))
  bif v2 then (f16 x0 x1 x6)
  else (f24 x0 x6 (0 : Int))
noncomputable def fulcrumref01_Gcd.b16 (f11 : Dt41 → Dt41 → Int → Option (Dt41 × Unit)) (f15 : Dt41 → Dt41 → Int → Option (Dt41 × Unit)) (f16 : Dt41 → Dt41 → Int → Option (Dt41 × Unit)) (f18 : Dt41 → Dt41 → Int → Option (Dt41 × Unit)) (f24 : Dt41 → Int → Int → Option (Dt41 × Unit)) (x0 : Dt41) (x1 : Dt41) (x6 : Int) : Option (Dt41 × Unit) :=
  (fulcrumref01_Bit.F (x0, (0 : Int), ())).bind fun y1 =>
  let v2 := not y1.1
  bif v2 then ((fulcrumref01_Shift.F (x0, (-1 : Int), ())).bind fun y3 =>
  f16 y3.1 x1 x6)
  else (f18 x0 x1 x6)
noncomputable def fulcrumref01_Gcd.b18 (f11 : Dt41 → Dt41 → Int → Option (Dt41 × Unit)) (f15 : Dt41 → Dt41 → Int → Option (Dt41 × Unit)) (f16 : Dt41 → Dt41 → Int → Option (Dt41 × Unit)) (f18 : Dt41 → Dt41 → Int → Option (Dt41 × Unit)) (f24 : Dt41 → Int → Int → Option (Dt41 × Unit)) (x0 : Dt41) (x1 : Dt41) (x6 : Int) : Option (Dt41 × Unit) :=
  (fulcrumref01_Bit.F (x1, (0 : Int), ())).bind fun y1 =>
  let v2 := not y1.1
  bif v2 then ((fulcrumref01_Shift.F (x1, (-1 : Int), ())).bind fun y3 =>
  f18 x0 y3.1 x6)
  else ((fulcrumref01_Cmp.F (x0, x1, ())).bind fun y4 =>
  let v5 := decide (y4.1 > (0 : Int))
  bif v5 then ((fulcrumref01_Sub.F (x0, x1, ())).bind fun y6 =>
  f15 x1 y6.1 x6)
  else ((fulcrumref01_Sub.F (x1, x0, ())).bind fun y7 =>
  f15 x0 y7.1 x6))
noncomputable def fulcrumref01_Gcd.b24 (f11 : Dt41 → Dt41 → Int → Option (Dt41 × Unit)) (f15 : Dt41 → Dt41 → Int → Option (Dt41 × Unit)) (f16 : Dt41 → Dt41 → Int → Option (Dt41 × Unit)) (f18 : Dt41 → Dt41 → Int → Option (Dt41 × Unit)) (f24 : Dt41 → Int → Int → Option (Dt41 × Unit)) (x0 : Dt41) (x6 : Int) (x7 : Int) : Option (Dt41 × Unit) :=
  let v1 := decide (x7 < x6)
  bif v1 then ((fulcrumref01_twice.F (x0, false, ())).bind fun y2 =>
  let v3 := IntKind.i64.wrap (x7 + (1 : Int))
  f24 y2.1 x6 v3)
  else (some (x0, ()))
noncomputable def fulcrumref01_Gcd.e (f11 : Dt41 → Dt41 → Int → Option (Dt41 × Unit)) (f15 : Dt41 → Dt41 → Int → Option (Dt41 × Unit)) (f16 : Dt41 → Dt41 → Int → Option (Dt41 × Unit)) (f18 : Dt41 → Dt41 → Int → Option (Dt41 × Unit)) (f24 : Dt41 → Int → Int → Option (Dt41 × Unit)) (a0 : Dt41) (a1 : Dt41) : Option (Dt41 × Unit) :=
  (fulcrumref01_Norm.F (a0, ())).bind fun y1 =>
  (fulcrumref01_Norm.F (a1, ())).bind fun y2 =>
  let v3 := (List.length y1.1 : Int)
  let v4 := (v3 == (0 : Int))
  bif v4 then (some (y2.1, ()))
  else (let v5 := (List.length y2.1 : Int)
  let v6 := (v5 == (0 : Int))
  bif v6 then (some (y1.1, ()))
  else (let v7 := ([(1 : Int)] : List Int)
  (fulcrumref01_Cmp.F (y1.1, v7, ())).bind fun y8 =>
  let v9 := (y8.1 == (0 : Int))
  bif v9 then (some (v7, ()))
  else ((fulcrumref01_Cmp.F (y2.1, v7, ())).bind fun y10 =>
  let v11 := (y10.1 == (0 : Int))
  bif v11 then (some (v7, ()))
  else (f11 y1.1 y2.1 (0 : Int)))))
noncomputable def fulcrumref01_Gcd.L11 (k : Nat) (x0 : Dt41) (x1 : Dt41) (x6 : Int) : Option (Dt41 × Unit) := heads (fulcrumref01_Gcd.spec.env fulcrumref01_Gcd.cals T Try.f73) (Func.pts Try.f73) k 11 (fulcrumref01_Gcd.m11 x0 x1 x6)
noncomputable def fulcrumref01_Gcd.L15 (k : Nat) (x0 : Dt41) (x1 : Dt41) (x6 : Int) : Option (Dt41 × Unit) := heads (fulcrumref01_Gcd.spec.env fulcrumref01_Gcd.cals T Try.f73) (Func.pts Try.f73) k 15 (fulcrumref01_Gcd.m15 x0 x1 x6)
noncomputable def fulcrumref01_Gcd.L16 (k : Nat) (x0 : Dt41) (x1 : Dt41) (x6 : Int) : Option (Dt41 × Unit) := heads (fulcrumref01_Gcd.spec.env fulcrumref01_Gcd.cals T Try.f73) (Func.pts Try.f73) k 16 (fulcrumref01_Gcd.m16 x0 x1 x6)
noncomputable def fulcrumref01_Gcd.L18 (k : Nat) (x0 : Dt41) (x1 : Dt41) (x6 : Int) : Option (Dt41 × Unit) := heads (fulcrumref01_Gcd.spec.env fulcrumref01_Gcd.cals T Try.f73) (Func.pts Try.f73) k 18 (fulcrumref01_Gcd.m18 x0 x1 x6)
noncomputable def fulcrumref01_Gcd.L24 (k : Nat) (x0 : Dt41) (x6 : Int) (x7 : Int) : Option (Dt41 × Unit) := heads (fulcrumref01_Gcd.spec.env fulcrumref01_Gcd.cals T Try.f73) (Func.pts Try.f73) k 24 (fulcrumref01_Gcd.m24 x0 x6 x7)
theorem fulcrumref01_Gcd.L11_succ (k : Nat) (x0 : Dt41) (x1 : Dt41) (x6 : Int) : fulcrumref01_Gcd.L11 (k + 1) x0 x1 x6 = fulcrumref01_Gcd.b11 (fulcrumref01_Gcd.L11 k) (fulcrumref01_Gcd.L15 k) (fulcrumref01_Gcd.L16 k) (fulcrumref01_Gcd.L18 k) (fulcrumref01_Gcd.L24 k) x0 x1 x6 := by kernel_rfl
theorem fulcrumref01_Gcd.L15_succ (k : Nat) (x0 : Dt41) (x1 : Dt41) (x6 : Int) : fulcrumref01_Gcd.L15 (k + 1) x0 x1 x6 = fulcrumref01_Gcd.b15 (fulcrumref01_Gcd.L11 k) (fulcrumref01_Gcd.L15 k) (fulcrumref01_Gcd.L16 k) (fulcrumref01_Gcd.L18 k) (fulcrumref01_Gcd.L24 k) x0 x1 x6 := by kernel_rfl
theorem fulcrumref01_Gcd.L16_succ (k : Nat) (x0 : Dt41) (x1 : Dt41) (x6 : Int) : fulcrumref01_Gcd.L16 (k + 1) x0 x1 x6 = fulcrumref01_Gcd.b16 (fulcrumref01_Gcd.L11 k) (fulcrumref01_Gcd.L15 k) (fulcrumref01_Gcd.L16 k) (fulcrumref01_Gcd.L18 k) (fulcrumref01_Gcd.L24 k) x0 x1 x6 := by kernel_rfl
theorem fulcrumref01_Gcd.L18_succ (k : Nat) (x0 : Dt41) (x1 : Dt41) (x6 : Int) : fulcrumref01_Gcd.L18 (k + 1) x0 x1 x6 = fulcrumref01_Gcd.b18 (fulcrumref01_Gcd.L11 k) (fulcrumref01_Gcd.L15 k) (fulcrumref01_Gcd.L16 k) (fulcrumref01_Gcd.L18 k) (fulcrumref01_Gcd.L24 k) x0 x1 x6 := by kernel_rfl
theorem fulcrumref01_Gcd.L24_succ (k : Nat) (x0 : Dt41) (x6 : Int) (x7 : Int) : fulcrumref01_Gcd.L24 (k + 1) x0 x6 x7 = fulcrumref01_Gcd.b24 (fulcrumref01_Gcd.L11 k) (fulcrumref01_Gcd.L15 k) (fulcrumref01_Gcd.L16 k) (fulcrumref01_Gcd.L18 k) (fulcrumref01_Gcd.L24 k) x0 x6 x7 := by kernel_rfl
theorem fulcrumref01_Gcd.eval (k : Nat) (a0 : Dt41) (a1 : Dt41) : evalF fulcrumref01_Gcd.spec fulcrumref01_Gcd.cals T Try.f73 k (a0, a1, ()) = fulcrumref01_Gcd.e (fulcrumref01_Gcd.L11 k) (fulcrumref01_Gcd.L15 k) (fulcrumref01_Gcd.L16 k) (fulcrumref01_Gcd.L18 k) (fulcrumref01_Gcd.L24 k) a0 a1 := by kernel_rfl
theorem fulcrumref01_Gcd.F_eq (a0 : Dt41) (a1 : Dt41) : fulcrumref01_Gcd.F (a0, a1, ()) = limF fulcrumref01_Gcd.spec fulcrumref01_Gcd.cals T Try.f73 (a0, a1, ()) := by kernel_rfl
theorem fulcrumref01_Gcd.of (k : Nat) (a0 : Dt41) (a1 : Dt41) {y : Dt41 × Unit} (h : fulcrumref01_Gcd.e (fulcrumref01_Gcd.L11 k) (fulcrumref01_Gcd.L15 k) (fulcrumref01_Gcd.L16 k) (fulcrumref01_Gcd.L18 k) (fulcrumref01_Gcd.L24 k) a0 a1 = some y) : fulcrumref01_Gcd.F (a0, a1, ()) = some y := (fulcrumref01_Gcd.F_eq a0 a1).trans (limF_of (q := fulcrumref01_Gcd.spec) (C := fulcrumref01_Gcd.cals) (T := T) (f := Try.f73) (x := (a0, a1, ())) (y := y) k ((fulcrumref01_Gcd.eval k a0 a1).trans h))

def fulcrumref01_Div.spec : Spec := ⟨[(false, Kt41), (false, Kt41)], [(false, Kt41), (false, Kt41), (false, (.int .i64))], .own, fun j => match j with | 11 => [(0, .lf (.z 115 (.int .u32) true)), (1, .lf (.o 115 (.int .u32) true)), (7, .lf (.o 115 (.int .u32) true)), (9, .lf (.o 115 (.int .u32) true)), (10, .lf (.v true))] | _ => []⟩
noncomputable def fulcrumref01_Div.cals : Cals := (Cals.cons 72 fulcrumref01_Norm.sig (Cals.cons 91 fulcrumref01_Bit.sig (Cals.cons 94 fulcrumref01_twice.sig (Cals.cons 90 fulcrumref01_Cmp.sig (Cals.cons 93 fulcrumref01_Sub.sig (Cals.base tabs))))))
noncomputable def fulcrumref01_Div.sig : Sig := fulcrumref01_Div.spec.sig fulcrumref01_Div.cals T Try.f74
noncomputable def fulcrumref01_Div.F (x : Dt41 × Dt41 × Unit) : Option (Dt41 × Dt41 × Int × Unit) := limF fulcrumref01_Div.spec fulcrumref01_Div.cals T Try.f74 x
theorem fulcrumref01_Div.ck : CalsOk Try.prog fulcrumref01_Div.cals := (CalsOk.cons fulcrumref01_Norm.cal (CalsOk.cons fulcrumref01_Bit.cal (CalsOk.cons fulcrumref01_twice.cal (CalsOk.cons fulcrumref01_Cmp.cal (CalsOk.cons fulcrumref01_Sub.cal (CalsOk.base tabsOk))))))
theorem fulcrumref01_Div.cal : CalOk Try.prog tabs 74 fulcrumref01_Div.sig := calOk_lim' tabOk fulcrumref01_Div.ck mix Try.func74 (by kernel_rfl) (by kernel_rfl) (by kernel_rfl) (by kernel_rfl)
def fulcrumref01_Div.m11 (x0 : Dt41) (x1 : Dt41) (x7 : Dt41) (x9 : Dt41) (x10 : Int) : S := ⟨[(0, .one (.lf (.val true Kt41 x0))), (1, .one (.lf (.own 0))), (7, .one (.lf (.own 1))), (9, .one (.lf (.own 2))), (10, .one (.lf (.val true (.int .i64) x10)))], ⟨[some ⟨115, (.int .u32), true, true, x1⟩, some ⟨115, (.int .u32), true, true, x7⟩, some ⟨115, (.int .u32), true, true, x9⟩], []⟩⟩
noncomputable def fulcrumref01_Div.b11 (f11 : Dt41 → Dt41 → Dt41 → Dt41 → Int → Option (Dt41 × Dt41 × Int × Unit)) (x0 : Dt41) (x1 : Dt41) (x7 : Dt41) (x9 : Dt41) (x10 : Int) : Option (Dt41 × Dt41 × Int × Unit) :=
  let v1 := decide (x10 ≥ (0 : Int))
  bif v1 then ((fulcrumref01_Bit.F (x0, x10, ())).bind fun y2 =>
  (fulcrumref01_twice.F (x9, y2.1, ())).bind fun y3 =>
  (fulcrumref01_Cmp.F (y3.1, x1, ())).bind fun y4 =>
  let v5 := decide (y4.1 ≥ (0 : Int))
  bif v5 then ((fulcrumref01_Sub.F (y3.1, x1, ())).bind fun y6 =>
  bif decide ((32 : Int) = 0) then none
  else (let v7 := IntKind.i64.wrap (Int.tdiv x10 (32 : Int))
  bif decide (0 ≤ v7) && decide (v7 < (List.length x7 : Int)) then (let v8 := List.getD x7 (Int.toNat v7) (0 : Int)
  bif decide ((32 : Int) = 0) then none
  else (let v9 := Int.tmod x10 (32 : Int)
  let v10 := IntKind.u64.wrap v9
  bif decide (v10 < 0) then none
  else (let v11 := shlI .u32 (1 : Int) v10
  let v12 := bitsOp .or .u32 v8 v11
  bif decide (0 ≤ v7) && decide (v7 < (List.length x7 : Int)) then (let v13 := List.set x7 (Int.toNat v7) v12
  let v14 := IntKind.i64.wrap (x10 - (1 : Int))
  f11 x0 x1 v13 y6.1 v14)
  else none)))
  else none))
  else (let v15 := IntKind.i64.wrap (x10 - (1 : Int))
  f11 x0 x1 x7 y3.1 v15))
  else ((fulcrumref01_Norm.F (x7, ())).bind fun y16 =>
  some (y16.1, x9, (0 : Int), ()))
noncomputable def fulcrumref01_Div.e (f11 : Dt41 → Dt41 → Dt41 → Dt41 → Int → Option (Dt41 × Dt41 × Int × Unit)) (a0 : Dt41) (a1 : Dt41) : Option (Dt41 × Dt41 × Int × Unit) :=
  (fulcrumref01_Norm.F (a1, ())).bind fun y1 =>
  let v2 := (List.length y1.1 : Int)
  let v3 := (v2 == (0 : Int))
  bif v3 then (some (zt41, zt41, (11 : Int), ()))
  else ((fulcrumref01_Norm.F (a0, ())).bind fun y4 =>
  let v5 := (List.length y4.1 : Int)
  bif decide (0 ≤ v5) && (decide (v5 ≤ v5) && (decide (Int.toNat v5 * 4 ≤ 281474976710656) && Nat.blt 0 4)) then (let v6 := List.replicate (Int.toNat v5) (0 : Int)
  let v7 := (List.length y1.1 : Int)
  let v8 := IntKind.i64.wrap (v7 - (1 : Int))
  let v9 := (List.length y4.1 : Int)
  let v10 := decide (v8 > v9)
  bif v10 then (let v11 := (List.length y4.1 : Int)
  let v12 := (List.length y4.1 : Int)
  let v13 := IntKind.i64.wrap (v12 - v11)
  bif decide (0 ≤ v13) && decide (v13 ≤ (List.length y4.1 : Int)) then (let v14 := List.drop (Int.toNat v13) y4.1
  (fulcrumref01_Norm.F (v14, ())).bind fun y15 =>
  let v16 := (List.length y4.1 : Int)
  let v17 := IntKind.i64.wrap (v16 - v11)
  let v18 := IntKind.i64.wrap ((32 : Int) * v17)
  let v19 := IntKind.i64.wrap (v18 - (1 : Int))
  f11 y4.1 y1.1 v6 y15.1 v19)
  else none)
  else (let v20 := (List.length y4.1 : Int)
  let v21 := IntKind.i64.wrap (v20 - v8)
  bif decide (0 ≤ v21) && decide (v21 ≤ (List.length y4.1 : Int)) then (let v22 := List.drop (Int.toNat v21) y4.1
  (fulcrumref01_Norm.F (v22, ())).bind fun y23 =>
  let v24 := (List.length y4.1 : Int)
  let v25 := IntKind.i64.wrap (v24 - v8)
  let v26 := IntKind.i64.wrap ((32 : Int) * v25)
  let v27 := IntKind.i64.wrap (v26 - (1 : Int))
  f11 y4.1 y1.1 v6 y23.1 v27)
  else none))
  else none)
noncomputable def fulcrumref01_Div.L11 (k : Nat) (x0 : Dt41) (x1 : Dt41) (x7 : Dt41) (x9 : Dt41) (x10 : Int) : Option (Dt41 × Dt41 × Int × Unit) := heads (fulcrumref01_Div.spec.env fulcrumref01_Div.cals T Try.f74) (Func.pts Try.f74) k 11 (fulcrumref01_Div.m11 x0 x1 x7 x9 x10)
theorem fulcrumref01_Div.L11_succ (k : Nat) (x0 : Dt41) (x1 : Dt41) (x7 : Dt41) (x9 : Dt41) (x10 : Int) : fulcrumref01_Div.L11 (k + 1) x0 x1 x7 x9 x10 = fulcrumref01_Div.b11 (fulcrumref01_Div.L11 k) x0 x1 x7 x9 x10 := by kernel_rfl
theorem fulcrumref01_Div.eval (k : Nat) (a0 : Dt41) (a1 : Dt41) : evalF fulcrumref01_Div.spec fulcrumref01_Div.cals T Try.f74 k (a0, a1, ()) = fulcrumref01_Div.e (fulcrumref01_Div.L11 k) a0 a1 := by kernel_rfl
theorem fulcrumref01_Div.F_eq (a0 : Dt41) (a1 : Dt41) : fulcrumref01_Div.F (a0, a1, ()) = limF fulcrumref01_Div.spec fulcrumref01_Div.cals T Try.f74 (a0, a1, ()) := by kernel_rfl
theorem fulcrumref01_Div.of (k : Nat) (a0 : Dt41) (a1 : Dt41) {y : Dt41 × Dt41 × Int × Unit} (h : fulcrumref01_Div.e (fulcrumref01_Div.L11 k) a0 a1 = some y) : fulcrumref01_Div.F (a0, a1, ()) = some y := (fulcrumref01_Div.F_eq a0 a1).trans (limF_of (q := fulcrumref01_Div.spec) (C := fulcrumref01_Div.cals) (T := T) (f := Try.f74) (x := (a0, a1, ())) (y := y) k ((fulcrumref01_Div.eval k a0 a1).trans h))

def fulcrumref03_Norm.spec : Spec := ⟨[(true, Kt45)], [(true, Kt45)], .own, fun j => match j with  | _ => []⟩
noncomputable def fulcrumref03_Norm.cals : Cals := (Cals.cons 71 fulcrumref02_Norm.sig (Cals.cons 72 fulcrumref01_Norm.sig (Cals.cons 73 fulcrumref01_Gcd.sig (Cals.cons 74 fulcrumref01_Div.sig (Cals.base tabs)))))
noncomputable def fulcrumref03_Norm.sig : Sig := fulcrumref03_Norm.spec.sig fulcrumref03_Norm.cals T Try.f61
noncomputable def fulcrumref03_Norm.F (x : Dt45 × Unit) : Option (Dt45 × Unit) := limF fulcrumref03_Norm.spec fulcrumref03_Norm.cals T Try.f61 x
theorem fulcrumref03_Norm.ck : CalsOk Try.prog fulcrumref03_Norm.cals := (CalsOk.cons fulcrumref02_Norm.cal (CalsOk.cons fulcrumref01_Norm.cal (CalsOk.cons fulcrumref01_Gcd.cal (CalsOk.cons fulcrumref01_Div.cal (CalsOk.base tabsOk)))))
theorem fulcrumref03_Norm.cal : CalOk Try.prog tabs 61 fulcrumref03_Norm.sig := calOk_lim' tabOk fulcrumref03_Norm.ck mix Try.func61 (by kernel_rfl) (by kernel_rfl) (by kernel_rfl) (by kernel_rfl)
noncomputable def fulcrumref03_Norm.e  (a0 : Dt45) : Option (Dt45 × Unit) :=
  (fulcrumref02_Norm.F ((a0.1.1, a0.1.2), ())).bind fun y1 =>
  (fulcrumref01_Norm.F (a0.2, ())).bind fun y2 =>
  let v3 := (List.length y2.1 : Int)
  let v4 := (v3 == (0 : Int))
  bif v4 then (let v5 := ([(1 : Int)] : List Int)
  some ((zt43, v5), ()))
  else (let v6 := (List.length y1.1.2 : Int)
  let v7 := (v6 == (0 : Int))
  bif v7 then (let v8 := ([(1 : Int)] : List Int)
  some ((zt43, v8), ()))
  else ((fulcrumref01_Gcd.F (y1.1.2, y2.1, ())).bind fun y9 =>
  (fulcrumref01_Div.F (y1.1.2, y9.1, ())).bind fun y10 =>
  (fulcrumref01_Div.F (y2.1, y9.1, ())).bind fun y11 =>
  some (((y1.1.1, y10.1), y11.1), ())))
theorem fulcrumref03_Norm.eval (k : Nat) (a0 : Dt45) : evalF fulcrumref03_Norm.spec fulcrumref03_Norm.cals T Try.f61 k (a0, ()) = fulcrumref03_Norm.e  a0 := by kernel_rfl
theorem fulcrumref03_Norm.F_eq (a0 : Dt45) : fulcrumref03_Norm.F (a0, ()) = limF fulcrumref03_Norm.spec fulcrumref03_Norm.cals T Try.f61 (a0, ()) := by kernel_rfl
theorem fulcrumref03_Norm.of (k : Nat) (a0 : Dt45) {y : Dt45 × Unit} (h : fulcrumref03_Norm.e  a0 = some y) : fulcrumref03_Norm.F (a0, ()) = some y := (fulcrumref03_Norm.F_eq a0).trans (limF_of (q := fulcrumref03_Norm.spec) (C := fulcrumref03_Norm.cals) (T := T) (f := Try.f61) (x := (a0, ())) (y := y) k ((fulcrumref03_Norm.eval k a0).trans h))

def fulcrumref03_Sign.spec : Spec := ⟨[(true, Kt45)], [(false, (.int .i64))], .own, fun j => match j with  | _ => []⟩
noncomputable def fulcrumref03_Sign.cals : Cals := (Cals.cons 61 fulcrumref03_Norm.sig (Cals.cons 60 fulcrumref02_Sign.sig (Cals.base tabs)))
noncomputable def fulcrumref03_Sign.sig : Sig := fulcrumref03_Sign.spec.sig fulcrumref03_Sign.cals T Try.f51
noncomputable def fulcrumref03_Sign.F (x : Dt45 × Unit) : Option (Int × Unit) := limF fulcrumref03_Sign.spec fulcrumref03_Sign.cals T Try.f51 x
theorem fulcrumref03_Sign.ck : CalsOk Try.prog fulcrumref03_Sign.cals := (CalsOk.cons fulcrumref03_Norm.cal (CalsOk.cons fulcrumref02_Sign.cal (CalsOk.base tabsOk)))
theorem fulcrumref03_Sign.cal : CalOk Try.prog tabs 51 fulcrumref03_Sign.sig := calOk_lim' tabOk fulcrumref03_Sign.ck mix Try.func51 (by kernel_rfl) (by kernel_rfl) (by kernel_rfl) (by kernel_rfl)
noncomputable def fulcrumref03_Sign.e  (a0 : Dt45) : Option (Int × Unit) :=
  (fulcrumref03_Norm.F (((a0.1.1, a0.1.2), a0.2), ())).bind fun y1 =>
  (fulcrumref02_Sign.F ((y1.1.1.1, y1.1.1.2), ())).bind fun y2 =>
  some (y2.1, ())
theorem fulcrumref03_Sign.eval (k : Nat) (a0 : Dt45) : evalF fulcrumref03_Sign.spec fulcrumref03_Sign.cals T Try.f51 k (a0, ()) = fulcrumref03_Sign.e  a0 := by kernel_rfl
theorem fulcrumref03_Sign.F_eq (a0 : Dt45) : fulcrumref03_Sign.F (a0, ()) = limF fulcrumref03_Sign.spec fulcrumref03_Sign.cals T Try.f51 (a0, ()) := by kernel_rfl
theorem fulcrumref03_Sign.of (k : Nat) (a0 : Dt45) {y : Int × Unit} (h : fulcrumref03_Sign.e  a0 = some y) : fulcrumref03_Sign.F (a0, ()) = some y := (fulcrumref03_Sign.F_eq a0).trans (limF_of (q := fulcrumref03_Sign.spec) (C := fulcrumref03_Sign.cals) (T := T) (f := Try.f51) (x := (a0, ())) (y := y) k ((fulcrumref03_Sign.eval k a0).trans h))

def fulcrumref05_Sign.spec : Spec := ⟨[(true, Kt47)], [(false, (.int .i64))], .own, fun j => match j with  | _ => []⟩
noncomputable def fulcrumref05_Sign.cals : Cals := (Cals.cons 51 fulcrumref03_Sign.sig (Cals.base tabs))
noncomputable def fulcrumref05_Sign.sig : Sig := fulcrumref05_Sign.spec.sig fulcrumref05_Sign.cals T Try.f34
noncomputable def fulcrumref05_Sign.F (x : Dt47 × Unit) : Option (Int × Unit) := limF fulcrumref05_Sign.spec fulcrumref05_Sign.cals T Try.f34 x
theorem fulcrumref05_Sign.ck : CalsOk Try.prog fulcrumref05_Sign.cals := (CalsOk.cons fulcrumref03_Sign.cal (CalsOk.base tabsOk))
theorem fulcrumref05_Sign.cal : CalOk Try.prog tabs 34 fulcrumref05_Sign.sig := calOk_lim' tabOk fulcrumref05_Sign.ck mix Try.func34 (by kernel_rfl) (by kernel_rfl) (by kernel_rfl) (by kernel_rfl)
noncomputable def fulcrumref05_Sign.e  (a0 : Dt47) : Option (Int × Unit) :=
  (fulcrumref03_Sign.F (((a0.1.1.1, a0.1.1.2), a0.1.2), ())).bind fun y1 =>
  let v2 := (y1.1 != (0 : Int))
  bif v2 then (some (y1.1, ()))
  else ((fulcrumref03_Sign.F (((a0.2.1.1, a0.2.1.2), a0.2.2), ())).bind fun y3 =>
  some (y3.1, ()))
theorem fulcrumref05_Sign.eval (k : Nat) (a0 : Dt47) : evalF fulcrumref05_Sign.spec fulcrumref05_Sign.cals T Try.f34 k (a0, ()) = fulcrumref05_Sign.e  a0 := by kernel_rfl
theorem fulcrumref05_Sign.F_eq (a0 : Dt47) : fulcrumref05_Sign.F (a0, ()) = limF fulcrumref05_Sign.spec fulcrumref05_Sign.cals T Try.f34 (a0, ()) := by kernel_rfl
theorem fulcrumref05_Sign.of (k : Nat) (a0 : Dt47) {y : Int × Unit} (h : fulcrumref05_Sign.e  a0 = some y) : fulcrumref05_Sign.F (a0, ()) = some y := (fulcrumref05_Sign.F_eq a0).trans (limF_of (q := fulcrumref05_Sign.spec) (C := fulcrumref05_Sign.cals) (T := T) (f := Try.f34) (x := (a0, ())) (y := y) k ((fulcrumref05_Sign.eval k a0).trans h))

def fulcrumref01_Add.spec : Spec := ⟨[(false, Kt41), (false, Kt41)], [(false, Kt41)], .own, fun j => match j with | 7 => [(0, .lf (.z 115 (.int .u32) false)), (1, .lf (.z 115 (.int .u32) false)), (5, .lf (.v true)), (6, .lf (.o 115 (.int .u32) true)), (7, .lf (.v true)), (8, .lf (.v true))] | _ => []⟩
noncomputable def fulcrumref01_Add.cals : Cals := (Cals.cons 104 fulcrumref01_at.sig (Cals.cons 72 fulcrumref01_Norm.sig (Cals.base tabs)))
noncomputable def fulcrumref01_Add.sig : Sig := fulcrumref01_Add.spec.sig fulcrumref01_Add.cals T Try.f95
noncomputable def fulcrumref01_Add.F (x : Dt41 × Dt41 × Unit) : Option (Dt41 × Unit) := limF fulcrumref01_Add.spec fulcrumref01_Add.cals T Try.f95 x
theorem fulcrumref01_Add.ck : CalsOk Try.prog fulcrumref01_Add.cals := (CalsOk.cons fulcrumref01_at.cal (CalsOk.cons fulcrumref01_Norm.cal (CalsOk.base tabsOk)))
theorem fulcrumref01_Add.cal : CalOk Try.prog tabs 95 fulcrumref01_Add.sig := calOk_lim' tabOk fulcrumref01_Add.ck mix Try.func95 (by kernel_rfl) (by kernel_rfl) (by kernel_rfl) (by kernel_rfl)
def fulcrumref01_Add.m7 (x0 : Dt41) (x1 : Dt41) (x5 : Int) (x6 : Dt41) (x7 : Int) (x8 : Int) : S := ⟨[(0, .one (.lf (.val false Kt41 x0))), (1, .one (.lf (.val false Kt41 x1))), (5, .one (.lf (.val true (.int .i64) x5))), (6, .one (.lf (.own 0))), (7, .one (.lf (.val true (.int .u64) x7))), (8, .one (.lf (.val true (.int .i64) x8)))], ⟨[some ⟨115, (.int .u32), true, true, x6⟩], []⟩⟩
noncomputable def fulcrumref01_Add.b7 (f7 : Dt41 → Dt41 → Int → Dt41 → Int → Int → Option (Dt41 × Unit)) (x0 : Dt41) (x1 : Dt41) (x5 : Int) (x6 : Dt41) (x7 : Int) (x8 : Int) : Option (Dt41 × Unit) :=
  let v1 := decide (x8 ≤ x5)
  bif v1 then ((fulcrumref01_at.F (x0, x8, ())).bind fun y2 =>
  (fulcrumref01_at.F (x1, x8, ())).bind fun y3 =>
  let v4 := IntKind.u64.wrap (y2.1 + y3.1)
  let v5 := IntKind.u64.wrap (v4 + x7)
  let v6 := IntKind.u32.wrap v5
  bif decide (0 ≤ x8) && decide (x8 < (List.length x6 : Int)) then (let v7 := List.set x6 (Int.toNat x8) v6
  bif decide ((32 : Int) < 0) then none
  else (let v8 := shrI .u64 v5 (32 : Int)
  let v9 := IntKind.i64.wrap (x8 + (1 : Int))
  f7 x0 x1 x5 v7 v8 v9))
  else none)
  else ((fulcrumref01_Norm.F (x6, ())).bind fun y10 =>
  some (y10.1, ()))
noncomputable def fulcrumref01_Add.e (f7 : Dt41 → Dt41 → Int → Dt41 → Int → Int → Option (Dt41 × Unit)) (a0 : Dt41) (a1 : Dt41) : Option (Dt41 × Unit) :=
  let v1 := (List.length a0 : Int)
  let v2 := (List.length a1 : Int)
  let v3 := decide (v2 > v1)
  bif v3 then (let v4 := (List.length a1 : Int)
  let v5 := IntKind.i64.wrap (v4 + (1 : Int))
  bif decide (0 ≤ v5) && (decide (v5 ≤ v5) && (decide (Int.toNat v5 * 4 ≤ 281474976710656) && Nat.blt 0 4)) then (let v6 := List.replicate (Int.toNat v5) (0 : Int)
  f7 a0 a1 v4 v6 (0 : Int) (0 : Int))
  else none)
  else (let v7 := IntKind.i64.wrap (v1 + (1 : Int))
  bif decide (0 ≤ v7) && (decide (v7 ≤ v7) && (decide (Int.toNat v7 * 4 ≤ 281474976710656) && Nat.blt 0 4)) then (let v8 := List.replicate (Int.toNat v7) (0 : Int)
  f7 a0 a1 v1 v8 (0 : Int) (0 : Int))
  else none)
noncomputable def fulcrumref01_Add.L7 (k : Nat) (x0 : Dt41) (x1 : Dt41) (x5 : Int) (x6 : Dt41) (x7 : Int) (x8 : Int) : Option (Dt41 × Unit) := heads (fulcrumref01_Add.spec.env fulcrumref01_Add.cals T Try.f95) (Func.pts Try.f95) k 7 (fulcrumref01_Add.m7 x0 x1 x5 x6 x7 x8)
theorem fulcrumref01_Add.L7_succ (k : Nat) (x0 : Dt41) (x1 : Dt41) (x5 : Int) (x6 : Dt41) (x7 : Int) (x8 : Int) : fulcrumref01_Add.L7 (k + 1) x0 x1 x5 x6 x7 x8 = fulcrumref01_Add.b7 (fulcrumref01_Add.L7 k) x0 x1 x5 x6 x7 x8 := by kernel_rfl
theorem fulcrumref01_Add.eval (k : Nat) (a0 : Dt41) (a1 : Dt41) : evalF fulcrumref01_Add.spec fulcrumref01_Add.cals T Try.f95 k (a0, a1, ()) = fulcrumref01_Add.e (fulcrumref01_Add.L7 k) a0 a1 := by kernel_rfl
theorem fulcrumref01_Add.F_eq (a0 : Dt41) (a1 : Dt41) : fulcrumref01_Add.F (a0, a1, ()) = limF fulcrumref01_Add.spec fulcrumref01_Add.cals T Try.f95 (a0, a1, ()) := by kernel_rfl
theorem fulcrumref01_Add.of (k : Nat) (a0 : Dt41) (a1 : Dt41) {y : Dt41 × Unit} (h : fulcrumref01_Add.e (fulcrumref01_Add.L7 k) a0 a1 = some y) : fulcrumref01_Add.F (a0, a1, ()) = some y := (fulcrumref01_Add.F_eq a0 a1).trans (limF_of (q := fulcrumref01_Add.spec) (C := fulcrumref01_Add.cals) (T := T) (f := Try.f95) (x := (a0, a1, ())) (y := y) k ((fulcrumref01_Add.eval k a0 a1).trans h))

def fulcrumref02_Add.spec : Spec := ⟨[(true, Kt43), (true, Kt43)], [(true, Kt43)], .own, fun j => match j with  | _ => []⟩
noncomputable def fulcrumref02_Add.cals : Cals := (Cals.cons 95 fulcrumref01_Add.sig (Cals.cons 89 fulcrumref02_made.sig (Cals.cons 90 fulcrumref01_Cmp.sig (Cals.cons 93 fulcrumref01_Sub.sig (Cals.base tabs)))))
noncomputable def fulcrumref02_Add.sig : Sig := fulcrumref02_Add.spec.sig fulcrumref02_Add.cals T Try.f75
noncomputable def fulcrumref02_Add.F (x : Dt43 × Dt43 × Unit) : Option (Dt43 × Unit) := limF fulcrumref02_Add.spec fulcrumref02_Add.cals T Try.f75 x
theorem fulcrumref02_Add.ck : CalsOk Try.prog fulcrumref02_Add.cals := (CalsOk.cons fulcrumref01_Add.cal (CalsOk.cons fulcrumref02_made.cal (CalsOk.cons fulcrumref01_Cmp.cal (CalsOk.cons fulcrumref01_Sub.cal (CalsOk.base tabsOk)))))
theorem fulcrumref02_Add.cal : CalOk Try.prog tabs 75 fulcrumref02_Add.sig := calOk_lim' tabOk fulcrumref02_Add.ck mix Try.func75 (by kernel_rfl) (by kernel_rfl) (by kernel_rfl) (by kernel_rfl)
noncomputable def fulcrumref02_Add.e  (a0 : Dt43) (a1 : Dt43) : Option (Dt43 × Unit) :=
  let v1 := (a0.1 == a1.1)
  bif v1 then ((fulcrumref01_Add.F (a0.2, a1.2, ())).bind fun y2 =>
  (fulcrumref02_made.F (a0.1, y2.1, ())).bind fun y3 =>
  some ((y3.1.1, y3.1.2), ()))
  else ((fulcrumref01_Cmp.F (a0.2, a1.2, ())).bind fun y4 =>
  let v5 := decide (y4.1 ≥ (0 : Int))
  bif v5 then ((fulcrumref01_Sub.F (a0.2, a1.2, ())).bind fun y6 =>
  (fulcrumref02_made.F (a0.1, y6.1, ())).bind fun y7 =>
  some ((y7.1.1, y7.1.2), ()))
  else ((fulcrumref01_Sub.F (a1.2, a0.2, ())).bind fun y8 =>
  (fulcrumref02_made.F (a1.1, y8.1, ())).bind fun y9 =>
  some ((y9.1.1, y9.1.2), ())))
theorem fulcrumref02_Add.eval (k : Nat) (a0 : Dt43) (a1 : Dt43) : evalF fulcrumref02_Add.spec fulcrumref02_Add.cals T Try.f75 k (a0, a1, ()) = fulcrumref02_Add.e  a0 a1 := by kernel_rfl
theorem fulcrumref02_Add.F_eq (a0 : Dt43) (a1 : Dt43) : fulcrumref02_Add.F (a0, a1, ()) = limF fulcrumref02_Add.spec fulcrumref02_Add.cals T Try.f75 (a0, a1, ()) := by kernel_rfl
theorem fulcrumref02_Add.of (k : Nat) (a0 : Dt43) (a1 : Dt43) {y : Dt43 × Unit} (h : fulcrumref02_Add.e  a0 a1 = some y) : fulcrumref02_Add.F (a0, a1, ()) = some y := (fulcrumref02_Add.F_eq a0 a1).trans (limF_of (q := fulcrumref02_Add.spec) (C := fulcrumref02_Add.cals) (T := T) (f := Try.f75) (x := (a0, a1, ())) (y := y) k ((fulcrumref02_Add.eval k a0 a1).trans h))

def fulcrumref01_Mul.spec : Spec := ⟨[(false, Kt41), (false, Kt41)], [(false, Kt41)], .own, fun j => match j with | 3 => [(0, .lf (.z 115 (.int .u32) false)), (1, .lf (.z 115 (.int .u32) false)), (5, .lf (.o 115 (.int .u32) true)), (6, .lf (.v true))] | 7 => [(0, .lf (.z 115 (.int .u32) false)), (1, .lf (.z 115 (.int .u32) false)), (5, .lf (.o 115 (.int .u32) true)), (6, .lf (.v true)), (7, .lf (.v true)), (8, .lf (.v true))] | _ => []⟩
noncomputable def fulcrumref01_Mul.cals : Cals := (Cals.cons 72 fulcrumref01_Norm.sig (Cals.base tabs))
noncomputable def fulcrumref01_Mul.sig : Sig := fulcrumref01_Mul.spec.sig fulcrumref01_Mul.cals T Try.f78
noncomputable def fulcrumref01_Mul.F (x : Dt41 × Dt41 × Unit) : Option (Dt41 × Unit) := limF fulcrumref01_Mul.spec fulcrumref01_Mul.cals T Try.f78 x
theorem fulcrumref01_Mul.ck : CalsOk Try.prog fulcrumref01_Mul.cals := (CalsOk.cons fulcrumref01_Norm.cal (CalsOk.base tabsOk))
theorem fulcrumref01_Mul.cal : CalOk Try.prog tabs 78 fulcrumref01_Mul.sig := calOk_lim' tabOk fulcrumref01_Mul.ck mix Try.func78 (by kernel_rfl) (by kernel_rfl) (by kernel_rfl) (by kernel_rfl)
def fulcrumref01_Mul.m3 (x0 : Dt41) (x1 : Dt41) (x5 : Dt41) (x6 : Int) : S := ⟨[(0, .one (.lf (.val false Kt41 x0))), (1, .one (.lf (.val false Kt41 x1))), (5, .one (.lf (.own 0))), (6, .one (.lf (.val true (.int .i64) x6)))], ⟨[some ⟨115, (.int .u32), true, true, x5⟩], []⟩⟩
def fulcrumref01_Mul.m7 (x0 : Dt41) (x1 : Dt41) (x5 : Dt41) (x6 : Int) (x7 : Int) (x8 : Int) : S := ⟨[(0, .one (.lf (.val false Kt41 x0))), (1, .one (.lf (.val false Kt41 x1))), (5, .one (.lf (.own 0))), (6, .one (.lf (.val true (.int .i64) x6))), (7, .one (.lf (.val true (.int .u64) x7))), (8, .one (.lf (.val true (.int .i64) x8)))], ⟨[some ⟨115, (.int .u32), true, true, x5⟩], []⟩⟩
noncomputable def fulcrumref01_Mul.b3 (f3 : Dt41 → Dt41 → Dt41 → Int → Option (Dt41 × Unit)) (f7 : Dt41 → Dt41 → Dt41 → Int → Int → Int → Option (Dt41 × Unit)) (x0 : Dt41) (x1 : Dt41) (x5 : Dt41) (x6 : Int) : Option (Dt41 × Unit) :=
  let v1 := (List.length x0 : Int)
  let v2 := decide (x6 < v1)
  bif v2 then (f7 x0 x1 x5 x6 (0 : Int) (0 : Int))
  else ((fulcrumref01_Norm.F (x5, ())).bind fun y3 =>
  some (y3.1, ()))
noncomputable def fulcrumref01_Mul.b7 (f3 : Dt41 → Dt41 → Dt41 → Int → Option (Dt41 × Unit)) (f7 : Dt41 → Dt41 → Dt41 → Int → Int → Int → Option (Dt41 × Unit)) (x0 : Dt41) (x1 : Dt41) (x5 : Dt41) (x6 : Int) (x7 : Int) (x8 : Int) : Option (Dt41 × Unit) :=
  let v1 := (List.length x1 : Int)
  let v2 := decide (x8 < v1)
  bif v2 then (bif decide (0 ≤ x6) && decide (x6 < (List.length x0 : Int)) then (let v3 := List.getD x0 (Int.toNat x6) (0 : Int)
  let v4 := IntKind.u64.wrap v3
  bif decide (0 ≤ x8) && decide (x8 < (List.length x1 : Int)) then (let v5 := List.getD x1 (Int.toNat x8) (0 : Int)
  let v6 := IntKind.u64.wrap v5
  let v7 := IntKind.u64.wrap (v4 * v6)
  let v8 := IntKind.i64.wrap (x6 + x8)
  bif decide (0 ≤ v8) && decide (v8 < (List.length x5 : Int)) then (let v9 := List.getD x5 (Int.toNat v8) (0 : Int)
  let v10 := IntKind.u64.wrap v9
  let v11 := IntKind.u64.wrap (v7 + v10)
  let v12 := IntKind.u64.wrap (v11 + x7)
  let v13 := IntKind.i64.wrap (x6 + x8)
  let v14 := IntKind.u32.wrap v12
  bif decide (0 ≤ v13) && decide (v13 < (List.length x5 : Int)) then (let v15 := List.set x5 (Int.toNat v13) v14
  bif decide ((32 : Int) < 0) then none
  else (let v16 := shrI .u64 v12 (32 : Int)
  let v17 := IntKind.i64.wrap (x8 + (1 : Int))
  f7 x0 x1 v15 x6 v16 v17))
  else none)
  else none)
  else none)
  else none)
  else (let v18 := (List.length x1 : Int)
  let v19 := IntKind.i64.wrap (x6 + v18)
  let v20 := IntKind.u32.wrap x7
  bif decide (0 ≤ v19) && decide (v19 < (List.length x5 : Int)) then (let v21 := List.set x5 (Int.toNat v19) v20
  let v22 := IntKind.i64.wrap (x6 + (1 : Int))
  f3 x0 x1 v21 v22)
  else none)
noncomputable def fulcrumref01_Mul.e (f3 : Dt41 → Dt41 → Dt41 → Int → Option (Dt41 × Unit)) (f7 : Dt41 → Dt41 → Dt41 → Int → Int → Int → Option (Dt41 × Unit)) (a0 : Dt41) (a1 : Dt41) : Option (Dt41 × Unit) :=
  let v1 := (List.length a0 : Int)
  let v2 := (List.length a1 : Int)
  let v3 := IntKind.i64.wrap (v1 + v2)
  bif decide (0 ≤ v3) && (decide (v3 ≤ v3) && (decide (Int.toNat v3 * 4 ≤ 281474976710656) && Nat.blt 0 4)) then (let v4 := List.replicate (Int.toNat v3) (0 : Int)
  f3 a0 a1 v4 (0 : Int))
  else none
noncomputable def fulcrumref01_Mul.L3 (k : Nat) (x0 : Dt41) (x1 : Dt41) (x5 : Dt41) (x6 : Int) : Option (Dt41 × Unit) := heads (fulcrumref01_Mul.spec.env fulcrumref01_Mul.cals T Try.f78) (Func.pts Try.f78) k 3 (fulcrumref01_Mul.m3 x0 x1 x5 x6)
noncomputable def fulcrumref01_Mul.L7 (k : Nat) (x0 : Dt41) (x1 : Dt41) (x5 : Dt41) (x6 : Int) (x7 : Int) (x8 : Int) : Option (Dt41 × Unit) := heads (fulcrumref01_Mul.spec.env fulcrumref01_Mul.cals T Try.f78) (Func.pts Try.f78) k 7 (fulcrumref01_Mul.m7 x0 x1 x5 x6 x7 x8)
theorem fulcrumref01_Mul.L3_succ (k : Nat) (x0 : Dt41) (x1 : Dt41) (x5 : Dt41) (x6 : Int) : fulcrumref01_Mul.L3 (k + 1) x0 x1 x5 x6 = fulcrumref01_Mul.b3 (fulcrumref01_Mul.L3 k) (fulcrumref01_Mul.L7 k) x0 x1 x5 x6 := by kernel_rfl
theorem fulcrumref01_Mul.L7_succ (k : Nat) (x0 : Dt41) (x1 : Dt41) (x5 : Dt41) (x6 : Int) (x7 : Int) (x8 : Int) : fulcrumref01_Mul.L7 (k + 1) x0 x1 x5 x6 x7 x8 = fulcrumref01_Mul.b7 (fulcrumref01_Mul.L3 k) (fulcrumref01_Mul.L7 k) x0 x1 x5 x6 x7 x8 := by kernel_rfl
theorem fulcrumref01_Mul.eval (k : Nat) (a0 : Dt41) (a1 : Dt41) : evalF fulcrumref01_Mul.spec fulcrumref01_Mul.cals T Try.f78 k (a0, a1, ()) = fulcrumref01_Mul.e (fulcrumref01_Mul.L3 k) (fulcrumref01_Mul.L7 k) a0 a1 := by kernel_rfl
theorem fulcrumref01_Mul.F_eq (a0 : Dt41) (a1 : Dt41) : fulcrumref01_Mul.F (a0, a1, ()) = limF fulcrumref01_Mul.spec fulcrumref01_Mul.cals T Try.f78 (a0, a1, ()) := by kernel_rfl
theorem fulcrumref01_Mul.of (k : Nat) (a0 : Dt41) (a1 : Dt41) {y : Dt41 × Unit} (h : fulcrumref01_Mul.e (fulcrumref01_Mul.L3 k) (fulcrumref01_Mul.L7 k) a0 a1 = some y) : fulcrumref01_Mul.F (a0, a1, ()) = some y := (fulcrumref01_Mul.F_eq a0 a1).trans (limF_of (q := fulcrumref01_Mul.spec) (C := fulcrumref01_Mul.cals) (T := T) (f := Try.f78) (x := (a0, a1, ())) (y := y) k ((fulcrumref01_Mul.eval k a0 a1).trans h))

def fulcrumref02_Mul.spec : Spec := ⟨[(true, Kt43), (true, Kt43)], [(true, Kt43)], .own, fun j => match j with  | _ => []⟩
noncomputable def fulcrumref02_Mul.cals : Cals := (Cals.cons 78 fulcrumref01_Mul.sig (Cals.cons 89 fulcrumref02_made.sig (Cals.base tabs)))
noncomputable def fulcrumref02_Mul.sig : Sig := fulcrumref02_Mul.spec.sig fulcrumref02_Mul.cals T Try.f76
noncomputable def fulcrumref02_Mul.F (x : Dt43 × Dt43 × Unit) : Option (Dt43 × Unit) := limF fulcrumref02_Mul.spec fulcrumref02_Mul.cals T Try.f76 x
theorem fulcrumref02_Mul.ck : CalsOk Try.prog fulcrumref02_Mul.cals := (CalsOk.cons fulcrumref01_Mul.cal (CalsOk.cons fulcrumref02_made.cal (CalsOk.base tabsOk)))
theorem fulcrumref02_Mul.cal : CalOk Try.prog tabs 76 fulcrumref02_Mul.sig := calOk_lim' tabOk fulcrumref02_Mul.ck mix Try.func76 (by kernel_rfl) (by kernel_rfl) (by kernel_rfl) (by kernel_rfl)
noncomputable def fulcrumref02_Mul.e  (a0 : Dt43) (a1 : Dt43) : Option (Dt43 × Unit) :=
  let v1 := (!(a0.1 == a1.1))
  (fulcrumref01_Mul.F (a0.2, a1.2, ())).bind fun y2 =>
  (fulcrumref02_made.F (v1, y2.1, ())).bind fun y3 =>
  some ((y3.1.1, y3.1.2), ())
theorem fulcrumref02_Mul.eval (k : Nat) (a0 : Dt43) (a1 : Dt43) : evalF fulcrumref02_Mul.spec fulcrumref02_Mul.cals T Try.f76 k (a0, a1, ()) = fulcrumref02_Mul.e  a0 a1 := by kernel_rfl
theorem fulcrumref02_Mul.F_eq (a0 : Dt43) (a1 : Dt43) : fulcrumref02_Mul.F (a0, a1, ()) = limF fulcrumref02_Mul.spec fulcrumref02_Mul.cals T Try.f76 (a0, a1, ()) := by kernel_rfl
theorem fulcrumref02_Mul.of (k : Nat) (a0 : Dt43) (a1 : Dt43) {y : Dt43 × Unit} (h : fulcrumref02_Mul.e  a0 a1 = some y) : fulcrumref02_Mul.F (a0, a1, ()) = some y := (fulcrumref02_Mul.F_eq a0 a1).trans (limF_of (q := fulcrumref02_Mul.spec) (C := fulcrumref02_Mul.cals) (T := T) (f := Try.f76) (x := (a0, a1, ())) (y := y) k ((fulcrumref02_Mul.eval k a0 a1).trans h))

def fulcrumref03_positive.spec : Spec := ⟨[(false, Kt41)], [(true, Kt43)], .shared, fun j => match j with  | _ => []⟩
noncomputable def fulcrumref03_positive.cals : Cals := (Cals.base tabs)
noncomputable def fulcrumref03_positive.sig : Sig := fulcrumref03_positive.spec.sig fulcrumref03_positive.cals T Try.f77
noncomputable def fulcrumref03_positive.F (x : Dt41 × Unit) : Option (Dt43 × Unit) := limF fulcrumref03_positive.spec fulcrumref03_positive.cals T Try.f77 x
theorem fulcrumref03_positive.ck : CalsOk Try.prog fulcrumref03_positive.cals := (CalsOk.base tabsOk)
theorem fulcrumref03_positive.cal : CalOk Try.prog tabs 77 fulcrumref03_positive.sig := calOk_lim' tabOk fulcrumref03_positive.ck mix Try.func77 (by kernel_rfl) (by kernel_rfl) (by kernel_rfl) (by kernel_rfl)
noncomputable def fulcrumref03_positive.e  (a0 : Dt41) : Option (Dt43 × Unit) :=
  some ((false, a0), ())
theorem fulcrumref03_positive.eval (k : Nat) (a0 : Dt41) : evalF fulcrumref03_positive.spec fulcrumref03_positive.cals T Try.f77 k (a0, ()) = fulcrumref03_positive.e  a0 := by kernel_rfl
theorem fulcrumref03_positive.F_eq (a0 : Dt41) : fulcrumref03_positive.F (a0, ()) = limF fulcrumref03_positive.spec fulcrumref03_positive.cals T Try.f77 (a0, ()) := by kernel_rfl
theorem fulcrumref03_positive.of (k : Nat) (a0 : Dt41) {y : Dt43 × Unit} (h : fulcrumref03_positive.e  a0 = some y) : fulcrumref03_positive.F (a0, ()) = some y := (fulcrumref03_positive.F_eq a0).trans (limF_of (q := fulcrumref03_positive.spec) (C := fulcrumref03_positive.cals) (T := T) (f := Try.f77) (x := (a0, ())) (y := y) k ((fulcrumref03_positive.eval k a0).trans h))

def fulcrumref03_Add.spec : Spec := ⟨[(true, Kt45), (true, Kt45)], [(true, Kt45)], .own, fun j => match j with  | _ => []⟩
noncomputable def fulcrumref03_Add.cals : Cals := (Cals.cons 61 fulcrumref03_Norm.sig (Cals.cons 77 fulcrumref03_positive.sig (Cals.cons 76 fulcrumref02_Mul.sig (Cals.cons 75 fulcrumref02_Add.sig (Cals.cons 78 fulcrumref01_Mul.sig (Cals.base tabs))))))
noncomputable def fulcrumref03_Add.sig : Sig := fulcrumref03_Add.spec.sig fulcrumref03_Add.cals T Try.f62
noncomputable def fulcrumref03_Add.F (x : Dt45 × Dt45 × Unit) : Option (Dt45 × Unit) := limF fulcrumref03_Add.spec fulcrumref03_Add.cals T Try.f62 x
theorem fulcrumref03_Add.ck : CalsOk Try.prog fulcrumref03_Add.cals := (CalsOk.cons fulcrumref03_Norm.cal (CalsOk.cons fulcrumref03_positive.cal (CalsOk.cons fulcrumref02_Mul.cal (CalsOk.cons fulcrumref02_Add.cal (CalsOk.cons fulcrumref01_Mul.cal (CalsOk.base tabsOk))))))
theorem fulcrumref03_Add.cal : CalOk Try.prog tabs 62 fulcrumref03_Add.sig := calOk_lim' tabOk fulcrumref03_Add.ck mix Try.func62 (by kernel_rfl) (by kernel_rfl) (by kernel_rfl) (by kernel_rfl)
noncomputable def fulcrumref03_Add.e  (a0 : Dt45) (a1 : Dt45) : Option (Dt45 × Unit) :=
  (fulcrumref03_Norm.F (((a0.1.1, a0.1.2), a0.2), ())).bind fun y1 =>
  (fulcrumref03_Norm.F (((a1.1.1, a1.1.2), a1.2), ())).bind fun y2 =>
  (fulcrumref03_positive.F (y2.1.2, ())).bind fun y3 =>
  (fulcrumref02_Mul.F ((y1.1.1.1, y1.1.1.2), (y3.1.1, y3.1.2), ())).bind fun y4 =>
  (fulcrumref03_positive.F (y1.1.2, ())).bind fun y5 =>
  (fulcrumref02_Mul.F ((y2.1.1.1, y2.1.1.2), (y5.1.1, y5.1.2), ())).bind fun y6 =>
  (fulcrumref02_Add.F ((y4.1.1, y4.1.2), (y6.1.1, y6.1.2), ())).bind fun y7 =>
  (fulcrumref01_Mul.F (y1.1.2, y2.1.2, ())).bind fun y8 =>
  (fulcrumref03_Norm.F (((y7.1.1, y7.1.2), y8.1), ())).bind fun y9 =>
  some (((y9.1.1.1, y9.1.1.2), y9.1.2), ())
theorem fulcrumref03_Add.eval (k : Nat) (a0 : Dt45) (a1 : Dt45) : evalF fulcrumref03_Add.spec fulcrumref03_Add.cals T Try.f62 k (a0, a1, ()) = fulcrumref03_Add.e  a0 a1 := by kernel_rfl
theorem fulcrumref03_Add.F_eq (a0 : Dt45) (a1 : Dt45) : fulcrumref03_Add.F (a0, a1, ()) = limF fulcrumref03_Add.spec fulcrumref03_Add.cals T Try.f62 (a0, a1, ()) := by kernel_rfl
theorem fulcrumref03_Add.of (k : Nat) (a0 : Dt45) (a1 : Dt45) {y : Dt45 × Unit} (h : fulcrumref03_Add.e  a0 a1 = some y) : fulcrumref03_Add.F (a0, a1, ()) = some y := (fulcrumref03_Add.F_eq a0 a1).trans (limF_of (q := fulcrumref03_Add.spec) (C := fulcrumref03_Add.cals) (T := T) (f := Try.f62) (x := (a0, a1, ())) (y := y) k ((fulcrumref03_Add.eval k a0 a1).trans h))

def fulcrumref02_Neg.spec : Spec := ⟨[(true, Kt43)], [(true, Kt43)], .own, fun j => match j with  | _ => []⟩
noncomputable def fulcrumref02_Neg.cals : Cals := (Cals.cons 89 fulcrumref02_made.sig (Cals.base tabs))
noncomputable def fulcrumref02_Neg.sig : Sig := fulcrumref02_Neg.spec.sig fulcrumref02_Neg.cals T Try.f79
noncomputable def fulcrumref02_Neg.F (x : Dt43 × Unit) : Option (Dt43 × Unit) := limF fulcrumref02_Neg.spec fulcrumref02_Neg.cals T Try.f79 x
theorem fulcrumref02_Neg.ck : CalsOk Try.prog fulcrumref02_Neg.cals := (CalsOk.cons fulcrumref02_made.cal (CalsOk.base tabsOk))
theorem fulcrumref02_Neg.cal : CalOk Try.prog tabs 79 fulcrumref02_Neg.sig := calOk_lim' tabOk fulcrumref02_Neg.ck mix Try.func79 (by kernel_rfl) (by kernel_rfl) (by kernel_rfl) (by kernel_rfl)
noncomputable def fulcrumref02_Neg.e  (a0 : Dt43) : Option (Dt43 × Unit) :=
  let v1 := not a0.1
  (fulcrumref02_made.F (v1, a0.2, ())).bind fun y2 =>
  some ((y2.1.1, y2.1.2), ())
theorem fulcrumref02_Neg.eval (k : Nat) (a0 : Dt43) : evalF fulcrumref02_Neg.spec fulcrumref02_Neg.cals T Try.f79 k (a0, ()) = fulcrumref02_Neg.e  a0 := by kernel_rfl
theorem fulcrumref02_Neg.F_eq (a0 : Dt43) : fulcrumref02_Neg.F (a0, ()) = limF fulcrumref02_Neg.spec fulcrumref02_Neg.cals T Try.f79 (a0, ()) := by kernel_rfl
theorem fulcrumref02_Neg.of (k : Nat) (a0 : Dt43) {y : Dt43 × Unit} (h : fulcrumref02_Neg.e  a0 = some y) : fulcrumref02_Neg.F (a0, ()) = some y := (fulcrumref02_Neg.F_eq a0).trans (limF_of (q := fulcrumref02_Neg.spec) (C := fulcrumref02_Neg.cals) (T := T) (f := Try.f79) (x := (a0, ())) (y := y) k ((fulcrumref02_Neg.eval k a0).trans h))

def fulcrumref03_Neg.spec : Spec := ⟨[(true, Kt45)], [(true, Kt45)], .own, fun j => match j with  | _ => []⟩
noncomputable def fulcrumref03_Neg.cals : Cals := (Cals.cons 61 fulcrumref03_Norm.sig (Cals.cons 79 fulcrumref02_Neg.sig (Cals.base tabs)))
noncomputable def fulcrumref03_Neg.sig : Sig := fulcrumref03_Neg.spec.sig fulcrumref03_Neg.cals T Try.f63
noncomputable def fulcrumref03_Neg.F (x : Dt45 × Unit) : Option (Dt45 × Unit) := limF fulcrumref03_Neg.spec fulcrumref03_Neg.cals T Try.f63 x
theorem fulcrumref03_Neg.ck : CalsOk Try.prog fulcrumref03_Neg.cals := (CalsOk.cons fulcrumref03_Norm.cal (CalsOk.cons fulcrumref02_Neg.cal (CalsOk.base tabsOk)))
theorem fulcrumref03_Neg.cal : CalOk Try.prog tabs 63 fulcrumref03_Neg.sig := calOk_lim' tabOk fulcrumref03_Neg.ck mix Try.func63 (by kernel_rfl) (by kernel_rfl) (by kernel_rfl) (by kernel_rfl)
noncomputable def fulcrumref03_Neg.e  (a0 : Dt45) : Option (Dt45 × Unit) :=
  (fulcrumref03_Norm.F (((a0.1.1, a0.1.2), a0.2), ())).bind fun y1 =>
  (fulcrumref02_Neg.F ((y1.1.1.1, y1.1.1.2), ())).bind fun y2 =>
  (fulcrumref03_Norm.F (((y2.1.1, y2.1.2), y1.1.2), ())).bind fun y3 =>
  some (((y3.1.1.1, y3.1.1.2), y3.1.2), ())
theorem fulcrumref03_Neg.eval (k : Nat) (a0 : Dt45) : evalF fulcrumref03_Neg.spec fulcrumref03_Neg.cals T Try.f63 k (a0, ()) = fulcrumref03_Neg.e  a0 := by kernel_rfl
theorem fulcrumref03_Neg.F_eq (a0 : Dt45) : fulcrumref03_Neg.F (a0, ()) = limF fulcrumref03_Neg.spec fulcrumref03_Neg.cals T Try.f63 (a0, ()) := by kernel_rfl
theorem fulcrumref03_Neg.of (k : Nat) (a0 : Dt45) {y : Dt45 × Unit} (h : fulcrumref03_Neg.e  a0 = some y) : fulcrumref03_Neg.F (a0, ()) = some y := (fulcrumref03_Neg.F_eq a0).trans (limF_of (q := fulcrumref03_Neg.spec) (C := fulcrumref03_Neg.cals) (T := T) (f := Try.f63) (x := (a0, ())) (y := y) k ((fulcrumref03_Neg.eval k a0).trans h))

def fulcrumref03_Sub.spec : Spec := ⟨[(true, Kt45), (true, Kt45)], [(true, Kt45)], .own, fun j => match j with  | _ => []⟩
noncomputable def fulcrumref03_Sub.cals : Cals := (Cals.cons 63 fulcrumref03_Neg.sig (Cals.cons 62 fulcrumref03_Add.sig (Cals.base tabs)))
noncomputable def fulcrumref03_Sub.sig : Sig := fulcrumref03_Sub.spec.sig fulcrumref03_Sub.cals T Try.f52
noncomputable def fulcrumref03_Sub.F (x : Dt45 × Dt45 × Unit) : Option (Dt45 × Unit) := limF fulcrumref03_Sub.spec fulcrumref03_Sub.cals T Try.f52 x
theorem fulcrumref03_Sub.ck : CalsOk Try.prog fulcrumref03_Sub.cals := (CalsOk.cons fulcrumref03_Neg.cal (CalsOk.cons fulcrumref03_Add.cal (CalsOk.base tabsOk)))
theorem fulcrumref03_Sub.cal : CalOk Try.prog tabs 52 fulcrumref03_Sub.sig := calOk_lim' tabOk fulcrumref03_Sub.ck mix Try.func52 (by kernel_rfl) (by kernel_rfl) (by kernel_rfl) (by kernel_rfl)
noncomputable def fulcrumref03_Sub.e  (a0 : Dt45) (a1 : Dt45) : Option (Dt45 × Unit) :=
  (fulcrumref03_Neg.F (((a1.1.1, a1.1.2), a1.2), ())).bind fun y1 =>
  (fulcrumref03_Add.F (((a0.1.1, a0.1.2), a0.2), ((y1.1.1.1, y1.1.1.2), y1.1.2), ())).bind fun y2 =>
  some (((y2.1.1.1, y2.1.1.2), y2.1.2), ())
theorem fulcrumref03_Sub.eval (k : Nat) (a0 : Dt45) (a1 : Dt45) : evalF fulcrumref03_Sub.spec fulcrumref03_Sub.cals T Try.f52 k (a0, a1, ()) = fulcrumref03_Sub.e  a0 a1 := by kernel_rfl
theorem fulcrumref03_Sub.F_eq (a0 : Dt45) (a1 : Dt45) : fulcrumref03_Sub.F (a0, a1, ()) = limF fulcrumref03_Sub.spec fulcrumref03_Sub.cals T Try.f52 (a0, a1, ()) := by kernel_rfl
theorem fulcrumref03_Sub.of (k : Nat) (a0 : Dt45) (a1 : Dt45) {y : Dt45 × Unit} (h : fulcrumref03_Sub.e  a0 a1 = some y) : fulcrumref03_Sub.F (a0, a1, ()) = some y := (fulcrumref03_Sub.F_eq a0 a1).trans (limF_of (q := fulcrumref03_Sub.spec) (C := fulcrumref03_Sub.cals) (T := T) (f := Try.f52) (x := (a0, a1, ())) (y := y) k ((fulcrumref03_Sub.eval k a0 a1).trans h))

def fulcrumref05_Sub.spec : Spec := ⟨[(true, Kt47), (true, Kt47)], [(true, Kt47)], .own, fun j => match j with  | _ => []⟩
noncomputable def fulcrumref05_Sub.cals : Cals := (Cals.cons 52 fulcrumref03_Sub.sig (Cals.base tabs))
noncomputable def fulcrumref05_Sub.sig : Sig := fulcrumref05_Sub.spec.sig fulcrumref05_Sub.cals T Try.f35
noncomputable def fulcrumref05_Sub.F (x : Dt47 × Dt47 × Unit) : Option (Dt47 × Unit) := limF fulcrumref05_Sub.spec fulcrumref05_Sub.cals T Try.f35 x
theorem fulcrumref05_Sub.ck : CalsOk Try.prog fulcrumref05_Sub.cals := (CalsOk.cons fulcrumref03_Sub.cal (CalsOk.base tabsOk))
theorem fulcrumref05_Sub.cal : CalOk Try.prog tabs 35 fulcrumref05_Sub.sig := calOk_lim' tabOk fulcrumref05_Sub.ck mix Try.func35 (by kernel_rfl) (by kernel_rfl) (by kernel_rfl) (by kernel_rfl)
noncomputable def fulcrumref05_Sub.e  (a0 : Dt47) (a1 : Dt47) : Option (Dt47 × Unit) :=
  (fulcrumref03_Sub.F (((a0.1.1.1, a0.1.1.2), a0.1.2), ((a1.1.1.1, a1.1.1.2), a1.1.2), ())).bind fun y1 =>
  (fulcrumref03_Sub.F (((a0.2.1.1, a0.2.1.2), a0.2.2), ((a1.2.1.1, a1.2.1.2), a1.2.2), ())).bind fun y2 =>
  some ((((y1.1.1.1, y1.1.1.2), y1.1.2), ((y2.1.1.1, y2.1.1.2), y2.1.2)), ())
theorem fulcrumref05_Sub.eval (k : Nat) (a0 : Dt47) (a1 : Dt47) : evalF fulcrumref05_Sub.spec fulcrumref05_Sub.cals T Try.f35 k (a0, a1, ()) = fulcrumref05_Sub.e  a0 a1 := by kernel_rfl
theorem fulcrumref05_Sub.F_eq (a0 : Dt47) (a1 : Dt47) : fulcrumref05_Sub.F (a0, a1, ()) = limF fulcrumref05_Sub.spec fulcrumref05_Sub.cals T Try.f35 (a0, a1, ()) := by kernel_rfl
theorem fulcrumref05_Sub.of (k : Nat) (a0 : Dt47) (a1 : Dt47) {y : Dt47 × Unit} (h : fulcrumref05_Sub.e  a0 a1 = some y) : fulcrumref05_Sub.F (a0, a1, ()) = some y := (fulcrumref05_Sub.F_eq a0 a1).trans (limF_of (q := fulcrumref05_Sub.spec) (C := fulcrumref05_Sub.cals) (T := T) (f := Try.f35) (x := (a0, a1, ())) (y := y) k ((fulcrumref05_Sub.eval k a0 a1).trans h))

def fulcrumref05_Cmp.spec : Spec := ⟨[(true, Kt47), (true, Kt47)], [(false, (.int .i64))], .own, fun j => match j with  | _ => []⟩
noncomputable def fulcrumref05_Cmp.cals : Cals := (Cals.cons 35 fulcrumref05_Sub.sig (Cals.cons 34 fulcrumref05_Sign.sig (Cals.base tabs)))
noncomputable def fulcrumref05_Cmp.sig : Sig := fulcrumref05_Cmp.spec.sig fulcrumref05_Cmp.cals T Try.f17
noncomputable def fulcrumref05_Cmp.F (x : Dt47 × Dt47 × Unit) : Option (Int × Unit) := limF fulcrumref05_Cmp.spec fulcrumref05_Cmp.cals T Try.f17 x
theorem fulcrumref05_Cmp.ck : CalsOk Try.prog fulcrumref05_Cmp.cals := (CalsOk.cons fulcrumref05_Sub.cal (CalsOk.cons fulcrumref05_Sign.cal (CalsOk.base tabsOk)))
theorem fulcrumref05_Cmp.cal : CalOk Try.prog tabs 17 fulcrumref05_Cmp.sig := calOk_lim' tabOk fulcrumref05_Cmp.ck mix Try.func17 (by kernel_rfl) (by kernel_rfl) (by kernel_rfl) (by kernel_rfl)
noncomputable def fulcrumref05_Cmp.e  (a0 : Dt47) (a1 : Dt47) : Option (Int × Unit) :=
  (fulcrumref05_Sub.F ((((a0.1.1.1, a0.1.1.2), a0.1.2), ((a0.2.1.1, a0.2.1.2), a0.2.2)), (((a1.1.1.1, a1.1.1.2), a1.1.2), ((a1.2.1.1, a1.2.1.2), a1.2.2)), ())).bind fun y1 =>
  (fulcrumref05_Sign.F ((((y1.1.1.1.1, y1.1.1.1.2), y1.1.1.2), ((y1.1.2.1.1, y1.1.2.1.2), y1.1.2.2)), ())).bind fun y2 =>
  some (y2.1, ())
theorem fulcrumref05_Cmp.eval (k : Nat) (a0 : Dt47) (a1 : Dt47) : evalF fulcrumref05_Cmp.spec fulcrumref05_Cmp.cals T Try.f17 k (a0, a1, ()) = fulcrumref05_Cmp.e  a0 a1 := by kernel_rfl
theorem fulcrumref05_Cmp.F_eq (a0 : Dt47) (a1 : Dt47) : fulcrumref05_Cmp.F (a0, a1, ()) = limF fulcrumref05_Cmp.spec fulcrumref05_Cmp.cals T Try.f17 (a0, a1, ()) := by kernel_rfl
theorem fulcrumref05_Cmp.of (k : Nat) (a0 : Dt47) (a1 : Dt47) {y : Int × Unit} (h : fulcrumref05_Cmp.e  a0 a1 = some y) : fulcrumref05_Cmp.F (a0, a1, ()) = some y := (fulcrumref05_Cmp.F_eq a0 a1).trans (limF_of (q := fulcrumref05_Cmp.spec) (C := fulcrumref05_Cmp.cals) (T := T) (f := Try.f17) (x := (a0, a1, ())) (y := y) k ((fulcrumref05_Cmp.eval k a0 a1).trans h))

def bounds_New.spec : XSpec := ⟨none, false, [(false, (.int .i64))], false, some ⟨75, Kt75⟩, [(false, (.int .i64))], false, fun j => match j with  | _ => []⟩
noncomputable def bounds_New.cals : Cals := (Cals.base tabs)
noncomputable def bounds_New.sig : XSig := bounds_New.spec.sig bounds_New.cals T Try.f8
noncomputable def bounds_New.F (d : Unit) (x : Int × Unit) : Option ((Option Dt75) × (Int × Unit) × Unit) := limX bounds_New.spec bounds_New.cals T Try.f8 d x
theorem bounds_New.ck : CalsOk Try.prog bounds_New.cals := (CalsOk.base tabsOk)
theorem bounds_New.cal : XOk Try.prog tabs 8 bounds_New.sig := xok_of tabOk bounds_New.ck mix Try.func8 (by kernel_rfl) (by kernel_rfl) (by kernel_rfl) (by kernel_rfl)
noncomputable def bounds_New.e  (G : Gh) (d : Unit) (a0 : Int) : Option (((Option Dt75) × (Int × Unit) × Unit) × Nat × List Value) :=
  let v1 := decide (a0 < (0 : Int))
  bif v1 then (some ((none, ((1 : Int), ()), ()), 0, []))
  else (let v2 := decide (a0 > (65536 : Int))
  bif v2 then (some ((none, ((1 : Int), ()), ()), 0, []))
  else (bif decide (0 ≤ a0) && (decide (a0 ≤ a0) && (decide (Int.toNat a0 * 256 ≤ 281474976710656) && Nat.blt 0 256)) then (let v3 := List.replicate (Int.toNat a0) zt55
  some ((some (zt73, (true, v3)), ((0 : Int), ()), ()), 0, []))
  else none))
theorem bounds_New.eval (k : Nat) (G : Gh) (d : Unit) (a0 : Int) : evalX bounds_New.spec bounds_New.cals T Try.f8 k G d (a0, ()) = bounds_New.e  G d a0 := by kernel_rfl
theorem bounds_New.of (d : Unit) (a0 : Int) (y : ((Option Dt75) × (Int × Unit) × Unit)) (h : ∀ G : Gh, ∃ k : Nat, bounds_New.e  G d a0 = some (y, (0, []))) : bounds_New.F d (a0, ()) = some y := limX_of (q := bounds_New.spec) (C := bounds_New.cals) (T := T) (f := Try.f8) (d := d) (x := (a0, ())) y fun G => (h G).imp fun k hk => (bounds_New.eval k G d a0).trans hk

def fulcrumref08_New.spec : Spec := ⟨[(false, (.int .i64))], [(true, Kt29), (false, (.int .i64))], .own, fun j => match j with  | _ => []⟩
noncomputable def fulcrumref08_New.cals : Cals := (Cals.base tabs)
noncomputable def fulcrumref08_New.sig : Sig := fulcrumref08_New.spec.sig fulcrumref08_New.cals T Try.f9
noncomputable def fulcrumref08_New.F (x : Int × Unit) : Option (Dt29 × Int × Unit) := limF fulcrumref08_New.spec fulcrumref08_New.cals T Try.f9 x
theorem fulcrumref08_New.ck : CalsOk Try.prog fulcrumref08_New.cals := (CalsOk.base tabsOk)
theorem fulcrumref08_New.cal : CalOk Try.prog tabs 9 fulcrumref08_New.sig := calOk_lim' tabOk fulcrumref08_New.ck mix Try.func9 (by kernel_rfl) (by kernel_rfl) (by kernel_rfl) (by kernel_rfl)
noncomputable def fulcrumref08_New.e  (a0 : Int) : Option (Dt29 × Int × Unit) :=
  let v1 := decide (a0 < (0 : Int))
  bif v1 then (some (zt29, (1 : Int), ()))
  else (let v2 := decide (a0 > (65536 : Int))
  bif v2 then (some (zt29, (1 : Int), ()))
  else (bif decide (0 ≤ a0) && (decide (a0 ≤ a0) && (decide (Int.toNat a0 * 256 ≤ 281474976710656) && Nat.blt 0 256)) then (let v3 := List.replicate (Int.toNat a0) zt55
  some ((v3, zt73), (0 : Int), ()))
  else none))
theorem fulcrumref08_New.eval (k : Nat) (a0 : Int) : evalF fulcrumref08_New.spec fulcrumref08_New.cals T Try.f9 k (a0, ()) = fulcrumref08_New.e  a0 := by kernel_rfl
theorem fulcrumref08_New.F_eq (a0 : Int) : fulcrumref08_New.F (a0, ()) = limF fulcrumref08_New.spec fulcrumref08_New.cals T Try.f9 (a0, ()) := by kernel_rfl
theorem fulcrumref08_New.of (k : Nat) (a0 : Int) {y : Dt29 × Int × Unit} (h : fulcrumref08_New.e  a0 = some y) : fulcrumref08_New.F (a0, ()) = some y := (fulcrumref08_New.F_eq a0).trans (limF_of (q := fulcrumref08_New.spec) (C := fulcrumref08_New.cals) (T := T) (f := Try.f9) (x := (a0, ())) (y := y) k ((fulcrumref08_New.eval k a0).trans h))

def bounds_Store_Grow.spec : XSpec := ⟨some ⟨75, 0, Kt75, 0⟩, false, [], false, none, [(false, (.int .i64)), (false, (.int .i64))], false, fun j => match j with  | _ => []⟩
noncomputable def bounds_Store_Grow.cals : Cals := (Cals.consX 31 false bounds_Store_is.sig (Cals.base tabs))
noncomputable def bounds_Store_Grow.sig : XSig := bounds_Store_Grow.spec.sig bounds_Store_Grow.cals T Try.f10
noncomputable def bounds_Store_Grow.F (d : Dt75) (x : Unit) : Option (Unit × (Int × Int × Unit) × Dt75) := limX bounds_Store_Grow.spec bounds_Store_Grow.cals T Try.f10 d x
theorem bounds_Store_Grow.ck : CalsOk Try.prog bounds_Store_Grow.cals := (CalsOk.consX bounds_Store_is.cal (CalsOk.base tabsOk))
theorem bounds_Store_Grow.cal : XOk Try.prog tabs 10 bounds_Store_Grow.sig := xok_of tabOk bounds_Store_Grow.ck mix Try.func10 (by kernel_rfl) (by kernel_rfl) (by kernel_rfl) (by kernel_rfl)
noncomputable def bounds_Store_Grow.e  (G : Gh) (d : Dt75)  : Option ((Unit × (Int × Int × Unit) × Dt75) × Nat × List Value) :=
  (bounds_Store_is.F ((d.1.1, d.1.2), (d.2.1, d.2.2)) ()).bind fun y1 =>
  let v2 := not y1.2.1.1
  bif v2 then (some (((), ((0 : Int), (1 : Int), ()), ((y1.2.2.1.1, y1.2.2.1.2), (y1.2.2.2.1, y1.2.2.2.2))), G.b, []))
  else (let v3 := (List.length y1.2.2.2.2 : Int)
  let v4 := (v3 == (65536 : Int))
  bif v4 then (some (((), ((0 : Int), (2 : Int), ()), ((y1.2.2.1.1, y1.2.2.1.2), (y1.2.2.2.1, y1.2.2.2.2))), G.b, []))
  else (let v5 := ([zt55] : List Dt55)
  bif decide (List.length y1.2.2.2.2 + List.length v5 < 549755813888) then (let v6 := List.append y1.2.2.2.2 v5
  let v7 := (List.length v6 : Int)
  let v8 := IntKind.i64.wrap (v7 - (1 : Int))
  some (((), (v8, (0 : Int), ()), ((y1.2.2.1.1, y1.2.2.1.2), (y1.2.2.2.1, v6))), G.b, []))
  else none))
theorem bounds_Store_Grow.eval (k : Nat) (G : Gh) (d : Dt75)  : evalX bounds_Store_Grow.spec bounds_Store_Grow.cals T Try.f10 k G d () = bounds_Store_Grow.e  G d  := by kernel_rfl
theorem bounds_Store_Grow.of (d : Dt75)  (y : (Unit × (Int × Int × Unit) × Dt75)) (h : ∀ G : Gh, ∃ k : Nat, bounds_Store_Grow.e  G d  = some (y, (G.b, []))) : bounds_Store_Grow.F d () = some y := limX_of (q := bounds_Store_Grow.spec) (C := bounds_Store_Grow.cals) (T := T) (f := Try.f10) (d := d) (x := ()) y fun G => (h G).imp fun k hk => (bounds_Store_Grow.eval k G d ).trans hk

def fulcrumref05_Norm.spec : Spec := ⟨[(true, Kt47)], [(true, Kt47)], .own, fun j => match j with  | _ => []⟩
noncomputable def fulcrumref05_Norm.cals : Cals := (Cals.cons 61 fulcrumref03_Norm.sig (Cals.base tabs))
noncomputable def fulcrumref05_Norm.sig : Sig := fulcrumref05_Norm.spec.sig fulcrumref05_Norm.cals T Try.f59
noncomputable def fulcrumref05_Norm.F (x : Dt47 × Unit) : Option (Dt47 × Unit) := limF fulcrumref05_Norm.spec fulcrumref05_Norm.cals T Try.f59 x
theorem fulcrumref05_Norm.ck : CalsOk Try.prog fulcrumref05_Norm.cals := (CalsOk.cons fulcrumref03_Norm.cal (CalsOk.base tabsOk))
theorem fulcrumref05_Norm.cal : CalOk Try.prog tabs 59 fulcrumref05_Norm.sig := calOk_lim' tabOk fulcrumref05_Norm.ck mix Try.func59 (by kernel_rfl) (by kernel_rfl) (by kernel_rfl) (by kernel_rfl)
noncomputable def fulcrumref05_Norm.e  (a0 : Dt47) : Option (Dt47 × Unit) :=
  (fulcrumref03_Norm.F (((a0.1.1.1, a0.1.1.2), a0.1.2), ())).bind fun y1 =>
  (fulcrumref03_Norm.F (((a0.2.1.1, a0.2.1.2), a0.2.2), ())).bind fun y2 =>
  some ((((y1.1.1.1, y1.1.1.2), y1.1.2), ((y2.1.1.1, y2.1.1.2), y2.1.2)), ())
theorem fulcrumref05_Norm.eval (k : Nat) (a0 : Dt47) : evalF fulcrumref05_Norm.spec fulcrumref05_Norm.cals T Try.f59 k (a0, ()) = fulcrumref05_Norm.e  a0 := by kernel_rfl
theorem fulcrumref05_Norm.F_eq (a0 : Dt47) : fulcrumref05_Norm.F (a0, ()) = limF fulcrumref05_Norm.spec fulcrumref05_Norm.cals T Try.f59 (a0, ()) := by kernel_rfl
theorem fulcrumref05_Norm.of (k : Nat) (a0 : Dt47) {y : Dt47 × Unit} (h : fulcrumref05_Norm.e  a0 = some y) : fulcrumref05_Norm.F (a0, ()) = some y := (fulcrumref05_Norm.F_eq a0).trans (limF_of (q := fulcrumref05_Norm.spec) (C := fulcrumref05_Norm.cals) (T := T) (f := Try.f59) (x := (a0, ())) (y := y) k ((fulcrumref05_Norm.eval k a0).trans h))

def fulcrumref08_Bound.spec : Spec := ⟨[(true, Kt53)], [(true, Kt53)], .own, fun j => match j with  | _ => []⟩
noncomputable def fulcrumref08_Bound.cals : Cals := (Cals.cons 59 fulcrumref05_Norm.sig (Cals.base tabs))
noncomputable def fulcrumref08_Bound.sig : Sig := fulcrumref08_Bound.spec.sig fulcrumref08_Bound.cals T Try.f48
noncomputable def fulcrumref08_Bound.F (x : Dt53 × Unit) : Option (Dt53 × Unit) := limF fulcrumref08_Bound.spec fulcrumref08_Bound.cals T Try.f48 x
theorem fulcrumref08_Bound.ck : CalsOk Try.prog fulcrumref08_Bound.cals := (CalsOk.cons fulcrumref05_Norm.cal (CalsOk.base tabsOk))
theorem fulcrumref08_Bound.cal : CalOk Try.prog tabs 48 fulcrumref08_Bound.sig := calOk_lim' tabOk fulcrumref08_Bound.ck mix Try.func48 (by kernel_rfl) (by kernel_rfl) (by kernel_rfl) (by kernel_rfl)
noncomputable def fulcrumref08_Bound.e  (a0 : Dt53) : Option (Dt53 × Unit) :=
  let v1 := not a0.1
  bif v1 then (some (zt53, ()))
  else ((fulcrumref05_Norm.F ((((a0.2.1.1.1.1, a0.2.1.1.1.2), a0.2.1.1.2), ((a0.2.1.2.1.1, a0.2.1.2.1.2), a0.2.1.2.2)), ())).bind fun y2 =>
  some ((true, ((((y2.1.1.1.1, y2.1.1.1.2), y2.1.1.2), ((y2.1.2.1.1, y2.1.2.1.2), y2.1.2.2)), a0.2.2)), ()))
theorem fulcrumref08_Bound.eval (k : Nat) (a0 : Dt53) : evalF fulcrumref08_Bound.spec fulcrumref08_Bound.cals T Try.f48 k (a0, ()) = fulcrumref08_Bound.e  a0 := by kernel_rfl
theorem fulcrumref08_Bound.F_eq (a0 : Dt53) : fulcrumref08_Bound.F (a0, ()) = limF fulcrumref08_Bound.spec fulcrumref08_Bound.cals T Try.f48 (a0, ()) := by kernel_rfl
theorem fulcrumref08_Bound.of (k : Nat) (a0 : Dt53) {y : Dt53 × Unit} (h : fulcrumref08_Bound.e  a0 = some y) : fulcrumref08_Bound.F (a0, ()) = some y := (fulcrumref08_Bound.F_eq a0).trans (limF_of (q := fulcrumref08_Bound.spec) (C := fulcrumref08_Bound.cals) (T := T) (f := Try.f48) (x := (a0, ())) (y := y) k ((fulcrumref08_Bound.eval k a0).trans h))

def fulcrumref08_Copy.spec : Spec := ⟨[(true, Kt29)], [(true, Kt29)], .own, fun j => match j with | 3 => [(1, .box 29 [.z 55 Kt55 false, .v false, .z 97 Kt97 false]), (2, .box 29 [.v true, .v true, .v true]), (3, .box 29 [.o 55 Kt55 true, .v false, .v true]), (4, .lf (.v true))] | 7 => [(1, .box 29 [.z 55 Kt55 false, .v false, .z 97 Kt97 false]), (2, .box 29 [.v true, .v true, .v true]), (3, .box 29 [.o 55 Kt55 true, .v false, .o 97 Kt97 true]), (5, .lf (.v true))] | _ => []⟩
noncomputable def fulcrumref08_Copy.cals : Cals := (Cals.cons 48 fulcrumref08_Bound.sig (Cals.base tabs))
noncomputable def fulcrumref08_Copy.sig : Sig := fulcrumref08_Copy.spec.sig fulcrumref08_Copy.cals T Try.f32
noncomputable def fulcrumref08_Copy.F (x : Dt29 × Unit) : Option (Dt29 × Unit) := limF fulcrumref08_Copy.spec fulcrumref08_Copy.cals T Try.f32 x
theorem fulcrumref08_Copy.ck : CalsOk Try.prog fulcrumref08_Copy.cals := (CalsOk.cons fulcrumref08_Bound.cal (CalsOk.base tabsOk))
theorem fulcrumref08_Copy.cal : CalOk Try.prog tabs 32 fulcrumref08_Copy.sig := calOk_lim' tabOk fulcrumref08_Copy.ck mix Try.func32 (by kernel_rfl) (by kernel_rfl) (by kernel_rfl) (by kernel_rfl)
def fulcrumref08_Copy.m3 (x1_0 : Dt26) (x1_1 : Int) (x1_2 : Dt27) (x2_1 : Int) (x3_0 : Dt26) (x3_1 : Int) (x4 : Int) : S := ⟨[(1, .box 0 0), (2, .box 1 0), (3, .box 2 0), (4, .one (.lf (.val true (.int .i64) x4)))], ⟨[some ⟨55, Kt55, true, true, x3_0⟩], [some ⟨29, [.val false Kt26 x1_0, .val false (.int .i64) x1_1, .val false Kt27 x1_2]⟩, some ⟨29, [.nil, .val true (.int .i64) x2_1, .nil]⟩, some ⟨29, [.own 0, .val false (.int .i64) x3_1, .nil]⟩]⟩⟩
def fulcrumref08_Copy.m7 (x1_0 : Dt26) (x1_1 : Int) (x1_2 : Dt27) (x2_1 : Int) (x3_0 : Dt26) (x3_1 : Int) (x3_2 : Dt27) (x5 : Int) : S := ⟨[(1, .box 0 0), (2, .box 1 0), (3, .box 2 0), (5, .one (.lf (.val true (.int .i64) x5)))], ⟨[some ⟨55, Kt55, true, true, x3_0⟩, some ⟨97, Kt97, true, true, x3_2⟩], [some ⟨29, [.val false Kt26 x1_0, .val false (.int .i64) x1_1, .val false Kt27 x1_2]⟩, some ⟨29, [.nil, .val true (.int .i64) x2_1, .nil]⟩, some ⟨29, [.own 0, .val false (.int .i64) x3_1, .own 1]⟩]⟩⟩
noncomputable def fulcrumref08_Copy.b3 (f3 : Dt26 → Int → Dt27 → Int → Dt26 → Int → Int → Option (Dt29 × Unit)) (f7 : Dt26 → Int → Dt27 → Int → Dt26 → Int → Dt27 → Int → Option (Dt29 × Unit)) (x1_0 : Dt26) (x1_1 : Int) (x1_2 : Dt27) (x2_1 : Int) (x3_0 : Dt26) (x3_1 : Int) (x4 : Int) : Option (Dt29 × Unit) :=
  let v1 := (List.length x1_0 : Int)
  let v2 := decide (x4 < v1)
  bif v2 then (bif decide (0 ≤ x4) && decide (x4 < (List.length x1_0 : Int)) then (let v3 := ((List.getD x1_0 (Int.toNat x4) zt55).1).1
  let v4 := ((((((List.getD x1_0 (Int.toNat x4) zt55).1).2).1).1).1).1
  let v5 := ((((((List.getD x1_0 (Int.toNat x4) zt55).1).2).1).1).1).2
  let v6 := (((((List.getD x1_0 (Int.toNat x4) zt55).1).2).1).1).2
  let v7 := ((((((List.getD x1_0 (Int.toNat x4) zt55).1).2).1).2).1).1
  let v8 := ((((((List.getD x1_0 (Int.toNat x4) zt55).1).2).1).2).1).2
  let v9 := (((((List.getD x1_0 (Int.toNat x4) zt55).1).2).1).2).2
  let v10 := (((List.getD x1_0 (Int.toNat x4) zt55).1).2).2
  (fulcrumref08_Bound.F ((v3, ((((v4, v5), v6), ((v7, v8), v9)), v10)), ())).bind fun y11 =>
  bif decide (0 ≤ x4) && decide (x4 < (List.length x1_0 : Int)) then (let v12 := ((List.getD x1_0 (Int.toNat x4) zt55).2).1
  let v13 := ((((((List.getD x1_0 (Int.toNat x4) zt55).2).2).1).1).1).1
  let v14 := ((((((List.getD x1_0 (Int.toNat x4) zt55).2).2).1).1).1).2
  let v15 := (((((List.getD x1_0 (Int.toNat x4) zt55).2).2).1).1).2
  let v16 := ((((((List.getD x1_0 (Int.toNat x4) zt55).2).2).1).2).1).1
  let v17 := ((((((List.getD x1_0 (Int.toNat x4) zt55).2).2).1).2).1).2
  let v18 := (((((List.getD x1_0 (Int.toNat x4) zt55).2).2).1).2).2
  let v19 := (((List.getD x1_0 (Int.toNat x4) zt55).2).2).2
  (fulcrumref08_Bound.F ((v12, ((((v13, v14), v15), ((v16, v17), v18)), v19)), ())).bind fun y20 =>
  let v21 := ([((y11.1.1, ((((y11.1.2.1.1.1.1, y11.1.2.1.1.1.2), y11.1.2.1.1.2), ((y11.1.2.1.2.1.1, y11.1.2.1.2.1.2), y11.1.2.1.2.2)), y11.1.2.2)), (y20.1.1, ((((y20.1.2.1.1.1.1, y20.1.2.1.1.1.2), y20.1.2.1.1.2), ((y20.1.2.1.2.1.1, y20.1.2.1.2.1.2), y20.1.2.1.2.2)), y20.1.2.2)))] : List Dt55)
  bif decide (List.length x3_0 + List.length v21 < 549755813888) then (let v22 := List.append x3_0 v21
  let v23 := IntKind.i64.wrap (x4 + (1 : Int))
  f3 x1_0 x1_1 x1_2 x2_1 v22 x3_1 v23)
  else none)
  else none)
  else none)
  else (f7 x1_0 x1_1 x1_2 x2_1 x3_0 x3_1 zt27 (0 : Int))
noncomputable def fulcrumref08_Copy.b7 (f3 : Dt26 → Int → Dt27 → Int → Dt26 → Int → Int → Option (Dt29 × Unit)) (f7 : Dt26 → Int → Dt27 → Int → Dt26 → Int → Dt27 → Int → Option (Dt29 × Unit)) (x1_0 : Dt26) (x1_1 : Int) (x1_2 : Dt27) (x2_1 : Int) (x3_0 : Dt26) (x3_1 : Int) (x3_2 : Dt27) (x5 : Int) : Option (Dt29 × Unit) :=
  let v1 := (List.length x1_2 : Int)
  let v2 := decide (x5 < v1)
  bif v2 then (bif decide (0 ≤ x5) && decide (x5 < (List.length x1_2 : Int)) then (let v3 := (List.getD x1_2 (Int.toNat x5) zt97).1
  let v4 := ((List.getD x1_2 (Int.toNat x5) zt97).2).1
  let v5 := (((List.getD x1_2 (Int.toNat x5) zt97).2).2).1
  let v6 := ((((List.getD x1_2 (Int.toNat x5) zt97).2).2).2).1
  let v7 := ((((((((List.getD x1_2 (Int.toNat x5) zt97).2).2).2).2).1).1).1).1
  let v8 := ((((((((List.getD x1_2 (Int.toNat x5) zt97).2).2).2).2).1).1).1).2
  let v9 := (((((((List.getD x1_2 (Int.toNat x5) zt97).2).2).2).2).1).1).2
  let v10 := ((((((((List.getD x1_2 (Int.toNat x5) zt97).2).2).2).2).1).2).1).1
  let v11 := ((((((((List.getD x1_2 (Int.toNat x5) zt97).2).2).2).2).1).2).1).2
  let v12 := (((((((List.getD x1_2 (Int.toNat x5) zt97).2).2).2).2).1).2).2
  let v13 := (((((List.getD x1_2 (Int.toNat x5) zt97).2).2).2).2).2
  (fulcrumref08_Bound.F ((v6, ((((v7, v8), v9), ((v10, v11), v12)), v13)), ())).bind fun y14 =>
  let v15 := ([(v3, (v4, (v5, (y14.1.1, ((((y14.1.2.1.1.1.1, y14.1.2.1.1.1.2), y14.1.2.1.1.2), ((y14.1.2.1.2.1.1, y14.1.2.1.2.1.2), y14.1.2.1.2.2)), y14.1.2.2)))))] : List Dt97)
  bif decide (List.length x3_2 + List.length v15 < 925904528653) then (let v16 := List.append x3_2 v15
  let v17 := IntKind.i64.wrap (x5 + (1 : Int))
  f7 x1_0 x1_1 x1_2 x2_1 x3_0 x3_1 v16 v17)
  else none)
  else none)
  else (some ((x3_0, (x3_1, x3_2)), ()))
noncomputable def fulcrumref08_Copy.e (f3 : Dt26 → Int → Dt27 → Int → Dt26 → Int → Int → Option (Dt29 × Unit)) (f7 : Dt26 → Int → Dt27 → Int → Dt26 → Int → Dt27 → Int → Option (Dt29 × Unit)) (a0 : Dt29) : Option (Dt29 × Unit) :=
  f3 a0.1 a0.2.1 a0.2.2 (0 : Int) zt26 a0.2.1 (0 : Int)
noncomputable def fulcrumref08_Copy.L3 (k : Nat) (x1_0 : Dt26) (x1_1 : Int) (x1_2 : Dt27) (x2_1 : Int) (x3_0 : Dt26) (x3_1 : Int) (x4 : Int) : Option (Dt29 × Unit) := heads (fulcrumref08_Copy.spec.env fulcrumref08_Copy.cals T Try.f32) (Func.pts Try.f32) k 3 (fulcrumref08_Copy.m3 x1_0 x1_1 x1_2 x2_1 x3_0 x3_1 x4)
noncomputable def fulcrumref08_Copy.L7 (k : Nat) (x1_0 : Dt26) (x1_1 : Int) (x1_2 : Dt27) (x2_1 : Int) (x3_0 : Dt26) (x3_1 : Int) (x3_2 : Dt27) (x5 : Int) : Option (Dt29 × Unit) := heads (fulcrumref08_Copy.spec.env fulcrumref08_Copy.cals T Try.f32) (Func.pts Try.f32) k 7 (fulcrumref08_Copy.m7 x1_0 x1_1 x1_2 x2_1 x3_0 x3_1 x3_2 x5)
theorem fulcrumref08_Copy.L3_succ (k : Nat) (x1_0 : Dt26) (x1_1 : Int) (x1_2 : Dt27) (x2_1 : Int) (x3_0 : Dt26) (x3_1 : Int) (x4 : Int) : fulcrumref08_Copy.L3 (k + 1) x1_0 x1_1 x1_2 x2_1 x3_0 x3_1 x4 = fulcrumref08_Copy.b3 (fulcrumref08_Copy.L3 k) (fulcrumref08_Copy.L7 k) x1_0 x1_1 x1_2 x2_1 x3_0 x3_1 x4 := by kernel_rfl
theorem fulcrumref08_Copy.L7_succ (k : Nat) (x1_0 : Dt26) (x1_1 : Int) (x1_2 : Dt27) (x2_1 : Int) (x3_0 : Dt26) (x3_1 : Int) (x3_2 : Dt27) (x5 : Int) : fulcrumref08_Copy.L7 (k + 1) x1_0 x1_1 x1_2 x2_1 x3_0 x3_1 x3_2 x5 = fulcrumref08_Copy.b7 (fulcrumref08_Copy.L3 k) (fulcrumref08_Copy.L7 k) x1_0 x1_1 x1_2 x2_1 x3_0 x3_1 x3_2 x5 := by kernel_rfl
theorem fulcrumref08_Copy.eval (k : Nat) (a0 : Dt29) : evalF fulcrumref08_Copy.spec fulcrumref08_Copy.cals T Try.f32 k (a0, ()) = fulcrumref08_Copy.e (fulcrumref08_Copy.L3 k) (fulcrumref08_Copy.L7 k) a0 := by kernel_rfl
theorem fulcrumref08_Copy.F_eq (a0 : Dt29) : fulcrumref08_Copy.F (a0, ()) = limF fulcrumref08_Copy.spec fulcrumref08_Copy.cals T Try.f32 (a0, ()) := by kernel_rfl
theorem fulcrumref08_Copy.of (k : Nat) (a0 : Dt29) {y : Dt29 × Unit} (h : fulcrumref08_Copy.e (fulcrumref08_Copy.L3 k) (fulcrumref08_Copy.L7 k) a0 = some y) : fulcrumref08_Copy.F (a0, ()) = some y := (fulcrumref08_Copy.F_eq a0).trans (limF_of (q := fulcrumref08_Copy.spec) (C := fulcrumref08_Copy.cals) (T := T) (f := Try.f32) (x := (a0, ())) (y := y) k ((fulcrumref08_Copy.eval k a0).trans h))

end Go.Fx.Try
