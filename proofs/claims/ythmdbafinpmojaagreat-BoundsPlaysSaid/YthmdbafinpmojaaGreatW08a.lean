import Derived.Test.YthmdbafinpmojaaGreatEv30
import Derived.Test.YthmdbafinpmojaaGreatProg
namespace Go.Fx.Tryz
open Go Go.Proofs Go.Fx
set_option linter.unusedVariables false
set_option maxRecDepth 100000

def ti3 : TI := ⟨.int .i64, (.int .i64), false, 8⟩
def T3 : Tab := Tab.cons 3 ti3 Tab.nil
theorem tab3 : TabOk Tryz.prog T3 := TabOk.cons (by kernel_rfl) { info := ⟨Tryz.t3, by kernel_rfl, by kernel_rfl, by kernel_rfl, (.int .i64 0), by kernel_rfl, by kernel_rfl⟩, agg := ⟨_, Tryz.underlying3, rfl⟩, desc := ⟨Tryz.underlying3, rfl⟩ } TabOk.nil
def ti4 : TI := ⟨.bool, .bool, false, 1⟩
def T4 : Tab := Tab.cons 4 ti4 T3
theorem tab4 : TabOk Tryz.prog T4 := TabOk.cons (by kernel_rfl) { info := ⟨Tryz.t4, by kernel_rfl, by kernel_rfl, by kernel_rfl, (.bool false), by kernel_rfl, by kernel_rfl⟩, agg := ⟨_, Tryz.underlying4, rfl⟩, desc := ⟨Tryz.underlying4, rfl⟩ } tab3
def ti114 : TI := ⟨.int .u32, (.int .u32), false, 4⟩
def T114 : Tab := Tab.cons 114 ti114 T4
theorem tab114 : TabOk Tryz.prog T114 := TabOk.cons (by kernel_rfl) { info := ⟨Tryz.t114, by kernel_rfl, by kernel_rfl, by kernel_rfl, (.int .u32 0), by kernel_rfl, by kernel_rfl⟩, agg := ⟨_, Tryz.underlying114, rfl⟩, desc := ⟨Tryz.underlying114, rfl⟩ } tab4
def ti38 : TI := ⟨.sl 114, (.sl 114 (.int .u32)), false, 24⟩
def T38 : Tab := Tab.cons 38 ti38 T114
theorem tab38 : TabOk Tryz.prog T38 := TabOk.cons (by kernel_rfl) { info := ⟨Tryz.t38, by kernel_rfl, by kernel_rfl, by kernel_rfl, (.slice none 0 0), by kernel_rfl, by kernel_rfl⟩, agg := ⟨_, Tryz.underlying38, rfl⟩, desc := ⟨Tryz.underlying38, ti114, by kernel_rfl, rfl, by decide⟩ } tab114
def ti40 : TI := ⟨.struct [(0, 4), (1, 38)], (.prod .bool (.sl 114 (.int .u32))), true, 32⟩
def T40 : Tab := Tab.cons 40 ti40 T38
theorem tab40 : TabOk Tryz.prog T40 := TabOk.cons (by kernel_rfl) { info := ⟨Tryz.t40, by kernel_rfl, by kernel_rfl, by kernel_rfl, (.agg #[.bool false, .slice none 0 0]), by kernel_rfl, by kernel_rfl⟩, agg := ⟨_, Tryz.underlying40, rfl⟩, desc := ⟨_, Tryz.underlying40, rfl, fun i o ft h => match i, h with | 0, h => by simp at h; obtain ⟨rfl, rfl⟩ := h; exact ⟨_, rfl, rfl, rfl, ti4, by kernel_rfl, by decide⟩ | 1, h => by simp at h; obtain ⟨rfl, rfl⟩ := h; exact ⟨_, rfl, rfl, rfl, ti38, by kernel_rfl, by decide⟩ | n + 2, h => by simp at h⟩ } tab38
def ti42 : TI := ⟨.struct [(0, 40), (2, 38)], (.prod (.prod .bool (.sl 114 (.int .u32))) (.sl 114 (.int .u32))), true, 56⟩
def T42 : Tab := Tab.cons 42 ti42 T40
theorem tab42 : TabOk Tryz.prog T42 := TabOk.cons (by kernel_rfl) { info := ⟨Tryz.t42, by kernel_rfl, by kernel_rfl, by kernel_rfl, (.agg #[.bool false, .slice none 0 0, .slice none 0 0]), by kernel_rfl, by kernel_rfl⟩, agg := ⟨_, Tryz.underlying42, rfl⟩, desc := ⟨_, Tryz.underlying42, rfl, fun i o ft h => match i, h with | 0, h => by simp at h; obtain ⟨rfl, rfl⟩ := h; exact ⟨_, rfl, rfl, rfl, ti40, by kernel_rfl, by decide⟩ | 1, h => by simp at h; obtain ⟨rfl, rfl⟩ := h; exact ⟨_, rfl, rfl, rfl, ti38, by kernel_rfl, by decide⟩ | n + 2, h => by simp at h⟩ } tab40
def ti44 : TI := ⟨.struct [(0, 42), (3, 42)], (.prod (.prod (.prod .bool (.sl 114 (.int .u32))) (.sl 114 (.int .u32))) (.prod (.prod .bool (.sl 114 (.int .u32))) (.sl 114 (.int .u32)))), true, 112⟩
def T44 : Tab := Tab.cons 44 ti44 T42
theorem tab44 : TabOk Tryz.prog T44 := TabOk.cons (by kernel_rfl) { info := ⟨Tryz.t44, by kernel_rfl, by kernel_rfl, by kernel_rfl, (.agg #[.bool false, .slice none 0 0, .slice none 0 0, .bool false, .slice none 0 0, .slice none 0 0]), by kernel_rfl, by kernel_rfl⟩, agg := ⟨_, Tryz.underlying44, rfl⟩, desc := ⟨_, Tryz.underlying44, rfl, fun i o ft h => match i, h with | 0, h => by simp at h; obtain ⟨rfl, rfl⟩ := h; exact ⟨_, rfl, rfl, rfl, ti42, by kernel_rfl, by decide⟩ | 1, h => by simp at h; obtain ⟨rfl, rfl⟩ := h; exact ⟨_, rfl, rfl, rfl, ti42, by kernel_rfl, by decide⟩ | n + 2, h => by simp at h⟩ } tab42
def ti66 : TI := ⟨.struct [(0, 4), (1, 44), (7, 3)], (.prod .bool (.prod (.prod (.prod (.prod .bool (.sl 114 (.int .u32))) (.sl 114 (.int .u32))) (.prod (.prod .bool (.sl 114 (.int .u32))) (.sl 114 (.int .u32)))) (.int .i64))), true, 128⟩
def T66 : Tab := Tab.cons 66 ti66 T44
theorem tab66 : TabOk Tryz.prog T66 := TabOk.cons (by kernel_rfl) { info := ⟨Tryz.t66, by kernel_rfl, by kernel_rfl, by kernel_rfl, (.agg #[.bool false, .bool false, .slice none 0 0, .slice none 0 0, .bool false, .slice none 0 0, .slice none 0 0,  .int .i64 0]), by kernel_rfl, by kernel_rfl⟩, agg := ⟨_, Tryz.underlying66, rfl⟩, desc := ⟨_, Tryz.underlying66, rfl, fun i o ft h => match i, h with | 0, h => by simp at h; obtain ⟨rfl, rfl⟩ := h; exact ⟨_, rfl, rfl, rfl, ti4, by kernel_rfl, by decide⟩ | 1, h => by simp at h; obtain ⟨rfl, rfl⟩ := h; exact ⟨_, rfl, rfl, rfl, ti44, by kernel_rfl, by decide⟩ | 2, h => by simp at h; obtain ⟨rfl, rfl⟩ := h; exact ⟨_, rfl, rfl, rfl, ti3, by kernel_rfl, by decide⟩ | n + 3, h => by simp at h⟩ } tab44
def ti70 : TI := ⟨.struct [(0, 3), (1, 4), (2, 3), (3, 66)], (.prod (.int .i64) (.prod .bool (.prod (.int .i64) (.prod .bool (.prod (.prod (.prod (.prod .bool (.sl 114 (.int .u32))) (.sl 114 (.int .u32))) (.prod (.prod .bool (.sl 114 (.int .u32))) (.sl 114 (.int .u32)))) (.int .i64)))))), true, 152⟩
def T70 : Tab := Tab.cons 70 ti70 T66
theorem tab70 : TabOk Tryz.prog T70 := TabOk.cons (by kernel_rfl) { info := ⟨Tryz.t70, by kernel_rfl, by kernel_rfl, by kernel_rfl, (.agg #[ .int .i64 0, .bool false,  .int .i64 0, .bool false, .bool false, .slice none 0 0, .slice none 0 0, .bool false, .slice none 0 0, .slice none 0 0,  .int .i64 0]), by kernel_rfl, by kernel_rfl⟩, agg := ⟨_, Tryz.underlying70, rfl⟩, desc := ⟨_, Tryz.underlying70, rfl, fun i o ft h => match i, h with | 0, h => by simp at h; obtain ⟨rfl, rfl⟩ := h; exact ⟨_, rfl, rfl, rfl, ti3, by kernel_rfl, by decide⟩ | 1, h => by simp at h; obtain ⟨rfl, rfl⟩ := h; exact ⟨_, rfl, rfl, rfl, ti4, by kernel_rfl, by decide⟩ | 2, h => by simp at h; obtain ⟨rfl, rfl⟩ := h; exact ⟨_, rfl, rfl, rfl, ti3, by kernel_rfl, by decide⟩ | 3, h => by simp at h; obtain ⟨rfl, rfl⟩ := h; exact ⟨_, rfl, rfl, rfl, ti66, by kernel_rfl, by decide⟩ | n + 4, h => by simp at h⟩ } tab66
def ti30 : TI := ⟨.sl 70, (.sl 70 (.prod (.int .i64) (.prod .bool (.prod (.int .i64) (.prod .bool (.prod (.prod (.prod (.prod .bool (.sl 114 (.int .u32))) (.sl 114 (.int .u32))) (.prod (.prod .bool (.sl 114 (.int .u32))) (.sl 114 (.int .u32)))) (.int .i64))))))), false, 24⟩
def T30 : Tab := Tab.cons 30 ti30 T70
theorem tab30 : TabOk Tryz.prog T30 := TabOk.cons (by kernel_rfl) { info := ⟨Tryz.t30, by kernel_rfl, by kernel_rfl, by kernel_rfl, (.slice none 0 0), by kernel_rfl, by kernel_rfl⟩, agg := ⟨_, Tryz.underlying30, rfl⟩, desc := ⟨Tryz.underlying30, ti70, by kernel_rfl, rfl, by decide⟩ } tab70
def ti79 : TI := ⟨.struct [(0, 3), (1, 30)], (.prod (.int .i64) (.sl 70 (.prod (.int .i64) (.prod .bool (.prod (.int .i64) (.prod .bool (.prod (.prod (.prod (.prod .bool (.sl 114 (.int .u32))) (.sl 114 (.int .u32))) (.prod (.prod .bool (.sl 114 (.int .u32))) (.sl 114 (.int .u32)))) (.int .i64)))))))), true, 32⟩
def T79 : Tab := Tab.cons 79 ti79 T30
theorem tab79 : TabOk Tryz.prog T79 := TabOk.cons (by kernel_rfl) { info := ⟨Tryz.t79, by kernel_rfl, by kernel_rfl, by kernel_rfl, (.agg #[ .int .i64 0, .slice none 0 0]), by kernel_rfl, by kernel_rfl⟩, agg := ⟨_, Tryz.underlying79, rfl⟩, desc := ⟨_, Tryz.underlying79, rfl, fun i o ft h => match i, h with | 0, h => by simp at h; obtain ⟨rfl, rfl⟩ := h; exact ⟨_, rfl, rfl, rfl, ti3, by kernel_rfl, by decide⟩ | 1, h => by simp at h; obtain ⟨rfl, rfl⟩ := h; exact ⟨_, rfl, rfl, rfl, ti30, by kernel_rfl, by decide⟩ | n + 2, h => by simp at h⟩ } tab30
def ti68 : TI := ⟨.struct [(0, 66), (8, 66)], (.prod (.prod .bool (.prod (.prod (.prod (.prod .bool (.sl 114 (.int .u32))) (.sl 114 (.int .u32))) (.prod (.prod .bool (.sl 114 (.int .u32))) (.sl 114 (.int .u32)))) (.int .i64))) (.prod .bool (.prod (.prod (.prod (.prod .bool (.sl 114 (.int .u32))) (.sl 114 (.int .u32))) (.prod (.prod .bool (.sl 114 (.int .u32))) (.sl 114 (.int .u32)))) (.int .i64)))), true, 256⟩
def T68 : Tab := Tab.cons 68 ti68 T79
theorem tab68 : TabOk Tryz.prog T68 := TabOk.cons (by kernel_rfl) { info := ⟨Tryz.t68, by kernel_rfl, by kernel_rfl, by kernel_rfl, (.agg #[.bool false, .bool false, .slice none 0 0, .slice none 0 0, .bool false, .slice none 0 0, .slice none 0 0,  .int .i64 0, .bool false, .bool false, .slice none 0 0, .slice none 0 0, .bool false, .slice none 0 0, .slice none 0 0,  .int .i64 0]), by kernel_rfl, by kernel_rfl⟩, agg := ⟨_, Tryz.underlying68, rfl⟩, desc := ⟨_, Tryz.underlying68, rfl, fun i o ft h => match i, h with | 0, h => by simp at h; obtain ⟨rfl, rfl⟩ := h; exact ⟨_, rfl, rfl, rfl, ti66, by kernel_rfl, by decide⟩ | 1, h => by simp at h; obtain ⟨rfl, rfl⟩ := h; exact ⟨_, rfl, rfl, rfl, ti66, by kernel_rfl, by decide⟩ | n + 2, h => by simp at h⟩ } tab79
def ti29 : TI := ⟨.sl 68, (.sl 68 (.prod (.prod .bool (.prod (.prod (.prod (.prod .bool (.sl 114 (.int .u32))) (.sl 114 (.int .u32))) (.prod (.prod .bool (.sl 114 (.int .u32))) (.sl 114 (.int .u32)))) (.int .i64))) (.prod .bool (.prod (.prod (.prod (.prod .bool (.sl 114 (.int .u32))) (.sl 114 (.int .u32))) (.prod (.prod .bool (.sl 114 (.int .u32))) (.sl 114 (.int .u32)))) (.int .i64))))), false, 24⟩
def T29 : Tab := Tab.cons 29 ti29 T68
theorem tab29 : TabOk Tryz.prog T29 := TabOk.cons (by kernel_rfl) { info := ⟨Tryz.t29, by kernel_rfl, by kernel_rfl, by kernel_rfl, (.slice none 0 0), by kernel_rfl, by kernel_rfl⟩, agg := ⟨_, Tryz.underlying29, rfl⟩, desc := ⟨Tryz.underlying29, ti68, by kernel_rfl, rfl, by decide⟩ } tab68
def ti81 : TI := ⟨.struct [(0, 79), (2, 4), (3, 29)], (.prod (.prod (.int .i64) (.sl 70 (.prod (.int .i64) (.prod .bool (.prod (.int .i64) (.prod .bool (.prod (.prod (.prod (.prod .bool (.sl 114 (.int .u32))) (.sl 114 (.int .u32))) (.prod (.prod .bool (.sl 114 (.int .u32))) (.sl 114 (.int .u32)))) (.int .i64)))))))) (.prod .bool (.sl 68 (.prod (.prod .bool (.prod (.prod (.prod (.prod .bool (.sl 114 (.int .u32))) (.sl 114 (.int .u32))) (.prod (.prod .bool (.sl 114 (.int .u32))) (.sl 114 (.int .u32)))) (.int .i64))) (.prod .bool (.prod (.prod (.prod (.prod .bool (.sl 114 (.int .u32))) (.sl 114 (.int .u32))) (.prod (.prod .bool (.sl 114 (.int .u32))) (.sl 114 (.int .u32)))) (.int .i64))))))), true, 64⟩
def T81 : Tab := Tab.cons 81 ti81 T29
theorem tab81 : TabOk Tryz.prog T81 := TabOk.cons (by kernel_rfl) { info := ⟨Tryz.t81, by kernel_rfl, by kernel_rfl, by kernel_rfl, (.agg #[ .int .i64 0, .slice none 0 0, .bool false, .slice none 0 0]), by kernel_rfl, by kernel_rfl⟩, agg := ⟨_, Tryz.underlying81, rfl⟩, desc := ⟨_, Tryz.underlying81, rfl, fun i o ft h => match i, h with | 0, h => by simp at h; obtain ⟨rfl, rfl⟩ := h; exact ⟨_, rfl, rfl, rfl, ti79, by kernel_rfl, by decide⟩ | 1, h => by simp at h; obtain ⟨rfl, rfl⟩ := h; exact ⟨_, rfl, rfl, rfl, ti4, by kernel_rfl, by decide⟩ | 2, h => by simp at h; obtain ⟨rfl, rfl⟩ := h; exact ⟨_, rfl, rfl, rfl, ti29, by kernel_rfl, by decide⟩ | n + 3, h => by simp at h⟩ } tab29
def ti26 : TI := ⟨.int .i64, (.int .i64), false, 8⟩
def T26 : Tab := Tab.cons 26 ti26 T81
theorem tab26 : TabOk Tryz.prog T26 := TabOk.cons (by kernel_rfl) { info := ⟨Tryz.t26, by kernel_rfl, by kernel_rfl, by kernel_rfl, (.int .i64 0), by kernel_rfl, by kernel_rfl⟩, agg := ⟨_, Tryz.underlying26, rfl⟩, desc := ⟨Tryz.underlying26, rfl⟩ } tab81
def ti32 : TI := ⟨.struct [(0, 29), (1, 3), (2, 30)], (.prod (.sl 68 (.prod (.prod .bool (.prod (.prod (.prod (.prod .bool (.sl 114 (.int .u32))) (.sl 114 (.int .u32))) (.prod (.prod .bool (.sl 114 (.int .u32))) (.sl 114 (.int .u32)))) (.int .i64))) (.prod .bool (.prod (.prod (.prod (.prod .bool (.sl 114 (.int .u32))) (.sl 114 (.int .u32))) (.prod (.prod .bool (.sl 114 (.int .u32))) (.sl 114 (.int .u32)))) (.int .i64))))) (.prod (.int .i64) (.sl 70 (.prod (.int .i64) (.prod .bool (.prod (.int .i64) (.prod .bool (.prod (.prod (.prod (.prod .bool (.sl 114 (.int .u32))) (.sl 114 (.int .u32))) (.prod (.prod .bool (.sl 114 (.int .u32))) (.sl 114 (.int .u32)))) (.int .i64))))))))), true, 56⟩
def T32 : Tab := Tab.cons 32 ti32 T26
theorem tab32 : TabOk Tryz.prog T32 := TabOk.cons (by kernel_rfl) { info := ⟨Tryz.t32, by kernel_rfl, by kernel_rfl, by kernel_rfl, (.agg #[.slice none 0 0,  .int .i64 0, .slice none 0 0]), by kernel_rfl, by kernel_rfl⟩, agg := ⟨_, Tryz.underlying32, rfl⟩, desc := ⟨_, Tryz.underlying32, rfl, fun i o ft h => match i, h with | 0, h => by simp at h; obtain ⟨rfl, rfl⟩ := h; exact ⟨_, rfl, rfl, rfl, ti29, by kernel_rfl, by decide⟩ | 1, h => by simp at h; obtain ⟨rfl, rfl⟩ := h; exact ⟨_, rfl, rfl, rfl, ti3, by kernel_rfl, by decide⟩ | 2, h => by simp at h; obtain ⟨rfl, rfl⟩ := h; exact ⟨_, rfl, rfl, rfl, ti30, by kernel_rfl, by decide⟩ | n + 3, h => by simp at h⟩ } tab26
def ti5 : TI := ⟨.int .u8, (.int .u8), false, 1⟩
def T5 : Tab := Tab.cons 5 ti5 T32
theorem tab5 : TabOk Tryz.prog T5 := TabOk.cons (by kernel_rfl) { info := ⟨Tryz.t5, by kernel_rfl, by kernel_rfl, by kernel_rfl, (.int .u8 0), by kernel_rfl, by kernel_rfl⟩, agg := ⟨_, Tryz.underlying5, rfl⟩, desc := ⟨Tryz.underlying5, rfl⟩ } tab32
def ti9 : TI := ⟨.str, .str, false, 16⟩
def T9 : Tab := Tab.cons 9 ti9 T5
theorem tab9 : TabOk Tryz.prog T9 := TabOk.cons (by kernel_rfl) { info := ⟨Tryz.t9, by kernel_rfl, by kernel_rfl, by kernel_rfl, (.string ByteArray.empty), by kernel_rfl, by kernel_rfl⟩, agg := ⟨_, Tryz.underlying9, rfl⟩, desc := ⟨Tryz.underlying9, rfl⟩ } tab5
def ti141 : TI := ⟨.int .u64, (.int .u64), false, 8⟩
def T141 : Tab := Tab.cons 141 ti141 T9
theorem tab141 : TabOk Tryz.prog T141 := TabOk.cons (by kernel_rfl) { info := ⟨Tryz.t141, by kernel_rfl, by kernel_rfl, by kernel_rfl, (.int .u64 0), by kernel_rfl, by kernel_rfl⟩, agg := ⟨_, Tryz.underlying141, rfl⟩, desc := ⟨Tryz.underlying141, rfl⟩ } tab9
def ti167 : TI := ⟨.sl 3, (.sl 3 (.int .i64)), false, 24⟩
def T167 : Tab := Tab.cons 167 ti167 T141
theorem tab167 : TabOk Tryz.prog T167 := TabOk.cons (by kernel_rfl) { info := ⟨Tryz.t167, by kernel_rfl, by kernel_rfl, by kernel_rfl, (.slice none 0 0), by kernel_rfl, by kernel_rfl⟩, agg := ⟨_, Tryz.underlying167, rfl⟩, desc := ⟨Tryz.underlying167, ti3, by kernel_rfl, rfl, by decide⟩ } tab141
def ti25 : TI := ⟨.ptr, .rp .unit, false, 8⟩
def T25 : Tab := Tab.cons 25 ti25 T167
theorem tab25 : TabOk Tryz.prog T25 := TabOk.cons (by kernel_rfl) { info := ⟨Tryz.t25, by kernel_rfl, by kernel_rfl, by kernel_rfl, (.pointer none), by kernel_rfl, by kernel_rfl⟩, agg := ⟨_, Tryz.underlying25, rfl⟩, desc := ⟨_, Tryz.underlying25⟩ } tab167
def ti83 : TI := ⟨.struct [(0, 3), (1, 3)], (.prod (.int .i64) (.int .i64)), true, 16⟩
def T83 : Tab := Tab.cons 83 ti83 T25
theorem tab83 : TabOk Tryz.prog T83 := TabOk.cons (by kernel_rfl) { info := ⟨Tryz.t83, by kernel_rfl, by kernel_rfl, by kernel_rfl, (.agg #[ .int .i64 0,  .int .i64 0]), by kernel_rfl, by kernel_rfl⟩, agg := ⟨_, Tryz.underlying83, rfl⟩, desc := ⟨_, Tryz.underlying83, rfl, fun i o ft h => match i, h with | 0, h => by simp at h; obtain ⟨rfl, rfl⟩ := h; exact ⟨_, rfl, rfl, rfl, ti3, by kernel_rfl, by decide⟩ | 1, h => by simp at h; obtain ⟨rfl, rfl⟩ := h; exact ⟨_, rfl, rfl, rfl, ti3, by kernel_rfl, by decide⟩ | n + 2, h => by simp at h⟩ } tab25
def ti154 : TI := ⟨.int .u64, (.int .u64), false, 8⟩
def T154 : Tab := Tab.cons 154 ti154 T83
theorem tab154 : TabOk Tryz.prog T154 := TabOk.cons (by kernel_rfl) { info := ⟨Tryz.t154, by kernel_rfl, by kernel_rfl, by kernel_rfl, (.int .u64 0), by kernel_rfl, by kernel_rfl⟩, agg := ⟨_, Tryz.underlying154, rfl⟩, desc := ⟨Tryz.underlying154, rfl⟩ } tab83
def ti45 : TI := ⟨.sl 44, (.sl 44 (.prod (.prod (.prod .bool (.sl 114 (.int .u32))) (.sl 114 (.int .u32))) (.prod (.prod .bool (.sl 114 (.int .u32))) (.sl 114 (.int .u32))))), false, 24⟩
def T45 : Tab := Tab.cons 45 ti45 T154
theorem tab45 : TabOk Tryz.prog T45 := TabOk.cons (by kernel_rfl) { info := ⟨Tryz.t45, by kernel_rfl, by kernel_rfl, by kernel_rfl, (.slice none 0 0), by kernel_rfl, by kernel_rfl⟩, agg := ⟨_, Tryz.underlying45, rfl⟩, desc := ⟨Tryz.underlying45, ti44, by kernel_rfl, rfl, by decide⟩ } tab154
def ti47 : TI := ⟨.struct [(0, 3), (1, 3), (2, 44), (8, 3), (9, 45)], (.prod (.int .i64) (.prod (.int .i64) (.prod (.prod (.prod (.prod .bool (.sl 114 (.int .u32))) (.sl 114 (.int .u32))) (.prod (.prod .bool (.sl 114 (.int .u32))) (.sl 114 (.int .u32)))) (.prod (.int .i64) (.sl 44 (.prod (.prod (.prod .bool (.sl 114 (.int .u32))) (.sl 114 (.int .u32))) (.prod (.prod .bool (.sl 114 (.int .u32))) (.sl 114 (.int .u32))))))))), true, 160⟩
def T47 : Tab := Tab.cons 47 ti47 T45
theorem tab47 : TabOk Tryz.prog T47 := TabOk.cons (by kernel_rfl) { info := ⟨Tryz.t47, by kernel_rfl, by kernel_rfl, by kernel_rfl, (.agg #[ .int .i64 0,  .int .i64 0, .bool false, .slice none 0 0, .slice none 0 0, .bool false, .slice none 0 0, .slice none 0 0,  .int .i64 0, .slice none 0 0]), by kernel_rfl, by kernel_rfl⟩, agg := ⟨_, Tryz.underlying47, rfl⟩, desc := ⟨_, Tryz.underlying47, rfl, fun i o ft h => match i, h with | 0, h => by simp at h; obtain ⟨rfl, rfl⟩ := h; exact ⟨_, rfl, rfl, rfl, ti3, by kernel_rfl, by decide⟩ | 1, h => by simp at h; obtain ⟨rfl, rfl⟩ := h; exact ⟨_, rfl, rfl, rfl, ti3, by kernel_rfl, by decide⟩ | 2, h => by simp at h; obtain ⟨rfl, rfl⟩ := h; exact ⟨_, rfl, rfl, rfl, ti44, by kernel_rfl, by decide⟩ | 3, h => by simp at h; obtain ⟨rfl, rfl⟩ := h; exact ⟨_, rfl, rfl, rfl, ti3, by kernel_rfl, by decide⟩ | 4, h => by simp at h; obtain ⟨rfl, rfl⟩ := h; exact ⟨_, rfl, rfl, rfl, ti45, by kernel_rfl, by decide⟩ | n + 5, h => by simp at h⟩ } tab45
def ti22 : TI := ⟨.sl 47, (.sl 47 (.prod (.int .i64) (.prod (.int .i64) (.prod (.prod (.prod (.prod .bool (.sl 114 (.int .u32))) (.sl 114 (.int .u32))) (.prod (.prod .bool (.sl 114 (.int .u32))) (.sl 114 (.int .u32)))) (.prod (.int .i64) (.sl 44 (.prod (.prod (.prod .bool (.sl 114 (.int .u32))) (.sl 114 (.int .u32))) (.prod (.prod .bool (.sl 114 (.int .u32))) (.sl 114 (.int .u32)))))))))), false, 24⟩
def T22 : Tab := Tab.cons 22 ti22 T47
theorem tab22 : TabOk Tryz.prog T22 := TabOk.cons (by kernel_rfl) { info := ⟨Tryz.t22, by kernel_rfl, by kernel_rfl, by kernel_rfl, (.slice none 0 0), by kernel_rfl, by kernel_rfl⟩, agg := ⟨_, Tryz.underlying22, rfl⟩, desc := ⟨Tryz.underlying22, ti47, by kernel_rfl, rfl, by decide⟩ } tab47
def ti24 : TI := ⟨.struct [(0, 3), (1, 22)], (.prod (.int .i64) (.sl 47 (.prod (.int .i64) (.prod (.int .i64) (.prod (.prod (.prod (.prod .bool (.sl 114 (.int .u32))) (.sl 114 (.int .u32))) (.prod (.prod .bool (.sl 114 (.int .u32))) (.sl 114 (.int .u32)))) (.prod (.int .i64) (.sl 44 (.prod (.prod (.prod .bool (.sl 114 (.int .u32))) (.sl 114 (.int .u32))) (.prod (.prod .bool (.sl 114 (.int .u32))) (.sl 114 (.int .u32))))))))))), true, 32⟩
def T24 : Tab := Tab.cons 24 ti24 T22
theorem tab24 : TabOk Tryz.prog T24 := TabOk.cons (by kernel_rfl) { info := ⟨Tryz.t24, by kernel_rfl, by kernel_rfl, by kernel_rfl, (.agg #[ .int .i64 0, .slice none 0 0]), by kernel_rfl, by kernel_rfl⟩, agg := ⟨_, Tryz.underlying24, rfl⟩, desc := ⟨_, Tryz.underlying24, rfl, fun i o ft h => match i, h with | 0, h => by simp at h; obtain ⟨rfl, rfl⟩ := h; exact ⟨_, rfl, rfl, rfl, ti3, by kernel_rfl, by decide⟩ | 1, h => by simp at h; obtain ⟨rfl, rfl⟩ := h; exact ⟨_, rfl, rfl, rfl, ti22, by kernel_rfl, by decide⟩ | n + 2, h => by simp at h⟩ } tab22
def T : Tab := T24
theorem tabOk : TabOk Tryz.prog T := tab24
theorem eqOk83 : EqOk Tryz.prog 83 2 := EqOk.of2 Tryz.underlying83 (by kernel_rfl) (by kernel_rfl) Tryz.underlying3 Tryz.underlying3 (by kernel_rfl) (by kernel_rfl) rfl rfl (fun w => (tabOk 3 ti3 (by kernel_rfl)).size) (fun w => (tabOk 3 ti3 (by kernel_rfl)).size) (fun w => (tabOk 3 ti3 (by kernel_rfl)).isAgg) (fun w => (tabOk 3 ti3 (by kernel_rfl)).isAgg)
theorem mix : Tryz.prog.follows .mixedOrders = true := by kernel_rfl
def tabs : Nat → Option Tbl := noTabs
theorem tabsOk : ∀ g tb, tabs g = some tb → TblOk Tryz.prog tb := noTabs_ok

abbrev Kt167 : K := (.sl 3 (.int .i64))
abbrev Dt167 : Type := (List Int)
abbrev zt167 : Dt167 := ([] : List Int)
abbrev Kt38 : K := (.sl 114 (.int .u32))
abbrev Dt38 : Type := Dt167
abbrev zt38 : Dt38 := zt167
abbrev Kt83 : K := (.prod (.int .i64) (.int .i64))
abbrev Dt83 : Type := (Int × Int)
abbrev zt83 : Dt83 := ((0 : Int), (0 : Int))
abbrev Kt40 : K := (.prod .bool Kt38)
abbrev Dt40 : Type := (Bool × Dt38)
abbrev zt40 : Dt40 := (false, zt38)
abbrev Kt42 : K := (.prod Kt40 Kt38)
abbrev Dt42 : Type := (Dt40 × Dt38)
abbrev zt42 : Dt42 := (zt40, zt38)
abbrev Kt44 : K := (.prod Kt42 Kt42)
abbrev Dt44 : Type := (Dt42 × Dt42)
abbrev zt44 : Dt44 := (zt42, zt42)
abbrev Kt45 : K := (.sl 44 Kt44)
abbrev Dt45 : Type := (List Dt44)
abbrev zt45 : Dt45 := ([] : List (((Bool × (List Int)) × (List Int)) × ((Bool × (List Int)) × (List Int))))
abbrev Kt66 : K := (.prod .bool (.prod Kt44 (.int .i64)))
abbrev Dt66 : Type := (Bool × (Dt44 × Int))
abbrev zt66 : Dt66 := (false, (zt44, (0 : Int)))
abbrev Kt70 : K := (.prod (.int .i64) (.prod .bool (.prod (.int .i64) Kt66)))
abbrev Dt70 : Type := (Int × (Bool × (Int × Dt66)))
abbrev zt70 : Dt70 := ((0 : Int), (false, ((0 : Int), zt66)))
abbrev Kt30 : K := (.sl 70 Kt70)
abbrev Dt30 : Type := (List Dt70)
abbrev zt30 : Dt30 := ([] : List (Int × (Bool × (Int × (Bool × ((((Bool × (List Int)) × (List Int)) × ((Bool × (List Int)) × (List Int))) × Int))))))
abbrev Kt79 : K := (.prod (.int .i64) Kt30)
abbrev Dt79 : Type := (Int × Dt30)
abbrev zt79 : Dt79 := ((0 : Int), zt30)
abbrev Kt68 : K := (.prod Kt66 Kt66)
abbrev Dt68 : Type := (Dt66 × Dt66)
abbrev zt68 : Dt68 := (zt66, zt66)
abbrev Kt47 : K := (.prod (.int .i64) (.prod (.int .i64) (.prod Kt44 (.prod (.int .i64) Kt45))))
abbrev Dt47 : Type := (Int × (Int × (Dt44 × (Int × Dt45))))
abbrev zt47 : Dt47 := ((0 : Int), ((0 : Int), (zt44, ((0 : Int), zt45))))
abbrev Kt29 : K := (.sl 68 Kt68)
abbrev Dt29 : Type := (List Dt68)
abbrev zt29 : Dt29 := ([] : List ((Bool × ((((Bool × (List Int)) × (List Int)) × ((Bool × (List Int)) × (List Int))) × Int)) × (Bool × ((((Bool × (List Int)) × (List Int)) × ((Bool × (List Int)) × (List Int))) × Int))))
abbrev Kt22 : K := (.sl 47 Kt47)
abbrev Dt22 : Type := (List Dt47)
abbrev zt22 : Dt22 := ([] : List (Int × (Int × ((((Bool × (List Int)) × (List Int)) × ((Bool × (List Int)) × (List Int))) × (Int × (List (((Bool × (List Int)) × (List Int)) × ((Bool × (List Int)) × (List Int)))))))))
abbrev Kt24 : K := (.prod (.int .i64) Kt22)
abbrev Dt24 : Type := (Int × Dt22)
abbrev zt24 : Dt24 := ((0 : Int), zt22)
abbrev Kt32 : K := (.prod Kt29 Kt79)
abbrev Dt32 : Type := (Dt29 × Dt79)
abbrev zt32 : Dt32 := (zt29, zt79)
abbrev Kt81 : K := (.prod Kt79 (.prod .bool Kt29))
abbrev Dt81 : Type := (Dt79 × (Bool × Dt29))
abbrev zt81 : Dt81 := (zt79, (false, zt29))

def bounds_New.spec : XSpec := ⟨none, false, [(false, (.int .i64))], false, some ⟨81, Kt81⟩, [(false, (.int .i64))], false, fun j => match j with  | _ => []⟩
noncomputable def bounds_New.cals : Cals := (Cals.base tabs)
noncomputable def bounds_New.sig : XSig := bounds_New.spec.sig bounds_New.cals T Tryz.f7
noncomputable def bounds_New.F (d : Unit) (x : Int × Unit) : Option ((Option Dt81) × (Int × Unit) × Unit) := limX bounds_New.spec bounds_New.cals T Tryz.f7 d x
theorem bounds_New.ck : CalsOk Tryz.prog bounds_New.cals := (CalsOk.base tabsOk)
theorem bounds_New.cal : XOk Tryz.prog tabs 7 bounds_New.sig := xok_of tabOk bounds_New.ck mix Tryz.func7 (by kernel_rfl) (by kernel_rfl) (by kernel_rfl) (by kernel_rfl)
noncomputable def bounds_New.e  (G : Gh) (d : Unit) (a0 : Int) : Option (((Option Dt81) × (Int × Unit) × Unit) × Nat × List Value) :=
  let v1 := decide (a0 < (0 : Int))
  bif v1 then (some ((none, ((1 : Int), ()), ()), 0, []))
  else (let v2 := decide (a0 > (65536 : Int))
  bif v2 then (some ((none, ((1 : Int), ()), ()), 0, []))
  else (bif decide (0 ≤ a0) && (decide (a0 ≤ a0) && (decide (Int.toNat a0 * 256 ≤ 281474976710656) && Nat.blt 0 256)) then (let v3 := List.replicate (Int.toNat a0) zt68
  some ((some (zt79, (true, v3)), ((0 : Int), ()), ()), 0, []))
  else none))
theorem bounds_New.eval (k : Nat) (G : Gh) (d : Unit) (a0 : Int) : evalX bounds_New.spec bounds_New.cals T Tryz.f7 k G d (a0, ()) = bounds_New.e  G d a0 := by kernel_rfl
theorem bounds_New.of (d : Unit) (a0 : Int) (y : ((Option Dt81) × (Int × Unit) × Unit)) (h : ∀ G : Gh, ∃ k : Nat, bounds_New.e  G d a0 = some (y, (0, []))) : bounds_New.F d (a0, ()) = some y := limX_of (q := bounds_New.spec) (C := bounds_New.cals) (T := T) (f := Tryz.f7) (d := d) (x := (a0, ())) y fun G => (h G).imp fun k hk => (bounds_New.eval k G d a0).trans hk

def fulcrumref08_New.spec : Spec := ⟨[(false, (.int .i64))], [(true, Kt32), (false, (.int .i64))], .own, fun j => match j with  | _ => []⟩
noncomputable def fulcrumref08_New.cals : Cals := (Cals.base tabs)
noncomputable def fulcrumref08_New.sig : Sig := fulcrumref08_New.spec.sig fulcrumref08_New.cals T Tryz.f8
noncomputable def fulcrumref08_New.F (x : Int × Unit) : Option (Dt32 × Int × Unit) := limF fulcrumref08_New.spec fulcrumref08_New.cals T Tryz.f8 x
theorem fulcrumref08_New.ck : CalsOk Tryz.prog fulcrumref08_New.cals := (CalsOk.base tabsOk)
theorem fulcrumref08_New.cal : CalOk Tryz.prog tabs 8 fulcrumref08_New.sig := calOk_lim' tabOk fulcrumref08_New.ck mix Tryz.func8 (by kernel_rfl) (by kernel_rfl) (by kernel_rfl) (by kernel_rfl)
noncomputable def fulcrumref08_New.e  (a0 : Int) : Option (Dt32 × Int × Unit) :=
  let v1 := decide (a0 < (0 : Int))
  bif v1 then (some (zt32, (1 : Int), ()))
  else (let v2 := decide (a0 > (65536 : Int))
  bif v2 then (some (zt32, (1 : Int), ()))
  else (bif decide (0 ≤ a0) && (decide (a0 ≤ a0) && (decide (Int.toNat a0 * 256 ≤ 281474976710656) && Nat.blt 0 256)) then (let v3 := List.replicate (Int.toNat a0) zt68
  some ((v3, zt79), (0 : Int), ()))
  else none))
theorem fulcrumref08_New.eval (k : Nat) (a0 : Int) : evalF fulcrumref08_New.spec fulcrumref08_New.cals T Tryz.f8 k (a0, ()) = fulcrumref08_New.e  a0 := by kernel_rfl
theorem fulcrumref08_New.F_eq (a0 : Int) : fulcrumref08_New.F (a0, ()) = limF fulcrumref08_New.spec fulcrumref08_New.cals T Tryz.f8 (a0, ()) := by kernel_rfl
theorem fulcrumref08_New.of (k : Nat) (a0 : Int) {y : Dt32 × Int × Unit} (h : fulcrumref08_New.e  a0 = some y) : fulcrumref08_New.F (a0, ()) = some y := (fulcrumref08_New.F_eq a0).trans (limF_of (q := fulcrumref08_New.spec) (C := fulcrumref08_New.cals) (T := T) (f := Tryz.f8) (x := (a0, ())) (y := y) k ((fulcrumref08_New.eval k a0).trans h))

def nat_trim.spec : Spec := ⟨[(false, Kt38)], [(false, Kt38)], .shared, fun j => match j with | 2 => [(0, .lf (.z 114 (.int .u32) true)), (3, .lf (.v true))] | _ => []⟩
noncomputable def nat_trim.cals : Cals := (Cals.base tabs)
noncomputable def nat_trim.sig : Sig := nat_trim.spec.sig nat_trim.cals T Tryz.f104
noncomputable def nat_trim.F (x : Dt38 × Unit) : Option (Dt38 × Unit) := limF nat_trim.spec nat_trim.cals T Tryz.f104 x
theorem nat_trim.ck : CalsOk Tryz.prog nat_trim.cals := (CalsOk.base tabsOk)
theorem nat_trim.cal : CalOk Tryz.prog tabs 104 nat_trim.sig := calOk_lim' tabOk nat_trim.ck mix Tryz.func104 (by kernel_rfl) (by kernel_rfl) (by kernel_rfl) (by kernel_rfl)
def nat_trim.m2 (x0 : Dt38) (x3 : Int) : S := ⟨[(0, .one (.lf (.val true Kt38 x0))), (3, .one (.lf (.val true (.int .i64) x3)))], ⟨[], []⟩⟩
noncomputable def nat_trim.b2 (f2 : Dt38 → Int → Option (Dt38 × Unit)) (x0 : Dt38) (x3 : Int) : Option (Dt38 × Unit) :=
  let v1 := decide (x3 > (0 : Int))
  bif v1 then (let v2 := IntKind.i64.wrap (x3 - (1 : Int))
  bif decide (0 ≤ v2) && decide (v2 < (List.length x0 : Int)) then (let v3 := List.getD x0 (Int.toNat v2) (0 : Int)
  let v4 := (v3 == (0 : Int))
  bif v4 then (let v5 := IntKind.i64.wrap (x3 - (1 : Int))
  f2 x0 v5)
  else (bif decide (0 ≤ x3) && decide (x3 ≤ (List.length x0 : Int)) then (let v6 := List.take (Int.toNat x3) x0
  some (v6, ()))
  else none))
  else none)
  else (bif decide (0 ≤ x3) && decide (x3 ≤ (List.length x0 : Int)) then (let v7 := List.take (Int.toNat x3) x0
  some (v7, ()))
  else none)
noncomputable def nat_trim.e (f2 : Dt38 → Int → Option (Dt38 × Unit)) (a0 : Dt38) : Option (Dt38 × Unit) :=
  let v1 := (List.length a0 : Int)
  f2 a0 v1
noncomputable def nat_trim.L2 (k : Nat) (x0 : Dt38) (x3 : Int) : Option (Dt38 × Unit) := heads (nat_trim.spec.env nat_trim.cals T Tryz.f104) (Func.pts Tryz.f104) k 2 (nat_trim.m2 x0 x3)
theorem nat_trim.L2_succ (k : Nat) (x0 : Dt38) (x3 : Int) : nat_trim.L2 (k + 1) x0 x3 = nat_trim.b2 (nat_trim.L2 k) x0 x3 := by kernel_rfl
theorem nat_trim.eval (k : Nat) (a0 : Dt38) : evalF nat_trim.spec nat_trim.cals T Tryz.f104 k (a0, ()) = nat_trim.e (nat_trim.L2 k) a0 := by kernel_rfl
theorem nat_trim.F_eq (a0 : Dt38) : nat_trim.F (a0, ()) = limF nat_trim.spec nat_trim.cals T Tryz.f104 (a0, ()) := by kernel_rfl
theorem nat_trim.of (k : Nat) (a0 : Dt38) {y : Dt38 × Unit} (h : nat_trim.e (nat_trim.L2 k) a0 = some y) : nat_trim.F (a0, ()) = some y := (nat_trim.F_eq a0).trans (limF_of (q := nat_trim.spec) (C := nat_trim.cals) (T := T) (f := Tryz.f104) (x := (a0, ())) (y := y) k ((nat_trim.eval k a0).trans h))

def bits_Len32.spec : Spec := ⟨[(false, (.int .u32))], [(false, (.int .i64))], .own, fun j => match j with  | _ => []⟩
noncomputable def bits_Len32.cals : Cals := (Cals.base tabs)
noncomputable def bits_Len32.sig : Sig := bits_Len32.spec.sig bits_Len32.cals T Tryz.f105
noncomputable def bits_Len32.F (x : Int × Unit) : Option (Int × Unit) := limF bits_Len32.spec bits_Len32.cals T Tryz.f105 x
theorem bits_Len32.ck : CalsOk Tryz.prog bits_Len32.cals := (CalsOk.base tabsOk)
theorem bits_Len32.cal : CalOk Tryz.prog tabs 105 bits_Len32.sig := calOk_lim' tabOk bits_Len32.ck mix Tryz.func105 (by kernel_rfl) (by kernel_rfl) (by kernel_rfl) (by kernel_rfl)
noncomputable def bits_Len32.e  (a0 : Int) : Option (Int × Unit) :=
  let v1 := decide (a0 ≥ (65536 : Int))
  bif v1 then (bif decide ((16 : Int) < 0) then none
  else (let v2 := shrI .u32 a0 (16 : Int)
  let v3 := decide (v2 ≥ (256 : Int))
  bif v3 then (bif decide ((8 : Int) < 0) then none
  else (let v4 := shrI .u32 v2 (8 : Int)
  let v5 := IntKind.i64.wrap ((16 : Int) + (8 : Int))
  let v6 := IntKind.u8.wrap v4
  bif decide (0 ≤ v6) && decide (v6 < (ByteArray.size (⟨#[0, 1, 2, 2, 3, 3, 3, 3, 4, 4, 4, 4, 4, 4, 4, 4, 5, 5, 5, 5, 5, 5, 5, 5, 5, 5, 5, 5, 5, 5, 5, 5, 6, 6, 6, 6, 6, 6, 6, 6, 6, 6, 6, 6, 6, 6, 6, 6, 6, 6, 6, 6, 6, 6, 6, 6, 6, 6, 6, 6, 6, 6, 6, 6, 7, 7, 7, 7, 7, 7, 7, 7, 7, 7, 7, 7, 7, 7, 7, 7, 7, 7, 7, 7, 7, 7, 7, 7, 7, 7, 7, 7, 7, 7, 7, 7, 7, 7, 7, 7, 7, 7, 7, 7, 7, 7, 7, 7, 7, 7, 7, 7, 7, 7, 7, 7, 7, 7, 7, 7, 7, 7, 7, 7, 7, 7, 7, 7, 8, 8, 8, 8, 8, 8, 8, 8, 8, 8, 8, 8, 8, 8, 8, 8, 8, 8, 8, 8, 8, 8, 8, 8, 8, 8, 8, 8, 8, 8, 8, 8, 8, 8, 8, 8, 8, 8, 8, 8, 8, 8, 8, 8, 8, 8, 8, 8, 8, 8, 8, 8, 8, 8, 8, 8, 8, 8, 8, 8, 8, 8, 8, 8, 8, 8, 8, 8, 8, 8, 8, 8, 8, 8, 8, 8, 8, 8, 8, 8, 8, 8, 8, 8, 8, 8, 8, 8, 8, 8, 8, 8, 8, 8, 8, 8, 8, 8, 8, 8, 8, 8, 8, 8, 8, 8, 8, 8, 8, 8, 8, 8, 8, 8, 8, 8, 8, 8, 8, 8, 8, 8, 8, 8, 8, 8, 8, 8]⟩ : ByteArray) : Int)) then (let v7 := btI (⟨#[0, 1, 2, 2, 3, 3, 3, 3, 4, 4, 4, 4, 4, 4, 4, 4, 5, 5, 5, 5, 5, 5, 5, 5, 5, 5, 5, 5, 5, 5, 5, 5, 6, 6, 6, 6, 6, 6, 6, 6, 6, 6, 6, 6, 6, 6, 6, 6, 6, 6, 6, 6, 6, 6, 6, 6, 6, 6, 6, 6, 6, 6, 6, 6, 7, 7, 7, 7, 7, 7, 7, 7, 7, 7, 7, 7, 7, 7, 7, 7, 7, 7, 7, 7, 7, 7, 7, 7, 7, 7, 7, 7, 7, 7, 7, 7, 7, 7, 7, 7, 7, 7, 7, 7, 7, 7, 7, 7, 7, 7, 7, 7, 7, 7, 7, 7, 7, 7, 7, 7, 7, 7, 7, 7, 7, 7, 7, 7, 8, 8, 8, 8, 8, 8, 8, 8, 8, 8, 8, 8, 8, 8, 8, 8, 8, 8, 8, 8, 8, 8, 8, 8, 8, 8, 8, 8, 8, 8, 8, 8, 8, 8, 8, 8, 8, 8, 8, 8, 8, 8, 8, 8, 8, 8, 8, 8, 8, 8, 8, 8, 8, 8, 8, 8, 8, 8, 8, 8, 8, 8, 8, 8, 8, 8, 8, 8, 8, 8, 8, 8, 8, 8, 8, 8, 8, 8, 8, 8, 8, 8, 8, 8, 8, 8, 8, 8, 8, 8, 8, 8, 8, 8, 8, 8, 8, 8, 8, 8, 8, 8, 8, 8, 8, 8, 8, 8, 8, 8, 8, 8, 8, 8, 8, 8, 8, 8, 8, 8, 8, 8, 8, 8, 8, 8, 8, 8]⟩ : ByteArray) v6
  let v8 := IntKind.i64.wrap v7
  let v9 := IntKind.i64.wrap (v5 + v8)
  some (v9, ()))
  else none))
  else (let v10 := IntKind.u8.wrap v2
  bif decide (0 ≤ v10) && decide (v10 < (ByteArray.size (⟨#[0, 1, 2, 2, 3, 3, 3, 3, 4, 4, 4, 4, 4, 4, 4, 4, 5, 5, 5, 5, 5, 5, 5, 5, 5, 5, 5, 5, 5, 5, 5, 5, 6, 6, 6, 6, 6, 6, 6, 6, 6, 6, 6, 6, 6, 6, 6, 6, 6, 6, 6, 6, 6, 6, 6, 6, 6, 6, 6, 6, 6, 6, 6, 6, 7, 7, 7, 7, 7, 7, 7, 7, 7, 7, 7, 7, 7, 7, 7, 7, 7, 7, 7, 7, 7, 7, 7, 7, 7, 7, 7, 7, 7, 7, 7, 7, 7, 7, 7, 7, 7, 7, 7, 7, 7, 7, 7, 7, 7, 7, 7, 7, 7, 7, 7, 7, 7, 7, 7, 7, 7, 7, 7, 7, 7, 7, 7, 7, 8, 8, 8, 8, 8, 8, 8, 8, 8, 8, 8, 8, 8, 8, 8, 8, 8, 8, 8, 8, 8, 8, 8, 8, 8, 8, 8, 8, 8, 8, 8, 8, 8, 8, 8, 8, 8, 8, 8, 8, 8, 8, 8, 8, 8, 8, 8, 8, 8, 8, 8, 8, 8, 8, 8, 8, 8, 8, 8, 8, 8, 8, 8, 8, 8, 8, 8, 8, 8, 8, 8, 8, 8, 8, 8, 8, 8, 8, 8, 8, 8, 8, 8, 8, 8, 8, 8, 8, 8, 8, 8, 8, 8, 8, 8, 8, 8, 8, 8, 8, 8, 8, 8, 8, 8, 8, 8, 8, 8, 8, 8, 8, 8, 8, 8, 8, 8, 8, 8, 8, 8, 8, 8, 8, 8, 8, 8, 8]⟩ : ByteArray) : Int)) then (let v11 := btI (⟨#[0, 1, 2, 2, 3, 3, 3, 3, 4, 4, 4, 4, 4, 4, 4, 4, 5, 5, 5, 5, 5, 5, 5, 5, 5, 5, 5, 5, 5, 5, 5, 5, 6, 6, 6, 6, 6, 6, 6, 6, 6, 6, 6, 6, 6, 6, 6, 6, 6, 6, 6, 6, 6, 6, 6, 6, 6, 6, 6, 6, 6, 6, 6, 6, 7, 7, 7, 7, 7, 7, 7, 7, 7, 7, 7, 7, 7, 7, 7, 7, 7, 7, 7, 7, 7, 7, 7, 7, 7, 7, 7, 7, 7, 7, 7, 7, 7, 7, 7, 7, 7, 7, 7, 7, 7, 7, 7, 7, 7, 7, 7, 7, 7, 7, 7, 7, 7, 7, 7, 7, 7, 7, 7, 7, 7, 7, 7, 7, 8, 8, 8, 8, 8, 8, 8, 8, 8, 8, 8, 8, 8, 8, 8, 8, 8, 8, 8, 8, 8, 8, 8, 8, 8, 8, 8, 8, 8, 8, 8, 8, 8, 8, 8, 8, 8, 8, 8, 8, 8, 8, 8, 8, 8, 8, 8, 8, 8, 8, 8, 8, 8, 8, 8, 8, 8, 8, 8, 8, 8, 8, 8, 8, 8, 8, 8, 8, 8, 8, 8, 8, 8, 8, 8, 8, 8, 8, 8, 8, 8, 8, 8, 8, 8, 8, 8, 8, 8, 8, 8, 8, 8, 8, 8, 8, 8, 8, 8, 8, 8, 8, 8, 8, 8, 8, 8, 8, 8, 8, 8, 8, 8, 8, 8, 8, 8, 8, 8, 8, 8, 8, 8, 8, 8, 8, 8, 8]⟩ : ByteArray) v10
  let v12 := IntKind.i64.wrap v11
  let v13 := IntKind.i64.wrap ((16 : Int) + v12)
  some (v13, ()))
  else none)))
  else (let v14 := decide (a0 ≥ (256 : Int))
  bif v14 then (bif decide ((8 : Int) < 0) then none
  else (let v15 := shrI .u32 a0 (8 : Int)
  let v16 := IntKind.i64.wrap ((0 : Int) + (8 : Int))
  let v17 := IntKind.u8.wrap v15
  bif decide (0 ≤ v17) && decide (v17 < (ByteArray.size (⟨#[0, 1, 2, 2, 3, 3, 3, 3, 4, 4, 4, 4, 4, 4, 4, 4, 5, 5, 5, 5, 5, 5, 5, 5, 5, 5, 5, 5, 5, 5, 5, 5, 6, 6, 6, 6, 6, 6, 6, 6, 6, 6, 6, 6, 6, 6, 6, 6, 6, 6, 6, 6, 6, 6, 6, 6, 6, 6, 6, 6, 6, 6, 6, 6, 7, 7, 7, 7, 7, 7, 7, 7, 7, 7, 7, 7, 7, 7, 7, 7, 7, 7, 7, 7, 7, 7, 7, 7, 7, 7, 7, 7, 7, 7, 7, 7, 7, 7, 7, 7, 7, 7, 7, 7, 7, 7, 7, 7, 7, 7, 7, 7, 7, 7, 7, 7, 7, 7, 7, 7, 7, 7, 7, 7, 7, 7, 7, 7, 8, 8, 8, 8, 8, 8, 8, 8, 8, 8, 8, 8, 8, 8, 8, 8, 8, 8, 8, 8, 8, 8, 8, 8, 8, 8, 8, 8, 8, 8, 8, 8, 8, 8, 8, 8, 8, 8, 8, 8, 8, 8, 8, 8, 8, 8, 8, 8, 8, 8, 8, 8, 8, 8, 8, 8, 8, 8, 8, 8, 8, 8, 8, 8, 8, 8, 8, 8, 8, 8, 8, 8, 8, 8, 8, 8, 8, 8, 8, 8, 8, 8, 8, 8, 8, 8, 8, 8, 8, 8, 8, 8, 8, 8, 8, 8, 8, 8, 8, 8, 8, 8, 8, 8, 8, 8, 8, 8, 8, 8, 8, 8, 8, 8, 8, 8, 8, 8, 8, 8, 8, 8, 8, 8, 8, 8, 8, 8]⟩ : ByteArray) : Int)) then (let v18 := btI (⟨#[0, 1, 2, 2, 3, 3, 3, 3, 4, 4, 4, 4, 4, 4, 4, 4, 5, 5, 5, 5, 5, 5, 5, 5, 5, 5, 5, 5, 5, 5, 5, 5, 6, 6, 6, 6, 6, 6, 6, 6, 6, 6, 6, 6, 6, 6, 6, 6, 6, 6, 6, 6, 6, 6, 6, 6, 6, 6, 6, 6, 6, 6, 6, 6, 7, 7, 7, 7, 7, 7, 7, 7, 7, 7, 7, 7, 7, 7, 7, 7, 7, 7, 7, 7, 7, 7, 7, 7, 7, 7, 7, 7, 7, 7, 7, 7, 7, 7, 7, 7, 7, 7, 7, 7, 7, 7, 7, 7, 7, 7, 7, 7, 7, 7, 7, 7, 7, 7, 7, 7, 7, 7, 7, 7, 7, 7, 7, 7, 8, 8, 8, 8, 8, 8, 8, 8, 8, 8, 8, 8, 8, 8, 8, 8, 8, 8, 8, 8, 8, 8, 8, 8, 8, 8, 8, 8, 8, 8, 8, 8, 8, 8, 8, 8, 8, 8, 8, 8, 8, 8, 8, 8, 8, 8, 8, 8, 8, 8, 8, 8, 8, 8, 8, 8, 8, 8, 8, 8, 8, 8, 8, 8, 8, 8, 8, 8, 8, 8, 8, 8, 8, 8, 8, 8, 8, 8, 8, 8, 8, 8, 8, 8, 8, 8, 8, 8, 8, 8, 8, 8, 8, 8, 8, 8, 8, 8, 8, 8, 8, 8, 8, 8, 8, 8, 8, 8, 8, 8, 8, 8, 8, 8, 8, 8, 8, 8, 8, 8, 8, 8, 8, 8, 8, 8, 8, 8]⟩ : ByteArray) v17
  let v19 := IntKind.i64.wrap v18
  let v20 := IntKind.i64.wrap (v16 + v19)
  some (v20, ()))
  else none))
  else (let v21 := IntKind.u8.wrap a0
  bif decide (0 ≤ v21) && decide (v21 < (ByteArray.size (⟨#[0, 1, 2, 2, 3, 3, 3, 3, 4, 4, 4, 4, 4, 4, 4, 4, 5, 5, 5, 5, 5, 5, 5, 5, 5, 5, 5, 5, 5, 5, 5, 5, 6, 6, 6, 6, 6, 6, 6, 6, 6, 6, 6, 6, 6, 6, 6, 6, 6, 6, 6, 6, 6, 6, 6, 6, 6, 6, 6, 6, 6, 6, 6, 6, 7, 7, 7, 7, 7, 7, 7, 7, 7, 7, 7, 7, 7, 7, 7, 7, 7, 7, 7, 7, 7, 7, 7, 7, 7, 7, 7, 7, 7, 7, 7, 7, 7, 7, 7, 7, 7, 7, 7, 7, 7, 7, 7, 7, 7, 7, 7, 7, 7, 7, 7, 7, 7, 7, 7, 7, 7, 7, 7, 7, 7, 7, 7, 7, 8, 8, 8, 8, 8, 8, 8, 8, 8, 8, 8, 8, 8, 8, 8, 8, 8, 8, 8, 8, 8, 8, 8, 8, 8, 8, 8, 8, 8, 8, 8, 8, 8, 8, 8, 8, 8, 8, 8, 8, 8, 8, 8, 8, 8, 8, 8, 8, 8, 8, 8, 8, 8, 8, 8, 8, 8, 8, 8, 8, 8, 8, 8, 8, 8, 8, 8, 8, 8, 8, 8, 8, 8, 8, 8, 8, 8, 8, 8, 8, 8, 8, 8, 8, 8, 8, 8, 8, 8, 8, 8, 8, 8, 8, 8, 8, 8, 8, 8, 8, 8, 8, 8, 8, 8, 8, 8, 8, 8, 8, 8, 8, 8, 8, 8, 8, 8, 8, 8, 8, 8, 8, 8, 8, 8, 8, 8, 8]⟩ : ByteArray) : Int)) then (let v22 := btI (⟨#[0, 1, 2, 2, 3, 3, 3, 3, 4, 4, 4, 4, 4, 4, 4, 4, 5, 5, 5, 5, 5, 5, 5, 5, 5, 5, 5, 5, 5, 5, 5, 5, 6, 6, 6, 6, 6, 6, 6, 6, 6, 6, 6, 6, 6, 6, 6, 6, 6, 6, 6, 6, 6, 6, 6, 6, 6, 6, 6, 6, 6, 6, 6, 6, 7, 7, 7, 7, 7, 7, 7, 7, 7, 7, 7, 7, 7, 7, 7, 7, 7, 7, 7, 7, 7, 7, 7, 7, 7, 7, 7, 7, 7, 7, 7, 7, 7, 7, 7, 7, 7, 7, 7, 7, 7, 7, 7, 7, 7, 7, 7, 7, 7, 7, 7, 7, 7, 7, 7, 7, 7, 7, 7, 7, 7, 7, 7, 7, 8, 8, 8, 8, 8, 8, 8, 8, 8, 8, 8, 8, 8, 8, 8, 8, 8, 8, 8, 8, 8, 8, 8, 8, 8, 8, 8, 8, 8, 8, 8, 8, 8, 8, 8, 8, 8, 8, 8, 8, 8, 8, 8, 8, 8, 8, 8, 8, 8, 8, 8, 8, 8, 8, 8, 8, 8, 8, 8, 8, 8, 8, 8, 8, 8, 8, 8, 8, 8, 8, 8, 8, 8, 8, 8, 8, 8, 8, 8, 8, 8, 8, 8, 8, 8, 8, 8, 8, 8, 8, 8, 8, 8, 8, 8, 8, 8, 8, 8, 8, 8, 8, 8, 8, 8, 8, 8, 8, 8, 8, 8, 8, 8, 8, 8, 8, 8, 8, 8, 8, 8, 8, 8, 8, 8, 8, 8, 8]⟩ : ByteArray) v21
  let v23 := IntKind.i64.wrap v22
  let v24 := IntKind.i64.wrap ((0 : Int) + v23)
  some (v24, ()))
  else none))
theorem bits_Len32.eval (k : Nat) (a0 : Int) : evalF bits_Len32.spec bits_Len32.cals T Tryz.f105 k (a0, ()) = bits_Len32.e  a0 := by kernel_rfl
theorem bits_Len32.F_eq (a0 : Int) : bits_Len32.F (a0, ()) = limF bits_Len32.spec bits_Len32.cals T Tryz.f105 (a0, ()) := by kernel_rfl
theorem bits_Len32.of (k : Nat) (a0 : Int) {y : Int × Unit} (h : bits_Len32.e  a0 = some y) : bits_Len32.F (a0, ()) = some y := (bits_Len32.F_eq a0).trans (limF_of (q := bits_Len32.spec) (C := bits_Len32.cals) (T := T) (f := Tryz.f105) (x := (a0, ())) (y := y) k ((bits_Len32.eval k a0).trans h))

def nat_Bits.spec : Spec := ⟨[(false, Kt38)], [(false, (.int .i64))], .own, fun j => match j with  | _ => []⟩
noncomputable def nat_Bits.cals : Cals := (Cals.cons 104 nat_trim.sig (Cals.cons 105 bits_Len32.sig (Cals.base tabs)))
noncomputable def nat_Bits.sig : Sig := nat_Bits.spec.sig nat_Bits.cals T Tryz.f98
noncomputable def nat_Bits.F (x : Dt38 × Unit) : Option (Int × Unit) := limF nat_Bits.spec nat_Bits.cals T Tryz.f98 x
theorem nat_Bits.ck : CalsOk Tryz.prog nat_Bits.cals := (CalsOk.cons nat_trim.cal (CalsOk.cons bits_Len32.cal (CalsOk.base tabsOk)))
theorem nat_Bits.cal : CalOk Tryz.prog tabs 98 nat_Bits.sig := calOk_lim' tabOk nat_Bits.ck mix Tryz.func98 (by kernel_rfl) (by kernel_rfl) (by kernel_rfl) (by kernel_rfl)
noncomputable def nat_Bits.e  (a0 : Dt38) : Option (Int × Unit) :=
  (nat_trim.F (a0, ())).bind fun y1 =>
  let v2 := (List.length y1.1 : Int)
  let v3 := (v2 == (0 : Int))
  bif v3 then (some ((0 : Int), ()))
  else (let v4 := (List.length y1.1 : Int)
  let v5 := IntKind.i64.wrap (v4 - (1 : Int))
  let v6 := IntKind.i64.wrap ((32 : Int) * v5)
  let v7 := (List.length y1.1 : Int)
  let v8 := IntKind.i64.wrap (v7 - (1 : Int))
  bif decide (0 ≤ v8) && decide (v8 < (List.length y1.1 : Int)) then (let v9 := List.getD y1.1 (Int.toNat v8) (0 : Int)
  (bits_Len32.F (v9, ())).bind fun y10 =>
  let v11 := IntKind.i64.wrap (v6 + y10.1)
  some (v11, ()))
  else none)
theorem nat_Bits.eval (k : Nat) (a0 : Dt38) : evalF nat_Bits.spec nat_Bits.cals T Tryz.f98 k (a0, ()) = nat_Bits.e  a0 := by kernel_rfl
theorem nat_Bits.F_eq (a0 : Dt38) : nat_Bits.F (a0, ()) = limF nat_Bits.spec nat_Bits.cals T Tryz.f98 (a0, ()) := by kernel_rfl
theorem nat_Bits.of (k : Nat) (a0 : Dt38) {y : Int × Unit} (h : nat_Bits.e  a0 = some y) : nat_Bits.F (a0, ()) = some y := (nat_Bits.F_eq a0).trans (limF_of (q := nat_Bits.spec) (C := nat_Bits.cals) (T := T) (f := Tryz.f98) (x := (a0, ())) (y := y) k ((nat_Bits.eval k a0).trans h))

def nat_own.spec : Spec := ⟨[(false, Kt38)], [(false, Kt38)], .own, fun j => match j with  | _ => []⟩
noncomputable def nat_own.cals : Cals := (Cals.cons 104 nat_trim.sig (Cals.base tabs))
noncomputable def nat_own.sig : Sig := nat_own.spec.sig nat_own.cals T Tryz.f115
noncomputable def nat_own.F (x : Dt38 × Unit) : Option (Dt38 × Unit) := limF nat_own.spec nat_own.cals T Tryz.f115 x
theorem nat_own.ck : CalsOk Tryz.prog nat_own.cals := (CalsOk.cons nat_trim.cal (CalsOk.base tabsOk))
theorem nat_own.cal : CalOk Tryz.prog tabs 115 nat_own.sig := calOk_lim' tabOk nat_own.ck mix Tryz.func115 (by kernel_rfl) (by kernel_rfl) (by kernel_rfl) (by kernel_rfl)
noncomputable def nat_own.e  (a0 : Dt38) : Option (Dt38 × Unit) :=
  (nat_trim.F (a0, ())).bind fun y1 =>
  let v2 := (List.length y1.1 : Int)
  let v3 := (v2 == (0 : Int))
  bif v3 then (some (zt38, ()))
  else (let v4 := (List.length y1.1 : Int)
  bif decide (0 ≤ v4) && (decide (v4 ≤ v4) && (decide (Int.toNat v4 * 4 ≤ 281474976710656) && Nat.blt 0 4)) then (let v5 := List.replicate (Int.toNat v4) (0 : Int)
  let v6 := List.take (List.length v5) y1.1 ++ List.drop (List.length y1.1) v5
  let v7 := ((Nat.min (List.length y1.1) (List.length v5) : Nat) : Int)
  some (v6, ()))
  else none)
theorem nat_own.eval (k : Nat) (a0 : Dt38) : evalF nat_own.spec nat_own.cals T Tryz.f115 k (a0, ()) = nat_own.e  a0 := by kernel_rfl
theorem nat_own.F_eq (a0 : Dt38) : nat_own.F (a0, ()) = limF nat_own.spec nat_own.cals T Tryz.f115 (a0, ()) := by kernel_rfl
theorem nat_own.of (k : Nat) (a0 : Dt38) {y : Dt38 × Unit} (h : nat_own.e  a0 = some y) : nat_own.F (a0, ()) = some y := (nat_own.F_eq a0).trans (limF_of (q := nat_own.spec) (C := nat_own.cals) (T := T) (f := Tryz.f115) (x := (a0, ())) (y := y) k ((nat_own.eval k a0).trans h))

def nat_Cmp.spec : Spec := ⟨[(false, Kt38), (false, Kt38)], [(false, (.int .i64))], .own, fun j => match j with | 7 => [(0, .lf (.z 114 (.int .u32) false)), (1, .lf (.z 114 (.int .u32) false)), (5, .lf (.v true))] | _ => []⟩
noncomputable def nat_Cmp.cals : Cals := (Cals.cons 104 nat_trim.sig (Cals.base tabs))
noncomputable def nat_Cmp.sig : Sig := nat_Cmp.spec.sig nat_Cmp.cals T Tryz.f116
noncomputable def nat_Cmp.F (x : Dt38 × Dt38 × Unit) : Option (Int × Unit) := limF nat_Cmp.spec nat_Cmp.cals T Tryz.f116 x
theorem nat_Cmp.ck : CalsOk Tryz.prog nat_Cmp.cals := (CalsOk.cons nat_trim.cal (CalsOk.base tabsOk))
theorem nat_Cmp.cal : CalOk Tryz.prog tabs 116 nat_Cmp.sig := calOk_lim' tabOk nat_Cmp.ck mix Tryz.func116 (by kernel_rfl) (by kernel_rfl) (by kernel_rfl) (by kernel_rfl)
def nat_Cmp.m7 (x0 : Dt38) (x1 : Dt38) (x5 : Int) : S := ⟨[(0, .one (.lf (.val false Kt38 x0))), (1, .one (.lf (.val false Kt38 x1))), (5, .one (.lf (.val true (.int .i64) x5)))], ⟨[], []⟩⟩
noncomputable def nat_Cmp.b7 (f7 : Dt38 → Dt38 → Int → Option (Int × Unit)) (x0 : Dt38) (x1 : Dt38) (x5 : Int) : Option (Int × Unit) :=
  let v1 := decide (x5 ≥ (0 : Int))
  bif v1 then (bif decide (0 ≤ x5) && decide (x5 < (List.length x0 : Int)) then (let v2 := List.getD x0 (Int.toNat x5) (0 : Int)
  bif decide (0 ≤ x5) && decide (x5 < (List.length x1 : Int)) then (let v3 := List.getD x1 (Int.toNat x5) (0 : Int)
  let v4 := (v2 != v3)
  bif v4 then (bif decide (0 ≤ x5) && decide (x5 < (List.length x0 : Int)) then (let v5 := List.getD x0 (Int.toNat x5) (0 : Int)
  bif decide (0 ≤ x5) && decide (x5 < (List.length x1 : Int)) then (let v6 := List.getD x1 (Int.toNat x5) (0 : Int)
  let v7 := decide (v5 < v6)
  bif v7 then (some ((-1 : Int), ()))
  else (some ((1 : Int), ())))
  else none)
  else none)
  else (let v8 := IntKind.i64.wrap (x5 - (1 : Int))
  f7 x0 x1 v8))
  else none)
  else none)
  else (some ((0 : Int), ()))
noncomputable def nat_Cmp.e (f7 : Dt38 → Dt38 → Int → Option (Int × Unit)) (a0 : Dt38) (a1 : Dt38) : Option (Int × Unit) :=
  (nat_trim.F (a0, ())).bind fun y1 =>
  (nat_trim.F (a1, ())).bind fun y2 =>
  let v3 := (List.length y1.1 : Int)
  let v4 := (List.length y2.1 : Int)
  let v5 := (v3 != v4)
  bif v5 then (let v6 := (List.length y1.1 : Int)
  let v7 := (List.length y2.1 : Int)
  let v8 := decide (v6 < v7)
  bif v8 then (some ((-1 : Int), ()))
  else (some ((1 : Int), ())))
  else (let v9 := (List.length y1.1 : Int)
  let v10 := IntKind.i64.wrap (v9 - (1 : Int))
  f7 y1.1 y2.1 v10)
noncomputable def nat_Cmp.L7 (k : Nat) (x0 : Dt38) (x1 : Dt38) (x5 : Int) : Option (Int × Unit) := heads (nat_Cmp.spec.env nat_Cmp.cals T Tryz.f116) (Func.pts Tryz.f116) k 7 (nat_Cmp.m7 x0 x1 x5)
theorem nat_Cmp.L7_succ (k : Nat) (x0 : Dt38) (x1 : Dt38) (x5 : Int) : nat_Cmp.L7 (k + 1) x0 x1 x5 = nat_Cmp.b7 (nat_Cmp.L7 k) x0 x1 x5 := by kernel_rfl
theorem nat_Cmp.eval (k : Nat) (a0 : Dt38) (a1 : Dt38) : evalF nat_Cmp.spec nat_Cmp.cals T Tryz.f116 k (a0, a1, ()) = nat_Cmp.e (nat_Cmp.L7 k) a0 a1 := by kernel_rfl
theorem nat_Cmp.F_eq (a0 : Dt38) (a1 : Dt38) : nat_Cmp.F (a0, a1, ()) = limF nat_Cmp.spec nat_Cmp.cals T Tryz.f116 (a0, a1, ()) := by kernel_rfl
theorem nat_Cmp.of (k : Nat) (a0 : Dt38) (a1 : Dt38) {y : Int × Unit} (h : nat_Cmp.e (nat_Cmp.L7 k) a0 a1 = some y) : nat_Cmp.F (a0, a1, ()) = some y := (nat_Cmp.F_eq a0 a1).trans (limF_of (q := nat_Cmp.spec) (C := nat_Cmp.cals) (T := T) (f := Tryz.f116) (x := (a0, a1, ())) (y := y) k ((nat_Cmp.eval k a0 a1).trans h))

def bits_Div32.spec : Spec := ⟨[(false, (.int .u32)), (false, (.int .u32)), (false, (.int .u32))], [(false, (.int .u32)), (false, (.int .u32))], .own, fun j => match j with  | _ => []⟩
noncomputable def bits_Div32.cals : Cals := (Cals.base tabs)
noncomputable def bits_Div32.sig : Sig := bits_Div32.spec.sig bits_Div32.cals T Tryz.f128
noncomputable def bits_Div32.F (x : Int × Int × Int × Unit) : Option (Int × Int × Unit) := limF bits_Div32.spec bits_Div32.cals T Tryz.f128 x
theorem bits_Div32.ck : CalsOk Tryz.prog bits_Div32.cals := (CalsOk.base tabsOk)
theorem bits_Div32.cal : CalOk Tryz.prog tabs 128 bits_Div32.sig := calOk_lim' tabOk bits_Div32.ck mix Tryz.func128 (by kernel_rfl) (by kernel_rfl) (by kernel_rfl) (by kernel_rfl)
noncomputable def bits_Div32.e  (a0 : Int) (a1 : Int) (a2 : Int) : Option (Int × Int × Unit) :=
  let v1 := (a2 != (0 : Int))
  bif v1 then (let v2 := decide (a2 ≤ a0)
  bif v2 then (none)
  else (let v3 := IntKind.u64.wrap a0
  bif decide ((32 : Int) < 0) then none
  else (let v4 := shlI .u64 v3 (32 : Int)
  let v5 := IntKind.u64.wrap a1
  let v6 := bitsOp .or .u64 v4 v5
  let v7 := IntKind.u64.wrap a2
  bif decide (v7 = 0) then none
  else (let v8 := IntKind.u64.wrap (Int.tdiv v6 v7)
  let v9 := IntKind.u32.wrap v8
  let v10 := IntKind.u64.wrap a2
  bif decide (v10 = 0) then none
  else (let v11 := Int.tmod v6 v10
  let v12 := IntKind.u32.wrap v11
  some (v9, v12, ()))))))
  else (let v13 := IntKind.u64.wrap a0
  bif decide ((32 : Int) < 0) then none
  else (let v14 := shlI .u64 v13 (32 : Int)
  let v15 := IntKind.u64.wrap a1
  let v16 := bitsOp .or .u64 v14 v15
  let v17 := IntKind.u64.wrap a2
  bif decide (v17 = 0) then none
  else (let v18 := IntKind.u64.wrap (Int.tdiv v16 v17)
  let v19 := IntKind.u32.wrap v18
  let v20 := IntKind.u64.wrap a2
  bif decide (v20 = 0) then none
  else (let v21 := Int.tmod v16 v20
  let v22 := IntKind.u32.wrap v21
  some (v19, v22, ())))))
theorem bits_Div32.eval (k : Nat) (a0 : Int) (a1 : Int) (a2 : Int) : evalF bits_Div32.spec bits_Div32.cals T Tryz.f128 k (a0, a1, a2, ()) = bits_Div32.e  a0 a1 a2 := by kernel_rfl
theorem bits_Div32.F_eq (a0 : Int) (a1 : Int) (a2 : Int) : bits_Div32.F (a0, a1, a2, ()) = limF bits_Div32.spec bits_Div32.cals T Tryz.f128 (a0, a1, a2, ()) := by kernel_rfl
theorem bits_Div32.of (k : Nat) (a0 : Int) (a1 : Int) (a2 : Int) {y : Int × Int × Unit} (h : bits_Div32.e  a0 a1 a2 = some y) : bits_Div32.F (a0, a1, a2, ()) = some y := (bits_Div32.F_eq a0 a1 a2).trans (limF_of (q := bits_Div32.spec) (C := bits_Div32.cals) (T := T) (f := Tryz.f128) (x := (a0, a1, a2, ())) (y := y) k ((bits_Div32.eval k a0 a1 a2).trans h))

def nat_short.spec : Spec := ⟨[(false, Kt38), (false, (.int .u32))], [(false, Kt38), (false, (.int .u32))], .own, fun j => match j with | 4 => [(0, .lf (.z 114 (.int .u32) false)), (1, .lf (.v false)), (6, .lf (.o 114 (.int .u32) true)), (7, .lf (.v true)), (8, .lf (.v true))] | _ => []⟩
noncomputable def nat_short.cals : Cals := (Cals.cons 128 bits_Div32.sig (Cals.base tabs))
noncomputable def nat_short.sig : Sig := nat_short.spec.sig nat_short.cals T Tryz.f117
noncomputable def nat_short.F (x : Dt38 × Int × Unit) : Option (Dt38 × Int × Unit) := limF nat_short.spec nat_short.cals T Tryz.f117 x
theorem nat_short.ck : CalsOk Tryz.prog nat_short.cals := (CalsOk.cons bits_Div32.cal (CalsOk.base tabsOk))
theorem nat_short.cal : CalOk Tryz.prog tabs 117 nat_short.sig := calOk_lim' tabOk nat_short.ck mix Tryz.func117 (by kernel_rfl) (by kernel_rfl) (by kernel_rfl) (by kernel_rfl)
def nat_short.m4 (x0 : Dt38) (x1 : Int) (x6 : Dt38) (x7 : Int) (x8 : Int) : S := ⟨[(0, .one (.lf (.val false Kt38 x0))), (1, .one (.lf (.val false (.int .u32) x1))), (6, .one (.lf (.own 0))), (7, .one (.lf (.val true (.int .u32) x7))), (8, .one (.lf (.val true (.int .i64) x8)))], ⟨[some ⟨114, (.int .u32), true, true, x6⟩], []⟩⟩
noncomputable def nat_short.b4 (f4 : Dt38 → Int → Dt38 → Int → Int → Option (Dt38 × Int × Unit)) (x0 : Dt38) (x1 : Int) (x6 : Dt38) (x7 : Int) (x8 : Int) : Option (Dt38 × Int × Unit) :=
  let v1 := decide (x8 ≥ (0 : Int))
  bif v1 then (bif decide (0 ≤ x8) && decide (x8 < (List.length x0 : Int)) then (let v2 := List.getD x0 (Int.toNat x8) (0 : Int)
  (bits_Div32.F (x7, v2, x1, ())).bind fun y3 =>
  bif decide (0 ≤ x8) && decide (x8 < (List.length x6 : Int)) then (let v4 := List.set x6 (Int.toNat x8) y3.1
  let v5 := IntKind.i64.wrap (x8 - (1 : Int))
  f4 x0 x1 v4 y3.2.1 v5)
  else none)
  else none)
  else (some (x6, x7, ()))
noncomputable def nat_short.e (f4 : Dt38 → Int → Dt38 → Int → Int → Option (Dt38 × Int × Unit)) (a0 : Dt38) (a1 : Int) : Option (Dt38 × Int × Unit) :=
  let v1 := (List.length a0 : Int)
  bif decide (0 ≤ v1) && (decide (v1 ≤ v1) && (decide (Int.toNat v1 * 4 ≤ 281474976710656) && Nat.blt 0 4)) then (let v2 := List.replicate (Int.toNat v1) (0 : Int)
  let v3 := (List.length a0 : Int)
  let v4 := IntKind.i64.wrap (v3 - (1 : Int))
  f4 a0 a1 v2 (0 : Int) v4)
  else none
noncomputable def nat_short.L4 (k : Nat) (x0 : Dt38) (x1 : Int) (x6 : Dt38) (x7 : Int) (x8 : Int) : Option (Dt38 × Int × Unit) := heads (nat_short.spec.env nat_short.cals T Tryz.f117) (Func.pts Tryz.f117) k 4 (nat_short.m4 x0 x1 x6 x7 x8)
theorem nat_short.L4_succ (k : Nat) (x0 : Dt38) (x1 : Int) (x6 : Dt38) (x7 : Int) (x8 : Int) : nat_short.L4 (k + 1) x0 x1 x6 x7 x8 = nat_short.b4 (nat_short.L4 k) x0 x1 x6 x7 x8 := by kernel_rfl
theorem nat_short.eval (k : Nat) (a0 : Dt38) (a1 : Int) : evalF nat_short.spec nat_short.cals T Tryz.f117 k (a0, a1, ()) = nat_short.e (nat_short.L4 k) a0 a1 := by kernel_rfl
theorem nat_short.F_eq (a0 : Dt38) (a1 : Int) : nat_short.F (a0, a1, ()) = limF nat_short.spec nat_short.cals T Tryz.f117 (a0, a1, ()) := by kernel_rfl
theorem nat_short.of (k : Nat) (a0 : Dt38) (a1 : Int) {y : Dt38 × Int × Unit} (h : nat_short.e (nat_short.L4 k) a0 a1 = some y) : nat_short.F (a0, a1, ()) = some y := (nat_short.F_eq a0 a1).trans (limF_of (q := nat_short.spec) (C := nat_short.cals) (T := T) (f := Tryz.f117) (x := (a0, a1, ())) (y := y) k ((nat_short.eval k a0 a1).trans h))

def bits_LeadingZeros32.spec : Spec := ⟨[(false, (.int .u32))], [(false, (.int .i64))], .own, fun j => match j with  | _ => []⟩
noncomputable def bits_LeadingZeros32.cals : Cals := (Cals.cons 105 bits_Len32.sig (Cals.base tabs))
noncomputable def bits_LeadingZeros32.sig : Sig := bits_LeadingZeros32.spec.sig bits_LeadingZeros32.cals T Tryz.f129
noncomputable def bits_LeadingZeros32.F (x : Int × Unit) : Option (Int × Unit) := limF bits_LeadingZeros32.spec bits_LeadingZeros32.cals T Tryz.f129 x
theorem bits_LeadingZeros32.ck : CalsOk Tryz.prog bits_LeadingZeros32.cals := (CalsOk.cons bits_Len32.cal (CalsOk.base tabsOk))
theorem bits_LeadingZeros32.cal : CalOk Tryz.prog tabs 129 bits_LeadingZeros32.sig := calOk_lim' tabOk bits_LeadingZeros32.ck mix Tryz.func129 (by kernel_rfl) (by kernel_rfl) (by kernel_rfl) (by kernel_rfl)
noncomputable def bits_LeadingZeros32.e  (a0 : Int) : Option (Int × Unit) :=
  (bits_Len32.F (a0, ())).bind fun y1 =>
  let v2 := IntKind.i64.wrap ((32 : Int) - y1.1)
  some (v2, ())
theorem bits_LeadingZeros32.eval (k : Nat) (a0 : Int) : evalF bits_LeadingZeros32.spec bits_LeadingZeros32.cals T Tryz.f129 k (a0, ()) = bits_LeadingZeros32.e  a0 := by kernel_rfl
theorem bits_LeadingZeros32.F_eq (a0 : Int) : bits_LeadingZeros32.F (a0, ()) = limF bits_LeadingZeros32.spec bits_LeadingZeros32.cals T Tryz.f129 (a0, ()) := by kernel_rfl
theorem bits_LeadingZeros32.of (k : Nat) (a0 : Int) {y : Int × Unit} (h : bits_LeadingZeros32.e  a0 = some y) : bits_LeadingZeros32.F (a0, ()) = some y := (bits_LeadingZeros32.F_eq a0).trans (limF_of (q := bits_LeadingZeros32.spec) (C := bits_LeadingZeros32.cals) (T := T) (f := Tryz.f129) (x := (a0, ())) (y := y) k ((bits_LeadingZeros32.eval k a0).trans h))

def nat_moved.spec : Spec := ⟨[(false, Kt38), (false, (.int .i64))], [(false, Kt38)], .own, fun j => match j with | 3 => [(0, .lf (.z 114 (.int .u32) false)), (1, .lf (.v false)), (5, .lf (.o 114 (.int .u32) true)), (12, .lf (.v true)), (13, .lf (.v true))] | _ => []⟩
noncomputable def nat_moved.cals : Cals := (Cals.base tabs)
noncomputable def nat_moved.sig : Sig := nat_moved.spec.sig nat_moved.cals T Tryz.f130
noncomputable def nat_moved.F (x : Dt38 × Int × Unit) : Option (Dt38 × Unit) := limF nat_moved.spec nat_moved.cals T Tryz.f130 x
theorem nat_moved.ck : CalsOk Tryz.prog nat_moved.cals := (CalsOk.base tabsOk)
theorem nat_moved.cal : CalOk Tryz.prog tabs 130 nat_moved.sig := calOk_lim' tabOk nat_moved.ck mix Tryz.func130 (by kernel_rfl) (by kernel_rfl) (by kernel_rfl) (by kernel_rfl)
def nat_moved.m3 (x0 : Dt38) (x1 : Int) (x5 : Dt38) (x12 : Int) (x13 : Int) : S := ⟨[(0, .one (.lf (.val false Kt38 x0))), (1, .one (.lf (.val false (.int .i64) x1))), (5, .one (.lf (.own 0))), (12, .one (.lf (.val true (.int .i64) x12))), (13, .one (.lf (.val true (.int .i64) x13)))], ⟨[some ⟨114, (.int .u32), true, true, x5⟩], []⟩⟩
noncomputable def nat_moved.b3 (f3 : Dt38 → Int → Dt38 → Int → Int → Option (Dt38 × Unit)) (x0 : Dt38) (x1 : Int) (x5 : Dt38) (x12 : Int) (x13 : Int) : Option (Dt38 × Unit) :=
  let v1 := decide (x13 < x12)
  bif v1 then (bif decide (0 ≤ x13) && decide (x13 < (List.length x5 : Int)) then (let v2 := List.getD x5 (Int.toNat x13) (0 : Int)
  bif decide (0 ≤ x13) && decide (x13 < (List.length x0 : Int)) then (let v3 := List.getD x0 (Int.toNat x13) (0 : Int)
  bif decide (x1 < 0) then none
  else (let v4 := shlI .u32 v3 x1
  let v5 := bitsOp .or .u32 v2 v4
  bif decide (0 ≤ x13) && decide (x13 < (List.length x5 : Int)) then (let v6 := List.set x5 (Int.toNat x13) v5
  let v7 := IntKind.i64.wrap (x13 + (1 : Int))
  bif decide (0 ≤ x13) && decide (x13 < (List.length x0 : Int)) then (let v8 := List.getD x0 (Int.toNat x13) (0 : Int)
  let v9 := IntKind.u64.wrap v8
  let v10 := IntKind.i64.wrap ((32 : Int) - x1)
  bif decide (v10 < 0) then none
  else (let v11 := shrI .u64 v9 v10
  let v12 := IntKind.u32.wrap v11
  bif decide (0 ≤ v7) && decide (v7 < (List.length v6 : Int)) then (let v13 := List.set v6 (Int.toNat v7) v12
  let v14 := IntKind.i64.wrap (x13 + (1 : Int))
  f3 x0 x1 v13 x12 v14)
  else none))
  else none)
  else none))
  else none)
  else none)
  else (some (x5, ()))
noncomputable def nat_moved.e (f3 : Dt38 → Int → Dt38 → Int → Int → Option (Dt38 × Unit)) (a0 : Dt38) (a1 : Int) : Option (Dt38 × Unit) :=
  let v1 := (List.length a0 : Int)
  let v2 := IntKind.i64.wrap (v1 + (1 : Int))
  bif decide (0 ≤ v2) && (decide (v2 ≤ v2) && (decide (Int.toNat v2 * 4 ≤ 281474976710656) && Nat.blt 0 4)) then (let v3 := List.replicate (Int.toNat v2) (0 : Int)
  let v4 := (List.length a0 : Int)
  f3 a0 a1 v3 v4 (0 : Int))
  else none
noncomputable def nat_moved.L3 (k : Nat) (x0 : Dt38) (x1 : Int) (x5 : Dt38) (x12 : Int) (x13 : Int) : Option (Dt38 × Unit) := heads (nat_moved.spec.env nat_moved.cals T Tryz.f130) (Func.pts Tryz.f130) k 3 (nat_moved.m3 x0 x1 x5 x12 x13)
theorem nat_moved.L3_succ (k : Nat) (x0 : Dt38) (x1 : Int) (x5 : Dt38) (x12 : Int) (x13 : Int) : nat_moved.L3 (k + 1) x0 x1 x5 x12 x13 = nat_moved.b3 (nat_moved.L3 k) x0 x1 x5 x12 x13 := by kernel_rfl
theorem nat_moved.eval (k : Nat) (a0 : Dt38) (a1 : Int) : evalF nat_moved.spec nat_moved.cals T Tryz.f130 k (a0, a1, ()) = nat_moved.e (nat_moved.L3 k) a0 a1 := by kernel_rfl
theorem nat_moved.F_eq (a0 : Dt38) (a1 : Int) : nat_moved.F (a0, a1, ()) = limF nat_moved.spec nat_moved.cals T Tryz.f130 (a0, a1, ()) := by kernel_rfl
theorem nat_moved.of (k : Nat) (a0 : Dt38) (a1 : Int) {y : Dt38 × Unit} (h : nat_moved.e (nat_moved.L3 k) a0 a1 = some y) : nat_moved.F (a0, a1, ()) = some y := (nat_moved.F_eq a0 a1).trans (limF_of (q := nat_moved.spec) (C := nat_moved.cals) (T := T) (f := Tryz.f130) (x := (a0, a1, ())) (y := y) k ((nat_moved.eval k a0 a1).trans h))

def bits_Sub32.spec : Spec := ⟨[(false, (.int .u32)), (false, (.int .u32)), (false, (.int .u32))], [(false, (.int .u32)), (false, (.int .u32))], .own, fun j => match j with  | _ => []⟩
noncomputable def bits_Sub32.cals : Cals := (Cals.base tabs)
noncomputable def bits_Sub32.sig : Sig := bits_Sub32.spec.sig bits_Sub32.cals T Tryz.f135
noncomputable def bits_Sub32.F (x : Int × Int × Int × Unit) : Option (Int × Int × Unit) := limF bits_Sub32.spec bits_Sub32.cals T Tryz.f135 x
theorem bits_Sub32.ck : CalsOk Tryz.prog bits_Sub32.cals := (CalsOk.base tabsOk)
theorem bits_Sub32.cal : CalOk Tryz.prog tabs 135 bits_Sub32.sig := calOk_lim' tabOk bits_Sub32.ck mix Tryz.func135 (by kernel_rfl) (by kernel_rfl) (by kernel_rfl) (by kernel_rfl)
noncomputable def bits_Sub32.e  (a0 : Int) (a1 : Int) (a2 : Int) : Option (Int × Int × Unit) :=
  let v1 := IntKind.u32.wrap (a0 - a1)
  let v2 := IntKind.u32.wrap (v1 - a2)
  let v3 := bitsOp .xor .u32 (if IntKind.u32.signed then -1 else IntKind.u32.max) a0
  let v4 := bitsOp .and .u32 v3 a1
  let v5 := bitsOp .xor .u32 a0 a1
  let v6 := bitsOp .xor .u32 (if IntKind.u32.signed then -1 else IntKind.u32.max) v5
  let v7 := bitsOp .and .u32 v6 v2
  let v8 := bitsOp .or .u32 v4 v7
  bif decide ((31 : Int) < 0) then none
  else (let v9 := shrI .u32 v8 (31 : Int)
  some (v2, v9, ()))
theorem bits_Sub32.eval (k : Nat) (a0 : Int) (a1 : Int) (a2 : Int) : evalF bits_Sub32.spec bits_Sub32.cals T Tryz.f135 k (a0, a1, a2, ()) = bits_Sub32.e  a0 a1 a2 := by kernel_rfl
theorem bits_Sub32.F_eq (a0 : Int) (a1 : Int) (a2 : Int) : bits_Sub32.F (a0, a1, a2, ()) = limF bits_Sub32.spec bits_Sub32.cals T Tryz.f135 (a0, a1, a2, ()) := by kernel_rfl
theorem bits_Sub32.of (k : Nat) (a0 : Int) (a1 : Int) (a2 : Int) {y : Int × Int × Unit} (h : bits_Sub32.e  a0 a1 a2 = some y) : bits_Sub32.F (a0, a1, a2, ()) = some y := (bits_Sub32.F_eq a0 a1 a2).trans (limF_of (q := bits_Sub32.spec) (C := bits_Sub32.cals) (T := T) (f := Tryz.f135) (x := (a0, a1, a2, ())) (y := y) k ((bits_Sub32.eval k a0 a1 a2).trans h))

def bits_Add32.spec : Spec := ⟨[(false, (.int .u32)), (false, (.int .u32)), (false, (.int .u32))], [(false, (.int .u32)), (false, (.int .u32))], .own, fun j => match j with  | _ => []⟩
noncomputable def bits_Add32.cals : Cals := (Cals.base tabs)
noncomputable def bits_Add32.sig : Sig := bits_Add32.spec.sig bits_Add32.cals T Tryz.f136
noncomputable def bits_Add32.F (x : Int × Int × Int × Unit) : Option (Int × Int × Unit) := limF bits_Add32.spec bits_Add32.cals T Tryz.f136 x
theorem bits_Add32.ck : CalsOk Tryz.prog bits_Add32.cals := (CalsOk.base tabsOk)
theorem bits_Add32.cal : CalOk Tryz.prog tabs 136 bits_Add32.sig := calOk_lim' tabOk bits_Add32.ck mix Tryz.func136 (by kernel_rfl) (by kernel_rfl) (by kernel_rfl) (by kernel_rfl)
noncomputable def bits_Add32.e  (a0 : Int) (a1 : Int) (a2 : Int) : Option (Int × Int × Unit) :=
  let v1 := IntKind.u64.wrap a0
  let v2 := IntKind.u64.wrap a1
  let v3 := IntKind.u64.wrap (v1 + v2)
  let v4 := IntKind.u64.wrap a2
  let v5 := IntKind.u64.wrap (v3 + v4)
  let v6 := IntKind.u32.wrap v5
  bif decide ((32 : Int) < 0) then none
  else (let v7 := shrI .u64 v5 (32 : Int)
  let v8 := IntKind.u32.wrap v7
  some (v6, v8, ()))
theorem bits_Add32.eval (k : Nat) (a0 : Int) (a1 : Int) (a2 : Int) : evalF bits_Add32.spec bits_Add32.cals T Tryz.f136 k (a0, a1, a2, ()) = bits_Add32.e  a0 a1 a2 := by kernel_rfl
theorem bits_Add32.F_eq (a0 : Int) (a1 : Int) (a2 : Int) : bits_Add32.F (a0, a1, a2, ()) = limF bits_Add32.spec bits_Add32.cals T Tryz.f136 (a0, a1, a2, ()) := by kernel_rfl
theorem bits_Add32.of (k : Nat) (a0 : Int) (a1 : Int) (a2 : Int) {y : Int × Int × Unit} (h : bits_Add32.e  a0 a1 a2 = some y) : bits_Add32.F (a0, a1, a2, ()) = some y := (bits_Add32.F_eq a0 a1 a2).trans (limF_of (q := bits_Add32.spec) (C := bits_Add32.cals) (T := T) (f := Tryz.f136) (x := (a0, a1, a2, ())) (y := y) k ((bits_Add32.eval k a0 a1 a2).trans h))

def nat_digit.spec : IoSpec := ⟨114, (.int .u32), [(false, Kt38)], [(false, (.int .u32))], fun j => match j with | 4 => [(0, .sub true), (1, .lf (.z 114 (.int .u32) false)), (5, .lf (.v true)), (7, .lf (.v true)), (8, .lf (.v true))] | 10 => [(0, .sub true), (1, .lf (.z 114 (.int .u32) false)), (5, .lf (.v true)), (7, .lf (.v true)), (9, .lf (.v true)), (10, .lf (.v true)), (82, .lf (.v true)), (83, .lf (.v true))] | 21 => [(0, .sub true), (1, .lf (.z 114 (.int .u32) false)), (5, .lf (.v true)), (7, .lf (.v true)), (13, .lf (.v true)), (130, .lf (.v true)), (131, .lf (.v true))] | _ => []⟩
noncomputable def nat_digit.cals : Cals := (Cals.cons 135 bits_Sub32.sig (Cals.cons 136 bits_Add32.sig (Cals.base tabs)))
noncomputable def nat_digit.sig : IoSig := nat_digit.spec.sig nat_digit.cals T Tryz.f131
noncomputable def nat_digit.F (zs : List Int) (o n : Nat) (x : Dt38 × Unit) : Option ((Int × Unit) × List Int) := limIO nat_digit.spec nat_digit.cals T Tryz.f131 zs o n x
theorem nat_digit.ck : CalsOk Tryz.prog nat_digit.cals := (CalsOk.cons bits_Sub32.cal (CalsOk.cons bits_Add32.cal (CalsOk.base tabsOk)))
theorem nat_digit.cal : IoOk Tryz.prog 131 nat_digit.sig := io_of' tabOk nat_digit.ck mix Tryz.func131 (by kernel_rfl) (by kernel_rfl) (by kernel_rfl) (by kernel_rfl) rfl
def nat_digit.m4 (x0 : Dt38) (x0_o : Nat) (x0_n : Nat) (x0_g : (Nat × Nat)) (x1 : Dt38) (x5 : Int) (x7 : Int) (x8 : Int) : S := ⟨[(0, .sub 0 x0_o x0_n (some x0_g)), (1, .one (.lf (.val false Kt38 x1))), (5, .one (.lf (.val true (.int .i64) x5))), (7, .one (.lf (.val true (.int .u64) x7))), (8, .one (.lf (.val true (.int .u64) x8)))], ⟨[some ⟨114, (.int .u32), true, true, x0⟩], []⟩⟩
def nat_digit.m10 (x0 : Dt38) (x0_o : Nat) (x0_n : Nat) (x0_g : (Nat × Nat)) (x1 : Dt38) (x5 : Int) (x7 : Int) (x9 : Int) (x10 : Int) (x82 : Int) (x83 : Int) : S := ⟨[(0, .sub 0 x0_o x0_n (some x0_g)), (1, .one (.lf (.val false Kt38 x1))), (5, .one (.lf (.val true (.int .i64) x5))), (7, .one (.lf (.val true (.int .u64) x7))), (9, .one (.lf (.val true (.int .u32) x9))), (10, .one (.lf (.val true (.int .u64) x10))), (82, .one (.lf (.val true (.int .i64) x82))), (83, .one (.lf (.val true (.int .i64) x83)))], ⟨[some ⟨114, (.int .u32), true, true, x0⟩], []⟩⟩
def nat_digit.m21 (x0 : Dt38) (x0_o : Nat) (x0_n : Nat) (x0_g : (Nat × Nat)) (x1 : Dt38) (x5 : Int) (x7 : Int) (x13 : Int) (x130 : Int) (x131 : Int) : S := ⟨[(0, .sub 0 x0_o x0_n (some x0_g)), (1, .one (.lf (.val false Kt38 x1))), (5, .one (.lf (.val true (.int .i64) x5))), (7, .one (.lf (.val true (.int .u64) x7))), (13, .one (.lf (.val true (.int .u32) x13))), (130, .one (.lf (.val true (.int .i64) x130))), (131, .one (.lf (.val true (.int .i64) x131)))], ⟨[some ⟨114, (.int .u32), true, true, x0⟩], []⟩⟩
noncomputable def nat_digit.b4 (f4 : Dt38 → Nat → Nat → (Nat × Nat) → Dt38 → Int → Int → Int → Option ((Int × Unit) × List Int × (Nat × Nat))) (f10 : Dt38 → Nat → Nat → (Nat × Nat) → Dt38 → Int → Int → Int → Int → Int → Int → Option ((Int × Unit) × List Int × (Nat × Nat))) (f21 : Dt38 → Nat → Nat → (Nat × Nat) → Dt38 → Int → Int → Int → Int → Int → Option ((Int × Unit) × List Int × (Nat × Nat))) (x0 : Dt38) (x0_o : Nat) (x0_n : Nat) (x0_g : (Nat × Nat)) (x1 : Dt38) (x5 : Int) (x7 : Int) (x8 : Int) : Option ((Int × Unit) × List Int × (Nat × Nat)) :=
  bif decide ((32 : Int) < 0) then none
  else (let v1 := shrI .u64 x7 (32 : Int)
  let v2 := (v1 != (0 : Int))
  bif v2 then (let v3 := IntKind.u64.wrap (x7 - (1 : Int))
  let v4 := IntKind.i64.wrap (x5 - (1 : Int))
  bif decide (0 ≤ v4) && decide (v4 < (List.length x1 : Int)) then (let v5 := List.getD x1 (Int.toNat v4) (0 : Int)
  let v6 := IntKind.u64.wrap v5
  let v7 := IntKind.u64.wrap (x8 + v6)
  bif decide ((32 : Int) < 0) then none
  else (let v8 := shrI .u64 v7 (32 : Int)
  let v9 := (v8 != (0 : Int))
  bif v9 then (f10 x0 x0_o x0_n x0_g x1 x5 v3 (0 : Int) (0 : Int) x5 (0 : Int))
  else (f4 x0 x0_o x0_n x0_g x1 x5 v3 v7)))
  else none)
  else (let v10 := IntKind.i64.wrap (x5 - (2 : Int))
  bif decide (0 ≤ v10) && decide (v10 < (List.length x1 : Int)) then (let v11 := List.getD x1 (Int.toNat v10) (0 : Int)
  let v12 := IntKind.u64.wrap v11
  let v13 := IntKind.u64.wrap (x7 * v12)
  bif decide ((32 : Int) < 0) then none
  else (let v14 := shlI .u64 x8 (32 : Int)
  let v15 := IntKind.i64.wrap (x5 - (2 : Int))
  bif decide (0 ≤ v15) && decide (v15 < ((x0_n : Nat) : Int)) then (let v16 := List.getD x0 (x0_o + Int.toNat v15) (0 : Int)
  let v17 := IntKind.u64.wrap v16
  let v18 := bitsOp .or .u64 v14 v17
  let v19 := decide (v13 > v18)
  bif v19 then (let v20 := IntKind.u64.wrap (x7 - (1 : Int))
  let v21 := IntKind.i64.wrap (x5 - (1 : Int))
  bif decide (0 ≤ v21) && decide (v21 < (List.length x1 : Int)) then (let v22 := List.getD x1 (Int.toNat v21) (0 : Int)
  let v23 := IntKind.u64.wrap v22
  let v24 := IntKind.u64.wrap (x8 + v23)
  bif decide ((32 : Int) < 0) then none
  else (let v25 := shrI .u64 v24 (32 : Int)
  let v26 := (v25 != (0 : Int))
  bif v26 then (f10 x0 x0_o x0_n x0_g x1 x5 v20 (0 : Int) (0 : Int) x5 (0 : Int))
  else (f4 x0 x0_o x0_n x0_g x1 x5 v20 v24)))
  else none)
  else (f10 x0 x0_o x0_n x0_g x1 x5 x7 (0 : Int) (0 : Int) x5 (0 : Int)))
  else none))
  else none))
noncomputable def nat_digit.b10 (f4 : Dt38 → Nat → Nat → (Nat × Nat) → Dt38 → Int → Int → Int → Option ((Int × Unit) × List Int × (Nat × Nat))) (f10 : Dt38 → Nat → Nat → (Nat × Nat) → Dt38 → Int → Int → Int → Int → Int → Int → Option ((Int × Unit) × List Int × (Nat × Nat))) (f21 : Dt38 → Nat → Nat → (Nat × Nat) → Dt38 → Int → Int → Int → Int → Int → Option ((Int × Unit) × List Int × (Nat × Nat))) (x0 : Dt38) (x0_o : Nat) (x0_n : Nat) (x0_g : (Nat × Nat)) (x1 : Dt38) (x5 : Int) (x7 : Int) (x9 : Int) (x10 : Int) (x82 : Int) (x83 : Int) : Option ((Int × Unit) × List Int × (Nat × Nat)) :=
  let v1 := decide (x83 < x82)
  bif v1 then (bif decide (0 ≤ x83) && decide (x83 < (List.length x1 : Int)) then (let v2 := List.getD x1 (Int.toNat x83) (0 : Int)
  let v3 := IntKind.u64.wrap v2
  let v4 := IntKind.u64.wrap (x7 * v3)
  let v5 := IntKind.u64.wrap (v4 + x10)
  bif decide ((32 : Int) < 0) then none
  else (let v6 := shrI .u64 v5 (32 : Int)
  bif decide (0 ≤ x83) && decide (x83 < ((x0_n : Nat) : Int)) then (let v7 := List.getD x0 (x0_o + Int.toNat x83) (0 : Int)
  let v8 := IntKind.u32.wrap v5
  (bits_Sub32.F (v7, v8, x9, ())).bind fun y9 =>
  bif decide (0 ≤ x83) && decide (x83 < ((x0_n : Nat) : Int)) then (let v10 := List.set x0 (x0_o + Int.toNat x83) y9.1
  let v11 := IntKind.i64.wrap (x83 + (1 : Int))
  f10 v10 x0_o x0_n x0_g x1 x5 x7 y9.2.1 v6 x82 v11)
  else none)
  else none))
  else none)
  else (bif decide (0 ≤ x5) && decide (x5 < ((x0_n : Nat) : Int)) then (let v12 := List.getD x0 (x0_o + Int.toNat x5) (0 : Int)
  let v13 := IntKind.u32.wrap x10
  (bits_Sub32.F (v12, v13, x9, ())).bind fun y14 =>
  bif decide (0 ≤ x5) && decide (x5 < ((x0_n : Nat) : Int)) then (let v15 := List.set x0 (x0_o + Int.toNat x5) y14.1
  let v16 := (y14.2.1 == (1 : Int))
  bif v16 then (let v17 := IntKind.u64.wrap (x7 - (1 : Int))
  f21 v15 x0_o x0_n x0_g x1 x5 v17 (0 : Int) x5 (0 : Int))
  else (let v18 := IntKind.u32.wrap x7
  bif Nat.blt 0 x0_n && true then (some ((v18, ()), v15, x0_g))
  else none))
  else none)
  else none)
noncomputable def nat_digit.b21 (f4 : Dt38 → Nat → Nat → (Nat × Nat) → Dt38 → Int → Int → Int → Option ((Int × Unit) × List Int × (Nat × Nat))) (f10 : Dt38 → Nat → Nat → (Nat × Nat) → Dt38 → Int → Int → Int → Int → Int → Int → Option ((Int × Unit) × List Int × (Nat × Nat))) (f21 : Dt38 → Nat → Nat → (Nat × Nat) → Dt38 → Int → Int → Int → Int → Int → Option ((Int × Unit) × List Int × (Nat × Nat))) (x0 : Dt38) (x0_o : Nat) (x0_n : Nat) (x0_g : (Nat × Nat)) (x1 : Dt38) (x5 : Int) (x7 : Int) (x13 : Int) (x130 : Int) (x131 : Int) : Option ((Int × Unit) × List Int × (Nat × Nat)) :=
  let v1 := decide (x131 < x130)
  bif v1 then (bif decide (0 ≤ x131) && decide (x131 < ((x0_n : Nat) : Int)) then (let v2 := List.getD x0 (x0_o + Int.toNat x131) (0 : Int)
  bif decide (0 ≤ x131) && decide (x131 < (List.length x1 : Int)) then (let v3 := List.getD x1 (Int.toNat x131) (0 : Int)
  (bits_Add32.F (v2, v3, x13, ())).bind fun y4 =>
  bif decide (0 ≤ x131) && decide (x131 < ((x0_n : Nat) : Int)) then (let v5 := List.set x0 (x0_o + Int.toNat x131) y4.1
  let v6 := IntKind.i64.wrap (x131 + (1 : Int))
  f21 v5 x0_o x0_n x0_g x1 x5 x7 y4.2.1 x130 v6)
  else none)
  else none)
  else none)
  else (bif decide (0 ≤ x5) && decide (x5 < ((x0_n : Nat) : Int)) then (let v7 := List.getD x0 (x0_o + Int.toNat x5) (0 : Int)
  let v8 := IntKind.u32.wrap (v7 + x13)
  bif decide (0 ≤ x5) && decide (x5 < ((x0_n : Nat) : Int)) then (let v9 := List.set x0 (x0_o + Int.toNat x5) v8
  let v10 := IntKind.u32.wrap x7
  bif Nat.blt 0 x0_n && true then (some ((v10, ()), v9, x0_g))
  else none)
  else none)
  else none)
noncomputable def nat_digit.e (f4 : Dt38 → Nat → Nat → (Nat × Nat) → Dt38 → Int → Int → Int → Option ((Int × Unit) × List Int × (Nat × Nat))) (f10 : Dt38 → Nat → Nat → (Nat × Nat) → Dt38 → Int → Int → Int → Int → Int → Int → Option ((Int × Unit) × List Int × (Nat × Nat))) (f21 : Dt38 → Nat → Nat → (Nat × Nat) → Dt38 → Int → Int → Int → Int → Int → Option ((Int × Unit) × List Int × (Nat × Nat))) (zs : List Int) (o n : Nat) (g : Nat × Nat) (a1 : Dt38) : Option ((Int × Unit) × List Int × (Nat × Nat)) :=
  let v1 := (List.length a1 : Int)
  bif decide (0 ≤ v1) && decide (v1 < ((n : Nat) : Int)) then (let v2 := List.getD zs (o + Int.toNat v1) (0 : Int)
  let v3 := IntKind.u64.wrap v2
  bif decide ((32 : Int) < 0) then none
  else (let v4 := shlI .u64 v3 (32 : Int)
  let v5 := IntKind.i64.wrap (v1 - (1 : Int))
  bif decide (0 ≤ v5) && decide (v5 < ((n : Nat) : Int)) then (let v6 := List.getD zs (o + Int.toNat v5) (0 : Int)
  let v7 := IntKind.u64.wrap v6
  let v8 := bitsOp .or .u64 v4 v7
  let v9 := IntKind.i64.wrap (v1 - (1 : Int))
  bif decide (0 ≤ v9) && decide (v9 < (List.length a1 : Int)) then (let v10 := List.getD a1 (Int.toNat v9) (0 : Int)
  let v11 := IntKind.u64.wrap v10
  bif decide (v11 = 0) then none
  else (let v12 := IntKind.u64.wrap (Int.tdiv v8 v11)
  let v13 := IntKind.i64.wrap (v1 - (1 : Int))
  bif decide (0 ≤ v13) && decide (v13 < (List.length a1 : Int)) then (let v14 := List.getD a1 (Int.toNat v13) (0 : Int)
  let v15 := IntKind.u64.wrap v14
  bif decide (v15 = 0) then none
  else (let v16 := Int.tmod v8 v15
  f4 zs o n g a1 v1 v12 v16))
  else none))
  else none)
  else none))
  else none
noncomputable def nat_digit.L4 (k : Nat) (x0 : Dt38) (x0_o : Nat) (x0_n : Nat) (x0_g : (Nat × Nat)) (x1 : Dt38) (x5 : Int) (x7 : Int) (x8 : Int) : Option ((Int × Unit) × List Int × (Nat × Nat)) := heads (nat_digit.spec.env nat_digit.cals T Tryz.f131) (Func.pts Tryz.f131) k 4 (nat_digit.m4 x0 x0_o x0_n x0_g x1 x5 x7 x8)
noncomputable def nat_digit.L10 (k : Nat) (x0 : Dt38) (x0_o : Nat) (x0_n : Nat) (x0_g : (Nat × Nat)) (x1 : Dt38) (x5 : Int) (x7 : Int) (x9 : Int) (x10 : Int) (x82 : Int) (x83 : Int) : Option ((Int × Unit) × List Int × (Nat × Nat)) := heads (nat_digit.spec.env nat_digit.cals T Tryz.f131) (Func.pts Tryz.f131) k 10 (nat_digit.m10 x0 x0_o x0_n x0_g x1 x5 x7 x9 x10 x82 x83)
noncomputable def nat_digit.L21 (k : Nat) (x0 : Dt38) (x0_o : Nat) (x0_n : Nat) (x0_g : (Nat × Nat)) (x1 : Dt38) (x5 : Int) (x7 : Int) (x13 : Int) (x130 : Int) (x131 : Int) : Option ((Int × Unit) × List Int × (Nat × Nat)) := heads (nat_digit.spec.env nat_digit.cals T Tryz.f131) (Func.pts Tryz.f131) k 21 (nat_digit.m21 x0 x0_o x0_n x0_g x1 x5 x7 x13 x130 x131)
theorem nat_digit.L4_succ (k : Nat) (x0 : Dt38) (x0_o : Nat) (x0_n : Nat) (x0_g : (Nat × Nat)) (x1 : Dt38) (x5 : Int) (x7 : Int) (x8 : Int) : nat_digit.L4 (k + 1) x0 x0_o x0_n x0_g x1 x5 x7 x8 = nat_digit.b4 (nat_digit.L4 k) (nat_digit.L10 k) (nat_digit.L21 k) x0 x0_o x0_n x0_g x1 x5 x7 x8 := by kernel_rfl
theorem nat_digit.L10_succ (k : Nat) (x0 : Dt38) (x0_o : Nat) (x0_n : Nat) (x0_g : (Nat × Nat)) (x1 : Dt38) (x5 : Int) (x7 : Int) (x9 : Int) (x10 : Int) (x82 : Int) (x83 : Int) : nat_digit.L10 (k + 1) x0 x0_o x0_n x0_g x1 x5 x7 x9 x10 x82 x83 = nat_digit.b10 (nat_digit.L4 k) (nat_digit.L10 k) (nat_digit.L21 k) x0 x0_o x0_n x0_g x1 x5 x7 x9 x10 x82 x83 := by kernel_rfl
theorem nat_digit.L21_succ (k : Nat) (x0 : Dt38) (x0_o : Nat) (x0_n : Nat) (x0_g : (Nat × Nat)) (x1 : Dt38) (x5 : Int) (x7 : Int) (x13 : Int) (x130 : Int) (x131 : Int) : nat_digit.L21 (k + 1) x0 x0_o x0_n x0_g x1 x5 x7 x13 x130 x131 = nat_digit.b21 (nat_digit.L4 k) (nat_digit.L10 k) (nat_digit.L21 k) x0 x0_o x0_n x0_g x1 x5 x7 x13 x130 x131 := by kernel_rfl
theorem nat_digit.eval (k : Nat) (zs : List Int) (o n : Nat) (g : Nat × Nat) (a1 : Dt38) : evalIO nat_digit.spec nat_digit.cals T Tryz.f131 k zs o n g (a1, ()) = nat_digit.e (nat_digit.L4 k) (nat_digit.L10 k) (nat_digit.L21 k) zs o n g a1 := by kernel_rfl
theorem nat_digit.of (zs : List Int) (o n : Nat) (a1 : Dt38) (y : (Int × Unit)) (ws : List Int) (h : ∀ g, ∃ k, nat_digit.e (nat_digit.L4 k) (nat_digit.L10 k) (nat_digit.L21 k) zs o n g a1 = some (y, ws, g)) : nat_digit.F zs o n (a1, ()) = some (y, ws) := limIO_of (q := nat_digit.spec) (C := nat_digit.cals) (T := T) (f := Tryz.f131) (x := (a1, ())) y ws fun g => (h g).imp fun k hk => (nat_digit.eval k zs o n g a1).trans hk

def nat_long.spec : Spec := ⟨[(false, Kt38), (false, Kt38)], [(false, Kt38), (false, Kt38)], .own, fun j => match j with | 7 => [(6, .lf (.v true)), (7, .lf (.z 114 (.int .u32) true)), (8, .lf (.o 114 (.int .u32) true)), (9, .lf (.v true)), (10, .lf (.o 114 (.int .u32) true)), (11, .lf (.v true))] | 12 => [(6, .lf (.v true)), (8, .lf (.o 114 (.int .u32) true)), (10, .lf (.o 114 (.int .u32) true)), (12, .lf (.o 114 (.int .u32) true)), (60, .lf (.v true)), (61, .lf (.v true))] | _ => []⟩
noncomputable def nat_long.cals : Cals := (Cals.withSubs [54] (Cals.consIo 131 nat_digit.sig (Cals.cons 129 bits_LeadingZeros32.sig (Cals.cons 130 nat_moved.sig (Cals.cons 115 nat_own.sig (Cals.base tabs))))))
noncomputable def nat_long.sig : Sig := nat_long.spec.sig nat_long.cals T Tryz.f118
noncomputable def nat_long.F (x : Dt38 × Dt38 × Unit) : Option (Dt38 × Dt38 × Unit) := limF nat_long.spec nat_long.cals T Tryz.f118 x
theorem nat_long.ck : CalsOk Tryz.prog nat_long.cals := (CalsOk.withSubs [54] (CalsOk.consIo nat_digit.cal (CalsOk.cons bits_LeadingZeros32.cal (CalsOk.cons nat_moved.cal (CalsOk.cons nat_own.cal (CalsOk.base tabsOk))))))
theorem nat_long.cal : CalOk Tryz.prog tabs 118 nat_long.sig := calOk_lim' tabOk nat_long.ck mix Tryz.func118 (by kernel_rfl) (by kernel_rfl) (by kernel_rfl) (by kernel_rfl)
def nat_long.m7 (x6 : Int) (x7 : Dt38) (x8 : Dt38) (x9 : Int) (x10 : Dt38) (x11 : Int) : S := ⟨[(6, .one (.lf (.val true (.int .i64) x6))), (7, .one (.lf (.val true Kt38 x7))), (8, .one (.lf (.own 0))), (9, .one (.lf (.val true (.int .i64) x9))), (10, .one (.lf (.own 1))), (11, .one (.lf (.val true (.int .i64) x11)))], ⟨[some ⟨114, (.int .u32), true, true, x8⟩, some ⟨114, (.int .u32), true, true, x10⟩], []⟩⟩
def nat_long.m12 (x6 : Int) (x8 : Dt38) (x10 : Dt38) (x12 : Dt38) (x60 : Int) (x61 : Int) : S := ⟨[(6, .one (.lf (.val true (.int .i64) x6))), (8, .one (.lf (.own 0))), (10, .one (.lf (.own 1))), (12, .one (.lf (.own 2))), (60, .one (.lf (.val true (.int .i64) x60))), (61, .one (.lf (.val true (.int .i64) x61)))], ⟨[some ⟨114, (.int .u32), true, true, x8⟩, some ⟨114, (.int .u32), true, true, x10⟩, some ⟨114, (.int .u32), true, true, x12⟩], []⟩⟩
noncomputable def nat_long.b7 (f7 : Int → Dt38 → Dt38 → Int → Dt38 → Int → Option (Dt38 × Dt38 × Unit)) (f12 : Int → Dt38 → Dt38 → Dt38 → Int → Int → Option (Dt38 × Dt38 × Unit)) (x6 : Int) (x7 : Dt38) (x8 : Dt38) (x9 : Int) (x10 : Dt38) (x11 : Int) : Option (Dt38 × Dt38 × Unit) :=
  let v1 := decide (x11 ≥ (0 : Int))
  bif v1 then (let v2 := IntKind.i64.wrap (x11 + x9)
  let v3 := IntKind.i64.wrap (v2 + (1 : Int))
  bif decide (0 ≤ x11) && (decide (x11 ≤ v3) && decide (v3 ≤ (List.length x8 : Int))) then (bif Nat.blt 0 (Int.toNat (v3 - x11)) && true then ((nat_digit.F x8 (Int.toNat x11) (Int.toNat (v3 - x11)) (x7, ())).bind fun y4 =>
  bif Nat.beq (List.length y4.2) (List.length x8) then (bif decide (0 ≤ x11) && decide (x11 < (List.length x10 : Int)) then (let v5 := List.set x10 (Int.toNat x11) y4.1.1
  let v6 := IntKind.i64.wrap (x11 - (1 : Int))
  f7 x6 x7 y4.2 x9 v5 v6)
  else none)
  else none)
  else none)
  else none)
  else (bif decide (0 ≤ x9) && (decide (x9 ≤ x9) && (decide (Int.toNat x9 * 4 ≤ 281474976710656) && Nat.blt 0 4)) then (let v7 := List.replicate (Int.toNat x9) (0 : Int)
  f12 x6 x8 x10 v7 x9 (0 : Int))
  else none)
noncomputable def nat_long.b12 (f7 : Int → Dt38 → Dt38 → Int → Dt38 → Int → Option (Dt38 × Dt38 × Unit)) (f12 : Int → Dt38 → Dt38 → Dt38 → Int → Int → Option (Dt38 × Dt38 × Unit)) (x6 : Int) (x8 : Dt38) (x10 : Dt38) (x12 : Dt38) (x60 : Int) (x61 : Int) : Option (Dt38 × Dt38 × Unit) :=
  let v1 := decide (x61 < x60)
  bif v1 then (bif decide (0 ≤ x61) && decide (x61 < (List.length x8 : Int)) then (let v2 := List.getD x8 (Int.toNat x61) (0 : Int)
  bif decide (x6 < 0) then none
  else (let v3 := shrI .u32 v2 x6
  let v4 := IntKind.i64.wrap (x61 + (1 : Int))
  bif decide (0 ≤ v4) && decide (v4 < (List.length x8 : Int)) then (let v5 := List.getD x8 (Int.toNat v4) (0 : Int)
  let v6 := IntKind.u64.wrap v5
  let v7 := IntKind.i64.wrap ((32 : Int) - x6)
  bif decide (v7 < 0) then none
  else (let v8 := shlI .u64 v6 v7
  let v9 := IntKind.u32.wrap v8
  let v10 := bitsOp .or .u32 v3 v9
  bif decide (0 ≤ x61) && decide (x61 < (List.length x12 : Int)) then (let v11 := List.set x12 (Int.toNat x61) v10
  let v12 := IntKind.i64.wrap (x61 + (1 : Int))
  f12 x6 x8 x10 v11 x60 v12)
  else none))
  else none))
  else none)
  else ((nat_own.F (x10, ())).bind fun y13 =>
  (nat_own.F (x12, ())).bind fun y14 =>
  some (y13.1, y14.1, ()))
noncomputable def nat_long.e (f7 : Int → Dt38 → Dt38 → Int → Dt38 → Int → Option (Dt38 × Dt38 × Unit)) (f12 : Int → Dt38 → Dt38 → Dt38 → Int → Int → Option (Dt38 × Dt38 × Unit)) (a0 : Dt38) (a1 : Dt38) : Option (Dt38 × Dt38 × Unit) :=
  let v1 := (List.length a1 : Int)
  let v2 := IntKind.i64.wrap (v1 - (1 : Int))
  bif decide (0 ≤ v2) && decide (v2 < (List.length a1 : Int)) then (let v3 := List.getD a1 (Int.toNat v2) (0 : Int)
  (bits_LeadingZeros32.F (v3, ())).bind fun y4 =>
  (nat_moved.F (a1, y4.1, ())).bind fun y5 =>
  let v6 := (List.length a1 : Int)
  bif decide (0 ≤ v6) && decide (v6 ≤ (List.length y5.1 : Int)) then (let v7 := List.take (Int.toNat v6) y5.1
  (nat_moved.F (a0, y4.1, ())).bind fun y8 =>
  let v9 := (List.length v7 : Int)
  let v10 := (List.length y8.1 : Int)
  let v11 := IntKind.i64.wrap (v10 - v9)
  bif decide (0 ≤ v11) && (decide (v11 ≤ v11) && (decide (Int.toNat v11 * 4 ≤ 281474976710656) && Nat.blt 0 4)) then (let v12 := List.replicate (Int.toNat v11) (0 : Int)
  let v13 := (List.length y8.1 : Int)
  let v14 := IntKind.i64.wrap (v13 - v9)
  let v15 := IntKind.i64.wrap (v14 - (1 : Int))
  f7 y4.1 v7 y8.1 v9 v12 v15)
  else none)
  else none)
  else none
noncomputable def nat_long.L7 (k : Nat) (x6 : Int) (x7 : Dt38) (x8 : Dt38) (x9 : Int) (x10 : Dt38) (x11 : Int) : Option (Dt38 × Dt38 × Unit) := heads (nat_long.spec.env nat_long.cals T Tryz.f118) (Func.pts Tryz.f118) k 7 (nat_long.m7 x6 x7 x8 x9 x10 x11)
noncomputable def nat_long.L12 (k : Nat) (x6 : Int) (x8 : Dt38) (x10 : Dt38) (x12 : Dt38) (x60 : Int) (x61 : Int) : Option (Dt38 × Dt38 × Unit) := heads (nat_long.spec.env nat_long.cals T Tryz.f118) (Func.pts Tryz.f118) k 12 (nat_long.m12 x6 x8 x10 x12 x60 x61)
theorem nat_long.L7_succ (k : Nat) (x6 : Int) (x7 : Dt38) (x8 : Dt38) (x9 : Int) (x10 : Dt38) (x11 : Int) : nat_long.L7 (k + 1) x6 x7 x8 x9 x10 x11 = nat_long.b7 (nat_long.L7 k) (nat_long.L12 k) x6 x7 x8 x9 x10 x11 := by kernel_rfl
theorem nat_long.L12_succ (k : Nat) (x6 : Int) (x8 : Dt38) (x10 : Dt38) (x12 : Dt38) (x60 : Int) (x61 : Int) : nat_long.L12 (k + 1) x6 x8 x10 x12 x60 x61 = nat_long.b12 (nat_long.L7 k) (nat_long.L12 k) x6 x8 x10 x12 x60 x61 := by kernel_rfl
theorem nat_long.eval (k : Nat) (a0 : Dt38) (a1 : Dt38) : evalF nat_long.spec nat_long.cals T Tryz.f118 k (a0, a1, ()) = nat_long.e (nat_long.L7 k) (nat_long.L12 k) a0 a1 := by kernel_rfl
theorem nat_long.F_eq (a0 : Dt38) (a1 : Dt38) : nat_long.F (a0, a1, ()) = limF nat_long.spec nat_long.cals T Tryz.f118 (a0, a1, ()) := by kernel_rfl
theorem nat_long.of (k : Nat) (a0 : Dt38) (a1 : Dt38) {y : Dt38 × Dt38 × Unit} (h : nat_long.e (nat_long.L7 k) (nat_long.L12 k) a0 a1 = some y) : nat_long.F (a0, a1, ()) = some y := (nat_long.F_eq a0 a1).trans (limF_of (q := nat_long.spec) (C := nat_long.cals) (T := T) (f := Tryz.f118) (x := (a0, a1, ())) (y := y) k ((nat_long.eval k a0 a1).trans h))

def nat_Div.spec : Spec := ⟨[(false, Kt38), (false, Kt38)], [(false, Kt38), (false, Kt38), (false, (.int .i64))], .own, fun j => match j with  | _ => []⟩
noncomputable def nat_Div.cals : Cals := (Cals.cons 104 nat_trim.sig (Cals.cons 116 nat_Cmp.sig (Cals.cons 115 nat_own.sig (Cals.cons 117 nat_short.sig (Cals.cons 118 nat_long.sig (Cals.base tabs))))))
noncomputable def nat_Div.sig : Sig := nat_Div.spec.sig nat_Div.cals T Tryz.f107
noncomputable def nat_Div.F (x : Dt38 × Dt38 × Unit) : Option (Dt38 × Dt38 × Int × Unit) := limF nat_Div.spec nat_Div.cals T Tryz.f107 x
theorem nat_Div.ck : CalsOk Tryz.prog nat_Div.cals := (CalsOk.cons nat_trim.cal (CalsOk.cons nat_Cmp.cal (CalsOk.cons nat_own.cal (CalsOk.cons nat_short.cal (CalsOk.cons nat_long.cal (CalsOk.base tabsOk))))))
theorem nat_Div.cal : CalOk Tryz.prog tabs 107 nat_Div.sig := calOk_lim' tabOk nat_Div.ck mix Tryz.func107 (by kernel_rfl) (by kernel_rfl) (by kernel_rfl) (by kernel_rfl)
noncomputable def nat_Div.e  (a0 : Dt38) (a1 : Dt38) : Option (Dt38 × Dt38 × Int × Unit) :=
  (nat_trim.F (a0, ())).bind fun y1 =>
  (nat_trim.F (a1, ())).bind fun y2 =>
  let v3 := (List.length y2.1 : Int)
  let v4 := (v3 == (0 : Int))
  bif v4 then (some (zt38, zt38, (11 : Int), ()))
  else ((nat_Cmp.F (y1.1, y2.1, ())).bind fun y5 =>
  let v6 := decide (y5.1 < (0 : Int))
  bif v6 then ((nat_own.F (y1.1, ())).bind fun y7 =>
  some (zt38, y7.1, (0 : Int), ()))
  else (let v8 := (List.length y2.1 : Int)
  let v9 := (v8 == (1 : Int))
  bif v9 then (bif decide (0 ≤ (0 : Int)) && decide ((0 : Int) < (List.length y2.1 : Int)) then (let v10 := List.getD y2.1 (Int.toNat (0 : Int)) (0 : Int)
  (nat_short.F (y1.1, v10, ())).bind fun y11 =>
  (nat_own.F (y11.1, ())).bind fun y12 =>
  let v13 := ([y11.2.1] : List Int)
  (nat_own.F (v13, ())).bind fun y14 =>
  some (y12.1, y14.1, (0 : Int), ()))
  else none)
  else ((nat_long.F (y1.1, y2.1, ())).bind fun y15 =>
  some (y15.1, y15.2.1, (0 : Int), ()))))
theorem nat_Div.eval (k : Nat) (a0 : Dt38) (a1 : Dt38) : evalF nat_Div.spec nat_Div.cals T Tryz.f107 k (a0, a1, ()) = nat_Div.e  a0 a1 := by kernel_rfl
theorem nat_Div.F_eq (a0 : Dt38) (a1 : Dt38) : nat_Div.F (a0, a1, ()) = limF nat_Div.spec nat_Div.cals T Tryz.f107 (a0, a1, ()) := by kernel_rfl
theorem nat_Div.of (k : Nat) (a0 : Dt38) (a1 : Dt38) {y : Dt38 × Dt38 × Int × Unit} (h : nat_Div.e  a0 a1 = some y) : nat_Div.F (a0, a1, ()) = some y := (nat_Div.F_eq a0 a1).trans (limF_of (q := nat_Div.spec) (C := nat_Div.cals) (T := T) (f := Tryz.f107) (x := (a0, a1, ())) (y := y) k ((nat_Div.eval k a0 a1).trans h))

def nat_Gcd.spec : Spec := ⟨[(false, Kt38), (false, Kt38)], [(false, Kt38)], .own, fun j => match j with | 2 => [(0, .lf (.o 114 (.int .u32) true)), (1, .lf (.o 114 (.int .u32) true))] | _ => []⟩
noncomputable def nat_Gcd.cals : Cals := (Cals.cons 115 nat_own.sig (Cals.cons 107 nat_Div.sig (Cals.base tabs)))
noncomputable def nat_Gcd.sig : Sig := nat_Gcd.spec.sig nat_Gcd.cals T Tryz.f106
noncomputable def nat_Gcd.F (x : Dt38 × Dt38 × Unit) : Option (Dt38 × Unit) := limF nat_Gcd.spec nat_Gcd.cals T Tryz.f106 x
theorem nat_Gcd.ck : CalsOk Tryz.prog nat_Gcd.cals := (CalsOk.cons nat_own.cal (CalsOk.cons nat_Div.cal (CalsOk.base tabsOk)))
theorem nat_Gcd.cal : CalOk Tryz.prog tabs 106 nat_Gcd.sig := calOk_lim' tabOk nat_Gcd.ck mix Tryz.func106 (by kernel_rfl) (by kernel_rfl) (by kernel_rfl) (by kernel_rfl)
def nat_Gcd.m2 (x0 : Dt38) (x1 : Dt38) : S := ⟨[(0, .one (.lf (.own 0))), (1, .one (.lf (.own 1)))], ⟨[some ⟨114, (.int .u32), true, true, x0⟩, some ⟨114, (.int .u32), true, true, x1⟩], []⟩⟩
noncomputable def nat_Gcd.b2 (f2 : Dt38 → Dt38 → Option (Dt38 × Unit)) (x0 : Dt38) (x1 : Dt38) : Option (Dt38 × Unit) :=
  let v1 := (List.length x1 : Int)
  let v2 := decide (v1 > (0 : Int))
  bif v2 then ((nat_Div.F (x0, x1, ())).bind fun y3 =>
  f2 x1 y3.2.1)
  else (some (x0, ()))
noncomputable def nat_Gcd.e (f2 : Dt38 → Dt38 → Option (Dt38 × Unit)) (a0 : Dt38) (a1 : Dt38) : Option (Dt38 × Unit) :=
  (nat_own.F (a0, ())).bind fun y1 =>
  (nat_own.F (a1, ())).bind fun y2 =>
  f2 y1.1 y2.1
noncomputable def nat_Gcd.L2 (k : Nat) (x0 : Dt38) (x1 : Dt38) : Option (Dt38 × Unit) := heads (nat_Gcd.spec.env nat_Gcd.cals T Tryz.f106) (Func.pts Tryz.f106) k 2 (nat_Gcd.m2 x0 x1)
theorem nat_Gcd.L2_succ (k : Nat) (x0 : Dt38) (x1 : Dt38) : nat_Gcd.L2 (k + 1) x0 x1 = nat_Gcd.b2 (nat_Gcd.L2 k) x0 x1 := by kernel_rfl
theorem nat_Gcd.eval (k : Nat) (a0 : Dt38) (a1 : Dt38) : evalF nat_Gcd.spec nat_Gcd.cals T Tryz.f106 k (a0, a1, ()) = nat_Gcd.e (nat_Gcd.L2 k) a0 a1 := by kernel_rfl
theorem nat_Gcd.F_eq (a0 : Dt38) (a1 : Dt38) : nat_Gcd.F (a0, a1, ()) = limF nat_Gcd.spec nat_Gcd.cals T Tryz.f106 (a0, a1, ()) := by kernel_rfl
theorem nat_Gcd.of (k : Nat) (a0 : Dt38) (a1 : Dt38) {y : Dt38 × Unit} (h : nat_Gcd.e (nat_Gcd.L2 k) a0 a1 = some y) : nat_Gcd.F (a0, a1, ()) = some y := (nat_Gcd.F_eq a0 a1).trans (limF_of (q := nat_Gcd.spec) (C := nat_Gcd.cals) (T := T) (f := Tryz.f106) (x := (a0, a1, ())) (y := y) k ((nat_Gcd.eval k a0 a1).trans h))

def whole_core.spec : Spec := ⟨[(false, Kt38)], [(false, Kt38)], .shared, fun j => match j with | 2 => [(0, .lf (.z 114 (.int .u32) true)), (3, .lf (.v true))] | _ => []⟩
noncomputable def whole_core.cals : Cals := (Cals.base tabs)
noncomputable def whole_core.sig : Sig := whole_core.spec.sig whole_core.cals T Tryz.f119
noncomputable def whole_core.F (x : Dt38 × Unit) : Option (Dt38 × Unit) := limF whole_core.spec whole_core.cals T Tryz.f119 x
theorem whole_core.ck : CalsOk Tryz.prog whole_core.cals := (CalsOk.base tabsOk)
theorem whole_core.cal : CalOk Tryz.prog tabs 119 whole_core.sig := calOk_lim' tabOk whole_core.ck mix Tryz.func119 (by kernel_rfl) (by kernel_rfl) (by kernel_rfl) (by kernel_rfl)
def whole_core.m2 (x0 : Dt38) (x3 : Int) : S := ⟨[(0, .one (.lf (.val true Kt38 x0))), (3, .one (.lf (.val true (.int .i64) x3)))], ⟨[], []⟩⟩
noncomputable def whole_core.b2 (f2 : Dt38 → Int → Option (Dt38 × Unit)) (x0 : Dt38) (x3 : Int) : Option (Dt38 × Unit) :=
  let v1 := decide (x3 > (0 : Int))
  bif v1 then (let v2 := IntKind.i64.wrap (x3 - (1 : Int))
  bif decide (0 ≤ v2) && decide (v2 < (List.length x0 : Int)) then (let v3 := List.getD x0 (Int.toNat v2) (0 : Int)
  let v4 := (v3 == (0 : Int))
  bif v4 then (let v5 := IntKind.i64.wrap (x3 - (1 : Int))
  f2 x0 v5)
  else (bif decide (0 ≤ x3) && (decide (x3 ≤ x3) && decide (x3 ≤ (List.length x0 : Int))) then (let v6 := List.take (Int.toNat x3) x0
  some (v6, ()))
  else none))
  else none)
  else (bif decide (0 ≤ x3) && (decide (x3 ≤ x3) && decide (x3 ≤ (List.length x0 : Int))) then (let v7 := List.take (Int.toNat x3) x0
  some (v7, ()))
  else none)
noncomputable def whole_core.e (f2 : Dt38 → Int → Option (Dt38 × Unit)) (a0 : Dt38) : Option (Dt38 × Unit) :=
  let v1 := (List.length a0 : Int)
  f2 a0 v1
noncomputable def whole_core.L2 (k : Nat) (x0 : Dt38) (x3 : Int) : Option (Dt38 × Unit) := heads (whole_core.spec.env whole_core.cals T Tryz.f119) (Func.pts Tryz.f119) k 2 (whole_core.m2 x0 x3)
theorem whole_core.L2_succ (k : Nat) (x0 : Dt38) (x3 : Int) : whole_core.L2 (k + 1) x0 x3 = whole_core.b2 (whole_core.L2 k) x0 x3 := by kernel_rfl
theorem whole_core.eval (k : Nat) (a0 : Dt38) : evalF whole_core.spec whole_core.cals T Tryz.f119 k (a0, ()) = whole_core.e (whole_core.L2 k) a0 := by kernel_rfl
theorem whole_core.F_eq (a0 : Dt38) : whole_core.F (a0, ()) = limF whole_core.spec whole_core.cals T Tryz.f119 (a0, ()) := by kernel_rfl
theorem whole_core.of (k : Nat) (a0 : Dt38) {y : Dt38 × Unit} (h : whole_core.e (whole_core.L2 k) a0 = some y) : whole_core.F (a0, ()) = some y := (whole_core.F_eq a0).trans (limF_of (q := whole_core.spec) (C := whole_core.cals) (T := T) (f := Tryz.f119) (x := (a0, ())) (y := y) k ((whole_core.eval k a0).trans h))

def whole_Sign.spec : Spec := ⟨[(true, Kt40)], [(false, (.int .i64))], .own, fun j => match j with  | _ => []⟩
noncomputable def whole_Sign.cals : Cals := (Cals.cons 119 whole_core.sig (Cals.base tabs))
noncomputable def whole_Sign.sig : Sig := whole_Sign.spec.sig whole_Sign.cals T Tryz.f109
noncomputable def whole_Sign.F (x : Dt40 × Unit) : Option (Int × Unit) := limF whole_Sign.spec whole_Sign.cals T Tryz.f109 x
theorem whole_Sign.ck : CalsOk Tryz.prog whole_Sign.cals := (CalsOk.cons whole_core.cal (CalsOk.base tabsOk))
theorem whole_Sign.cal : CalOk Tryz.prog tabs 109 whole_Sign.sig := calOk_lim' tabOk whole_Sign.ck mix Tryz.func109 (by kernel_rfl) (by kernel_rfl) (by kernel_rfl) (by kernel_rfl)
noncomputable def whole_Sign.e  (a0 : Dt40) : Option (Int × Unit) :=
  (whole_core.F (a0.2, ())).bind fun y1 =>
  let v2 := (List.length y1.1 : Int)
  let v3 := (v2 == (0 : Int))
  bif v3 then (some ((0 : Int), ()))
  else (bif a0.1 then (some ((-1 : Int), ()))
  else (some ((1 : Int), ())))
theorem whole_Sign.eval (k : Nat) (a0 : Dt40) : evalF whole_Sign.spec whole_Sign.cals T Tryz.f109 k (a0, ()) = whole_Sign.e  a0 := by kernel_rfl
theorem whole_Sign.F_eq (a0 : Dt40) : whole_Sign.F (a0, ()) = limF whole_Sign.spec whole_Sign.cals T Tryz.f109 (a0, ()) := by kernel_rfl
theorem whole_Sign.of (k : Nat) (a0 : Dt40) {y : Int × Unit} (h : whole_Sign.e  a0 = some y) : whole_Sign.F (a0, ()) = some y := (whole_Sign.F_eq a0).trans (limF_of (q := whole_Sign.spec) (C := whole_Sign.cals) (T := T) (f := Tryz.f109) (x := (a0, ())) (y := y) k ((whole_Sign.eval k a0).trans h))

def nat_Norm.spec : Spec := ⟨[(false, Kt38)], [(false, Kt38)], .own, fun j => match j with  | _ => []⟩
noncomputable def nat_Norm.cals : Cals := (Cals.cons 115 nat_own.sig (Cals.base tabs))
noncomputable def nat_Norm.sig : Sig := nat_Norm.spec.sig nat_Norm.cals T Tryz.f122
noncomputable def nat_Norm.F (x : Dt38 × Unit) : Option (Dt38 × Unit) := limF nat_Norm.spec nat_Norm.cals T Tryz.f122 x
theorem nat_Norm.ck : CalsOk Tryz.prog nat_Norm.cals := (CalsOk.cons nat_own.cal (CalsOk.base tabsOk))
theorem nat_Norm.cal : CalOk Tryz.prog tabs 122 nat_Norm.sig := calOk_lim' tabOk nat_Norm.ck mix Tryz.func122 (by kernel_rfl) (by kernel_rfl) (by kernel_rfl) (by kernel_rfl)
noncomputable def nat_Norm.e  (a0 : Dt38) : Option (Dt38 × Unit) :=
  (nat_own.F (a0, ())).bind fun y1 =>
  some (y1.1, ())
theorem nat_Norm.eval (k : Nat) (a0 : Dt38) : evalF nat_Norm.spec nat_Norm.cals T Tryz.f122 k (a0, ()) = nat_Norm.e  a0 := by kernel_rfl
theorem nat_Norm.F_eq (a0 : Dt38) : nat_Norm.F (a0, ()) = limF nat_Norm.spec nat_Norm.cals T Tryz.f122 (a0, ()) := by kernel_rfl
theorem nat_Norm.of (k : Nat) (a0 : Dt38) {y : Dt38 × Unit} (h : nat_Norm.e  a0 = some y) : nat_Norm.F (a0, ()) = some y := (nat_Norm.F_eq a0).trans (limF_of (q := nat_Norm.spec) (C := nat_Norm.cals) (T := T) (f := Tryz.f122) (x := (a0, ())) (y := y) k ((nat_Norm.eval k a0).trans h))

def whole_signed.spec : Spec := ⟨[(false, Kt38), (false, Kt167)], [(true, Kt40)], .own, fun j => match j with | 4 => [(0, .lf (.o 114 (.int .u32) true)), (4, .box 40 [.v true, .v true]), (5, .lf (.v true)), (10, .lf (.z 3 (.int .i64) false)), (11, .lf (.v true)), (12, .lf (.v true))] | _ => []⟩
noncomputable def whole_signed.cals : Cals := (Cals.cons 122 nat_Norm.sig (Cals.base tabs))
noncomputable def whole_signed.sig : Sig := whole_signed.spec.sig whole_signed.cals T Tryz.f111
noncomputable def whole_signed.F (x : Dt38 × Dt38 × Unit) : Option (Dt40 × Unit) := limF whole_signed.spec whole_signed.cals T Tryz.f111 x
theorem whole_signed.ck : CalsOk Tryz.prog whole_signed.cals := (CalsOk.cons nat_Norm.cal (CalsOk.base tabsOk))
theorem whole_signed.cal : CalOk Tryz.prog tabs 111 whole_signed.sig := calOk_lim' tabOk whole_signed.ck mix Tryz.func111 (by kernel_rfl) (by kernel_rfl) (by kernel_rfl) (by kernel_rfl)
def whole_signed.m4 (x0 : Dt38) (x4_0 : Bool) (x5 : Int) (x10 : Dt38) (x11 : Int) (x12 : Int) : S := ⟨[(0, .one (.lf (.own 0))), (4, .box 0 0), (5, .one (.lf (.val true (.int .i64) x5))), (10, .one (.lf (.val false Kt167 x10))), (11, .one (.lf (.val true (.int .i64) x11))), (12, .one (.lf (.val true (.int .i64) x12)))], ⟨[some ⟨114, (.int .u32), true, true, x0⟩], [some ⟨40, [.val true .bool x4_0, .nil]⟩]⟩⟩
noncomputable def whole_signed.b4 (f4 : Dt38 → Bool → Int → Dt38 → Int → Int → Option (Dt40 × Unit)) (x0 : Dt38) (x4_0 : Bool) (x5 : Int) (x10 : Dt38) (x11 : Int) (x12 : Int) : Option (Dt40 × Unit) :=
  let v1 := decide (x12 < x11)
  bif v1 then (bif decide (0 ≤ x12) && decide (x12 < (List.length x10 : Int)) then (let v2 := List.getD x10 (Int.toNat x12) (0 : Int)
  let v3 := IntKind.i64.wrap (x5 * v2)
  let v4 := IntKind.i64.wrap (x12 + (1 : Int))
  f4 x0 x4_0 v3 x10 x11 v4)
  else none)
  else (let v5 := decide (x5 < (0 : Int))
  bif v5 then (let v6 := (List.length x0 : Int)
  let v7 := decide (v6 > (0 : Int))
  some ((v7, x0), ()))
  else (some ((false, x0), ())))
noncomputable def whole_signed.e (f4 : Dt38 → Bool → Int → Dt38 → Int → Int → Option (Dt40 × Unit)) (a0 : Dt38) (a1 : Dt38) : Option (Dt40 × Unit) :=
  (nat_Norm.F (a0, ())).bind fun y1 =>
  let v2 := (List.length a1 : Int)
  f4 y1.1 false (1 : Int) a1 v2 (0 : Int)
noncomputable def whole_signed.L4 (k : Nat) (x0 : Dt38) (x4_0 : Bool) (x5 : Int) (x10 : Dt38) (x11 : Int) (x12 : Int) : Option (Dt40 × Unit) := heads (whole_signed.spec.env whole_signed.cals T Tryz.f111) (Func.pts Tryz.f111) k 4 (whole_signed.m4 x0 x4_0 x5 x10 x11 x12)
theorem whole_signed.L4_succ (k : Nat) (x0 : Dt38) (x4_0 : Bool) (x5 : Int) (x10 : Dt38) (x11 : Int) (x12 : Int) : whole_signed.L4 (k + 1) x0 x4_0 x5 x10 x11 x12 = whole_signed.b4 (whole_signed.L4 k) x0 x4_0 x5 x10 x11 x12 := by kernel_rfl
theorem whole_signed.eval (k : Nat) (a0 : Dt38) (a1 : Dt38) : evalF whole_signed.spec whole_signed.cals T Tryz.f111 k (a0, a1, ()) = whole_signed.e (whole_signed.L4 k) a0 a1 := by kernel_rfl
theorem whole_signed.F_eq (a0 : Dt38) (a1 : Dt38) : whole_signed.F (a0, a1, ()) = limF whole_signed.spec whole_signed.cals T Tryz.f111 (a0, a1, ()) := by kernel_rfl
theorem whole_signed.of (k : Nat) (a0 : Dt38) (a1 : Dt38) {y : Dt40 × Unit} (h : whole_signed.e (whole_signed.L4 k) a0 a1 = some y) : whole_signed.F (a0, a1, ()) = some y := (whole_signed.F_eq a0 a1).trans (limF_of (q := whole_signed.spec) (C := whole_signed.cals) (T := T) (f := Tryz.f111) (x := (a0, a1, ())) (y := y) k ((whole_signed.eval k a0 a1).trans h))

def whole_Norm.spec : Spec := ⟨[(true, Kt40)], [(true, Kt40)], .own, fun j => match j with  | _ => []⟩
noncomputable def whole_Norm.cals : Cals := (Cals.cons 109 whole_Sign.sig (Cals.cons 111 whole_signed.sig (Cals.base tabs)))
noncomputable def whole_Norm.sig : Sig := whole_Norm.spec.sig whole_Norm.cals T Tryz.f108
noncomputable def whole_Norm.F (x : Dt40 × Unit) : Option (Dt40 × Unit) := limF whole_Norm.spec whole_Norm.cals T Tryz.f108 x
theorem whole_Norm.ck : CalsOk Tryz.prog whole_Norm.cals := (CalsOk.cons whole_Sign.cal (CalsOk.cons whole_signed.cal (CalsOk.base tabsOk)))
theorem whole_Norm.cal : CalOk Tryz.prog tabs 108 whole_Norm.sig := calOk_lim' tabOk whole_Norm.ck mix Tryz.func108 (by kernel_rfl) (by kernel_rfl) (by kernel_rfl) (by kernel_rfl)
noncomputable def whole_Norm.e  (a0 : Dt40) : Option (Dt40 × Unit) :=
  (whole_Sign.F ((a0.1, a0.2), ())).bind fun y1 =>
  let v2 := ([y1.1] : List Int)
  (whole_signed.F (a0.2, v2, ())).bind fun y3 =>
  some ((y3.1.1, y3.1.2), ())
theorem whole_Norm.eval (k : Nat) (a0 : Dt40) : evalF whole_Norm.spec whole_Norm.cals T Tryz.f108 k (a0, ()) = whole_Norm.e  a0 := by kernel_rfl
theorem whole_Norm.F_eq (a0 : Dt40) : whole_Norm.F (a0, ()) = limF whole_Norm.spec whole_Norm.cals T Tryz.f108 (a0, ()) := by kernel_rfl
theorem whole_Norm.of (k : Nat) (a0 : Dt40) {y : Dt40 × Unit} (h : whole_Norm.e  a0 = some y) : whole_Norm.F (a0, ()) = some y := (whole_Norm.F_eq a0).trans (limF_of (q := whole_Norm.spec) (C := whole_Norm.cals) (T := T) (f := Tryz.f108) (x := (a0, ())) (y := y) k ((whole_Norm.eval k a0).trans h))

def ratio_made.spec : Spec := ⟨[(true, Kt40), (false, Kt38)], [(true, Kt42)], .own, fun j => match j with  | _ => []⟩
noncomputable def ratio_made.cals : Cals := (Cals.cons 106 nat_Gcd.sig (Cals.cons 107 nat_Div.sig (Cals.cons 108 whole_Norm.sig (Cals.base tabs))))
noncomputable def ratio_made.sig : Sig := ratio_made.spec.sig ratio_made.cals T Tryz.f99
noncomputable def ratio_made.F (x : Dt40 × Dt38 × Unit) : Option (Dt42 × Unit) := limF ratio_made.spec ratio_made.cals T Tryz.f99 x
theorem ratio_made.ck : CalsOk Tryz.prog ratio_made.cals := (CalsOk.cons nat_Gcd.cal (CalsOk.cons nat_Div.cal (CalsOk.cons whole_Norm.cal (CalsOk.base tabsOk))))
theorem ratio_made.cal : CalOk Tryz.prog tabs 99 ratio_made.sig := calOk_lim' tabOk ratio_made.ck mix Tryz.func99 (by kernel_rfl) (by kernel_rfl) (by kernel_rfl) (by kernel_rfl)
noncomputable def ratio_made.e  (a0 : Dt40) (a1 : Dt38) : Option (Dt42 × Unit) :=
  (nat_Gcd.F (a0.2, a1, ())).bind fun y1 =>
  (nat_Div.F (a0.2, y1.1, ())).bind fun y2 =>
  (nat_Div.F (a1, y1.1, ())).bind fun y3 =>
  (whole_Norm.F ((a0.1, y2.1), ())).bind fun y4 =>
  some (((y4.1.1, y4.1.2), y3.1), ())
theorem ratio_made.eval (k : Nat) (a0 : Dt40) (a1 : Dt38) : evalF ratio_made.spec ratio_made.cals T Tryz.f99 k (a0, a1, ()) = ratio_made.e  a0 a1 := by kernel_rfl
theorem ratio_made.F_eq (a0 : Dt40) (a1 : Dt38) : ratio_made.F (a0, a1, ()) = limF ratio_made.spec ratio_made.cals T Tryz.f99 (a0, a1, ()) := by kernel_rfl
theorem ratio_made.of (k : Nat) (a0 : Dt40) (a1 : Dt38) {y : Dt42 × Unit} (h : ratio_made.e  a0 a1 = some y) : ratio_made.F (a0, a1, ()) = some y := (ratio_made.F_eq a0 a1).trans (limF_of (q := ratio_made.spec) (C := ratio_made.cals) (T := T) (f := Tryz.f99) (x := (a0, a1, ())) (y := y) k ((ratio_made.eval k a0 a1).trans h))

def ratio_Norm.spec : Spec := ⟨[(true, Kt42)], [(true, Kt42)], .own, fun j => match j with  | _ => []⟩
noncomputable def ratio_Norm.cals : Cals := (Cals.cons 98 nat_Bits.sig (Cals.cons 99 ratio_made.sig (Cals.base tabs)))
noncomputable def ratio_Norm.sig : Sig := ratio_Norm.spec.sig ratio_Norm.cals T Tryz.f88
noncomputable def ratio_Norm.F (x : Dt42 × Unit) : Option (Dt42 × Unit) := limF ratio_Norm.spec ratio_Norm.cals T Tryz.f88 x
theorem ratio_Norm.ck : CalsOk Tryz.prog ratio_Norm.cals := (CalsOk.cons nat_Bits.cal (CalsOk.cons ratio_made.cal (CalsOk.base tabsOk)))
theorem ratio_Norm.cal : CalOk Tryz.prog tabs 88 ratio_Norm.sig := calOk_lim' tabOk ratio_Norm.ck mix Tryz.func88 (by kernel_rfl) (by kernel_rfl) (by kernel_rfl) (by kernel_rfl)
noncomputable def ratio_Norm.e  (a0 : Dt42) : Option (Dt42 × Unit) :=
  (nat_Bits.F (a0.2, ())).bind fun y1 =>
  let v2 := (y1.1 == (0 : Int))
  bif v2 then (let v3 := ([(1 : Int)] : List Int)
  some ((zt40, v3), ()))
  else ((ratio_made.F ((a0.1.1, a0.1.2), a0.2, ())).bind fun y4 =>
  some (((y4.1.1.1, y4.1.1.2), y4.1.2), ()))
theorem ratio_Norm.eval (k : Nat) (a0 : Dt42) : evalF ratio_Norm.spec ratio_Norm.cals T Tryz.f88 k (a0, ()) = ratio_Norm.e  a0 := by kernel_rfl
theorem ratio_Norm.F_eq (a0 : Dt42) : ratio_Norm.F (a0, ()) = limF ratio_Norm.spec ratio_Norm.cals T Tryz.f88 (a0, ()) := by kernel_rfl
theorem ratio_Norm.of (k : Nat) (a0 : Dt42) {y : Dt42 × Unit} (h : ratio_Norm.e  a0 = some y) : ratio_Norm.F (a0, ()) = some y := (ratio_Norm.F_eq a0).trans (limF_of (q := ratio_Norm.spec) (C := ratio_Norm.cals) (T := T) (f := Tryz.f88) (x := (a0, ())) (y := y) k ((ratio_Norm.eval k a0).trans h))

def nat_Add.spec : Spec := ⟨[(false, Kt38), (false, Kt38)], [(false, Kt38)], .own, fun j => match j with | 6 => [(0, .lf (.z 114 (.int .u32) false)), (1, .lf (.z 114 (.int .u32) false)), (5, .lf (.o 114 (.int .u32) true)), (6, .lf (.v true)), (21, .lf (.v true)), (22, .lf (.v true))] | _ => []⟩
noncomputable def nat_Add.cals : Cals := (Cals.cons 136 bits_Add32.sig (Cals.cons 115 nat_own.sig (Cals.base tabs)))
noncomputable def nat_Add.sig : Sig := nat_Add.spec.sig nat_Add.cals T Tryz.f132
noncomputable def nat_Add.F (x : Dt38 × Dt38 × Unit) : Option (Dt38 × Unit) := limF nat_Add.spec nat_Add.cals T Tryz.f132 x
theorem nat_Add.ck : CalsOk Tryz.prog nat_Add.cals := (CalsOk.cons bits_Add32.cal (CalsOk.cons nat_own.cal (CalsOk.base tabsOk)))
theorem nat_Add.cal : CalOk Tryz.prog tabs 132 nat_Add.sig := calOk_lim' tabOk nat_Add.ck mix Tryz.func132 (by kernel_rfl) (by kernel_rfl) (by kernel_rfl) (by kernel_rfl)
def nat_Add.m6 (x0 : Dt38) (x1 : Dt38) (x5 : Dt38) (x6 : Int) (x21 : Int) (x22 : Int) : S := ⟨[(0, .one (.lf (.val false Kt38 x0))), (1, .one (.lf (.val false Kt38 x1))), (5, .one (.lf (.own 0))), (6, .one (.lf (.val true (.int .u32) x6))), (21, .one (.lf (.val true (.int .i64) x21))), (22, .one (.lf (.val true (.int .i64) x22)))], ⟨[some ⟨114, (.int .u32), true, true, x5⟩], []⟩⟩
noncomputable def nat_Add.b6 (f6 : Dt38 → Dt38 → Dt38 → Int → Int → Int → Option (Dt38 × Unit)) (x0 : Dt38) (x1 : Dt38) (x5 : Dt38) (x6 : Int) (x21 : Int) (x22 : Int) : Option (Dt38 × Unit) :=
  let v1 := decide (x22 < x21)
  bif v1 then (let v2 := (List.length x1 : Int)
  let v3 := decide (x22 < v2)
  bif v3 then (bif decide (0 ≤ x22) && decide (x22 < (List.length x1 : Int)) then (let v4 := List.getD x1 (Int.toNat x22) (0 : Int)
  bif decide (0 ≤ x22) && decide (x22 < (List.length x0 : Int)) then (let v5 := List.getD x0 (Int.toNat x22) (0 : Int)
  (bits_Add32.F (v5, v4, x6, ())).bind fun y6 =>
  bif decide (0 ≤ x22) && decide (x22 < (List.length x5 : Int)) then (let v7 := List.set x5 (Int.toNat x22) y6.1
  let v8 := IntKind.i64.wrap (x22 + (1 : Int))
  f6 x0 x1 v7 y6.2.1 x21 v8)
  else none)
  else none)
  else none)
  else (bif decide (0 ≤ x22) && decide (x22 < (List.length x0 : Int)) then (let v9 := List.getD x0 (Int.toNat x22) (0 : Int)
  (bits_Add32.F (v9, (0 : Int), x6, ())).bind fun y10 =>
  bif decide (0 ≤ x22) && decide (x22 < (List.length x5 : Int)) then (let v11 := List.set x5 (Int.toNat x22) y10.1
  let v12 := IntKind.i64.wrap (x22 + (1 : Int))
  f6 x0 x1 v11 y10.2.1 x21 v12)
  else none)
  else none))
  else (let v13 := (List.length x0 : Int)
  bif decide (0 ≤ v13) && decide (v13 < (List.length x5 : Int)) then (let v14 := List.set x5 (Int.toNat v13) x6
  (nat_own.F (v14, ())).bind fun y15 =>
  some (y15.1, ()))
  else none)
noncomputable def nat_Add.e (f6 : Dt38 → Dt38 → Dt38 → Int → Int → Int → Option (Dt38 × Unit)) (a0 : Dt38) (a1 : Dt38) : Option (Dt38 × Unit) :=
  let v1 := (List.length a0 : Int)
  let v2 := (List.length a1 : Int)
  let v3 := decide (v1 < v2)
  bif v3 then (let v4 := (List.length a1 : Int)
  let v5 := IntKind.i64.wrap (v4 + (1 : Int))
  bif decide (0 ≤ v5) && (decide (v5 ≤ v5) && (decide (Int.toNat v5 * 4 ≤ 281474976710656) && Nat.blt 0 4)) then (let v6 := List.replicate (Int.toNat v5) (0 : Int)
  let v7 := (List.length a1 : Int)
  f6 a1 a0 v6 (0 : Int) v7 (0 : Int))
  else none)
  else (let v8 := (List.length a0 : Int)
  let v9 := IntKind.i64.wrap (v8 + (1 : Int))
  bif decide (0 ≤ v9) && (decide (v9 ≤ v9) && (decide (Int.toNat v9 * 4 ≤ 281474976710656) && Nat.blt 0 4)) then (let v10 := List.replicate (Int.toNat v9) (0 : Int)
  let v11 := (List.length a0 : Int)
  f6 a0 a1 v10 (0 : Int) v11 (0 : Int))
  else none)
noncomputable def nat_Add.L6 (k : Nat) (x0 : Dt38) (x1 : Dt38) (x5 : Dt38) (x6 : Int) (x21 : Int) (x22 : Int) : Option (Dt38 × Unit) := heads (nat_Add.spec.env nat_Add.cals T Tryz.f132) (Func.pts Tryz.f132) k 6 (nat_Add.m6 x0 x1 x5 x6 x21 x22)
theorem nat_Add.L6_succ (k : Nat) (x0 : Dt38) (x1 : Dt38) (x5 : Dt38) (x6 : Int) (x21 : Int) (x22 : Int) : nat_Add.L6 (k + 1) x0 x1 x5 x6 x21 x22 = nat_Add.b6 (nat_Add.L6 k) x0 x1 x5 x6 x21 x22 := by kernel_rfl
theorem nat_Add.eval (k : Nat) (a0 : Dt38) (a1 : Dt38) : evalF nat_Add.spec nat_Add.cals T Tryz.f132 k (a0, a1, ()) = nat_Add.e (nat_Add.L6 k) a0 a1 := by kernel_rfl
theorem nat_Add.F_eq (a0 : Dt38) (a1 : Dt38) : nat_Add.F (a0, a1, ()) = limF nat_Add.spec nat_Add.cals T Tryz.f132 (a0, a1, ()) := by kernel_rfl
theorem nat_Add.of (k : Nat) (a0 : Dt38) (a1 : Dt38) {y : Dt38 × Unit} (h : nat_Add.e (nat_Add.L6 k) a0 a1 = some y) : nat_Add.F (a0, a1, ()) = some y := (nat_Add.F_eq a0 a1).trans (limF_of (q := nat_Add.spec) (C := nat_Add.cals) (T := T) (f := Tryz.f132) (x := (a0, a1, ())) (y := y) k ((nat_Add.eval k a0 a1).trans h))

def nat_Sub.spec : Spec := ⟨[(false, Kt38), (false, Kt38)], [(false, Kt38), (false, (.int .i64))], .own, fun j => match j with | 7 => [(0, .lf (.z 114 (.int .u32) false)), (1, .lf (.z 114 (.int .u32) false)), (6, .lf (.o 114 (.int .u32) true)), (7, .lf (.v true)), (20, .lf (.v true)), (21, .lf (.v true))] | _ => []⟩
noncomputable def nat_Sub.cals : Cals := (Cals.cons 116 nat_Cmp.sig (Cals.cons 104 nat_trim.sig (Cals.cons 135 bits_Sub32.sig (Cals.cons 115 nat_own.sig (Cals.base tabs)))))
noncomputable def nat_Sub.sig : Sig := nat_Sub.spec.sig nat_Sub.cals T Tryz.f133
noncomputable def nat_Sub.F (x : Dt38 × Dt38 × Unit) : Option (Dt38 × Int × Unit) := limF nat_Sub.spec nat_Sub.cals T Tryz.f133 x
theorem nat_Sub.ck : CalsOk Tryz.prog nat_Sub.cals := (CalsOk.cons nat_Cmp.cal (CalsOk.cons nat_trim.cal (CalsOk.cons bits_Sub32.cal (CalsOk.cons nat_own.cal (CalsOk.base tabsOk)))))
theorem nat_Sub.cal : CalOk Tryz.prog tabs 133 nat_Sub.sig := calOk_lim' tabOk nat_Sub.ck mix Tryz.func133 (by kernel_rfl) (by kernel_rfl) (by kernel_rfl) (by kernel_rfl)
def nat_Sub.m7 (x0 : Dt38) (x1 : Dt38) (x6 : Dt38) (x7 : Int) (x20 : Int) (x21 : Int) : S := ⟨[(0, .one (.lf (.val false Kt38 x0))), (1, .one (.lf (.val false Kt38 x1))), (6, .one (.lf (.own 0))), (7, .one (.lf (.val true (.int .u32) x7))), (20, .one (.lf (.val true (.int .i64) x20))), (21, .one (.lf (.val true (.int .i64) x21)))], ⟨[some ⟨114, (.int .u32), true, true, x6⟩], []⟩⟩
noncomputable def nat_Sub.b7 (f7 : Dt38 → Dt38 → Dt38 → Int → Int → Int → Option (Dt38 × Int × Unit)) (x0 : Dt38) (x1 : Dt38) (x6 : Dt38) (x7 : Int) (x20 : Int) (x21 : Int) : Option (Dt38 × Int × Unit) :=
  let v1 := decide (x21 < x20)
  bif v1 then (let v2 := (List.length x1 : Int)
  let v3 := decide (x21 < v2)
  bif v3 then (bif decide (0 ≤ x21) && decide (x21 < (List.length x1 : Int)) then (let v4 := List.getD x1 (Int.toNat x21) (0 : Int)
  bif decide (0 ≤ x21) && decide (x21 < (List.length x0 : Int)) then (let v5 := List.getD x0 (Int.toNat x21) (0 : Int)
  (bits_Sub32.F (v5, v4, x7, ())).bind fun y6 =>
  bif decide (0 ≤ x21) && decide (x21 < (List.length x6 : Int)) then (let v7 := List.set x6 (Int.toNat x21) y6.1
  let v8 := IntKind.i64.wrap (x21 + (1 : Int))
  f7 x0 x1 v7 y6.2.1 x20 v8)
  else none)
  else none)
  else none)
  else (bif decide (0 ≤ x21) && decide (x21 < (List.length x0 : Int)) then (let v9 := List.getD x0 (Int.toNat x21) (0 : Int)
  (bits_Sub32.F (v9, (0 : Int), x7, ())).bind fun y10 =>
  bif decide (0 ≤ x21) && decide (x21 < (List.length x6 : Int)) then (let v11 := List.set x6 (Int.toNat x21) y10.1
  let v12 := IntKind.i64.wrap (x21 + (1 : Int))
  f7 x0 x1 v11 y10.2.1 x20 v12)
  else none)
  else none))
  else ((nat_own.F (x6, ())).bind fun y13 =>
  some (y13.1, (0 : Int), ()))
noncomputable def nat_Sub.e (f7 : Dt38 → Dt38 → Dt38 → Int → Int → Int → Option (Dt38 × Int × Unit)) (a0 : Dt38) (a1 : Dt38) : Option (Dt38 × Int × Unit) :=
  (nat_Cmp.F (a0, a1, ())).bind fun y1 =>
  let v2 := decide (y1.1 < (0 : Int))
  bif v2 then (some (zt38, (10 : Int), ()))
  else ((nat_trim.F (a1, ())).bind fun y3 =>
  let v4 := (List.length a0 : Int)
  bif decide (0 ≤ v4) && (decide (v4 ≤ v4) && (decide (Int.toNat v4 * 4 ≤ 281474976710656) && Nat.blt 0 4)) then (let v5 := List.replicate (Int.toNat v4) (0 : Int)
  let v6 := (List.length a0 : Int)
  f7 a0 y3.1 v5 (0 : Int) v6 (0 : Int))
  else none)
noncomputable def nat_Sub.L7 (k : Nat) (x0 : Dt38) (x1 : Dt38) (x6 : Dt38) (x7 : Int) (x20 : Int) (x21 : Int) : Option (Dt38 × Int × Unit) := heads (nat_Sub.spec.env nat_Sub.cals T Tryz.f133) (Func.pts Tryz.f133) k 7 (nat_Sub.m7 x0 x1 x6 x7 x20 x21)
theorem nat_Sub.L7_succ (k : Nat) (x0 : Dt38) (x1 : Dt38) (x6 : Dt38) (x7 : Int) (x20 : Int) (x21 : Int) : nat_Sub.L7 (k + 1) x0 x1 x6 x7 x20 x21 = nat_Sub.b7 (nat_Sub.L7 k) x0 x1 x6 x7 x20 x21 := by kernel_rfl
theorem nat_Sub.eval (k : Nat) (a0 : Dt38) (a1 : Dt38) : evalF nat_Sub.spec nat_Sub.cals T Tryz.f133 k (a0, a1, ()) = nat_Sub.e (nat_Sub.L7 k) a0 a1 := by kernel_rfl
theorem nat_Sub.F_eq (a0 : Dt38) (a1 : Dt38) : nat_Sub.F (a0, a1, ()) = limF nat_Sub.spec nat_Sub.cals T Tryz.f133 (a0, a1, ()) := by kernel_rfl
theorem nat_Sub.of (k : Nat) (a0 : Dt38) (a1 : Dt38) {y : Dt38 × Int × Unit} (h : nat_Sub.e (nat_Sub.L7 k) a0 a1 = some y) : nat_Sub.F (a0, a1, ()) = some y := (nat_Sub.F_eq a0 a1).trans (limF_of (q := nat_Sub.spec) (C := nat_Sub.cals) (T := T) (f := Tryz.f133) (x := (a0, a1, ())) (y := y) k ((nat_Sub.eval k a0 a1).trans h))

def whole_Add.spec : Spec := ⟨[(true, Kt40), (true, Kt40)], [(true, Kt40)], .own, fun j => match j with  | _ => []⟩
noncomputable def whole_Add.cals : Cals := (Cals.cons 109 whole_Sign.sig (Cals.cons 132 nat_Add.sig (Cals.cons 111 whole_signed.sig (Cals.cons 116 nat_Cmp.sig (Cals.cons 133 nat_Sub.sig (Cals.base tabs))))))
noncomputable def whole_Add.sig : Sig := whole_Add.spec.sig whole_Add.cals T Tryz.f120
noncomputable def whole_Add.F (x : Dt40 × Dt40 × Unit) : Option (Dt40 × Unit) := limF whole_Add.spec whole_Add.cals T Tryz.f120 x
theorem whole_Add.ck : CalsOk Tryz.prog whole_Add.cals := (CalsOk.cons whole_Sign.cal (CalsOk.cons nat_Add.cal (CalsOk.cons whole_signed.cal (CalsOk.cons nat_Cmp.cal (CalsOk.cons nat_Sub.cal (CalsOk.base tabsOk))))))
theorem whole_Add.cal : CalOk Tryz.prog tabs 120 whole_Add.sig := calOk_lim' tabOk whole_Add.ck mix Tryz.func120 (by kernel_rfl) (by kernel_rfl) (by kernel_rfl) (by kernel_rfl)
noncomputable def whole_Add.e  (a0 : Dt40) (a1 : Dt40) : Option (Dt40 × Unit) :=
  (whole_Sign.F ((a0.1, a0.2), ())).bind fun y1 =>
  (whole_Sign.F ((a1.1, a1.2), ())).bind fun y2 =>
  let v3 := IntKind.i64.wrap (y1.1 * y2.1)
  let v4 := decide (v3 ≥ (0 : Int))
  bif v4 then ((nat_Add.F (a0.2, a1.2, ())).bind fun y5 =>
  let v6 := bitsOp .or .i64 y1.1 y2.1
  let v7 := bitsOp .or .i64 v6 (1 : Int)
  let v8 := ([v7] : List Int)
  (whole_signed.F (y5.1, v8, ())).bind fun y9 =>
  some ((y9.1.1, y9.1.2), ()))
  else ((nat_Cmp.F (a0.2, a1.2, ())).bind fun y10 =>
  let v11 := decide (y10.1 ≥ (0 : Int))
  bif v11 then ((nat_Sub.F (a0.2, a1.2, ())).bind fun y12 =>
  let v13 := ([y1.1] : List Int)
  (whole_signed.F (y12.1, v13, ())).bind fun y14 =>
  some ((y14.1.1, y14.1.2), ()))
  else ((nat_Sub.F (a1.2, a0.2, ())).bind fun y15 =>
  let v16 := ([y2.1] : List Int)
  (whole_signed.F (y15.1, v16, ())).bind fun y17 =>
  some ((y17.1.1, y17.1.2), ())))
theorem whole_Add.eval (k : Nat) (a0 : Dt40) (a1 : Dt40) : evalF whole_Add.spec whole_Add.cals T Tryz.f120 k (a0, a1, ()) = whole_Add.e  a0 a1 := by kernel_rfl
theorem whole_Add.F_eq (a0 : Dt40) (a1 : Dt40) : whole_Add.F (a0, a1, ()) = limF whole_Add.spec whole_Add.cals T Tryz.f120 (a0, a1, ()) := by kernel_rfl
theorem whole_Add.of (k : Nat) (a0 : Dt40) (a1 : Dt40) {y : Dt40 × Unit} (h : whole_Add.e  a0 a1 = some y) : whole_Add.F (a0, a1, ()) = some y := (whole_Add.F_eq a0 a1).trans (limF_of (q := whole_Add.spec) (C := whole_Add.cals) (T := T) (f := Tryz.f120) (x := (a0, a1, ())) (y := y) k ((whole_Add.eval k a0 a1).trans h))

def whole_Neg.spec : Spec := ⟨[(true, Kt40)], [(true, Kt40)], .own, fun j => match j with  | _ => []⟩
noncomputable def whole_Neg.cals : Cals := (Cals.cons 109 whole_Sign.sig (Cals.cons 111 whole_signed.sig (Cals.base tabs)))
noncomputable def whole_Neg.sig : Sig := whole_Neg.spec.sig whole_Neg.cals T Tryz.f121
noncomputable def whole_Neg.F (x : Dt40 × Unit) : Option (Dt40 × Unit) := limF whole_Neg.spec whole_Neg.cals T Tryz.f121 x
theorem whole_Neg.ck : CalsOk Tryz.prog whole_Neg.cals := (CalsOk.cons whole_Sign.cal (CalsOk.cons whole_signed.cal (CalsOk.base tabsOk)))
theorem whole_Neg.cal : CalOk Tryz.prog tabs 121 whole_Neg.sig := calOk_lim' tabOk whole_Neg.ck mix Tryz.func121 (by kernel_rfl) (by kernel_rfl) (by kernel_rfl) (by kernel_rfl)
noncomputable def whole_Neg.e  (a0 : Dt40) : Option (Dt40 × Unit) :=
  (whole_Sign.F ((a0.1, a0.2), ())).bind fun y1 =>
  let v2 := ([(-1 : Int), y1.1] : List Int)
  (whole_signed.F (a0.2, v2, ())).bind fun y3 =>
  some ((y3.1.1, y3.1.2), ())
theorem whole_Neg.eval (k : Nat) (a0 : Dt40) : evalF whole_Neg.spec whole_Neg.cals T Tryz.f121 k (a0, ()) = whole_Neg.e  a0 := by kernel_rfl
theorem whole_Neg.F_eq (a0 : Dt40) : whole_Neg.F (a0, ()) = limF whole_Neg.spec whole_Neg.cals T Tryz.f121 (a0, ()) := by kernel_rfl
theorem whole_Neg.of (k : Nat) (a0 : Dt40) {y : Dt40 × Unit} (h : whole_Neg.e  a0 = some y) : whole_Neg.F (a0, ()) = some y := (whole_Neg.F_eq a0).trans (limF_of (q := whole_Neg.spec) (C := whole_Neg.cals) (T := T) (f := Tryz.f121) (x := (a0, ())) (y := y) k ((whole_Neg.eval k a0).trans h))

def whole_Sub.spec : Spec := ⟨[(true, Kt40), (true, Kt40)], [(true, Kt40)], .own, fun j => match j with  | _ => []⟩
noncomputable def whole_Sub.cals : Cals := (Cals.cons 121 whole_Neg.sig (Cals.cons 120 whole_Add.sig (Cals.base tabs)))
noncomputable def whole_Sub.sig : Sig := whole_Sub.spec.sig whole_Sub.cals T Tryz.f110
noncomputable def whole_Sub.F (x : Dt40 × Dt40 × Unit) : Option (Dt40 × Unit) := limF whole_Sub.spec whole_Sub.cals T Tryz.f110 x
theorem whole_Sub.ck : CalsOk Tryz.prog whole_Sub.cals := (CalsOk.cons whole_Neg.cal (CalsOk.cons whole_Add.cal (CalsOk.base tabsOk)))
theorem whole_Sub.cal : CalOk Tryz.prog tabs 110 whole_Sub.sig := calOk_lim' tabOk whole_Sub.ck mix Tryz.func110 (by kernel_rfl) (by kernel_rfl) (by kernel_rfl) (by kernel_rfl)
noncomputable def whole_Sub.e  (a0 : Dt40) (a1 : Dt40) : Option (Dt40 × Unit) :=
  (whole_Neg.F ((a1.1, a1.2), ())).bind fun y1 =>
  (whole_Add.F ((a0.1, a0.2), (y1.1.1, y1.1.2), ())).bind fun y2 =>
  some ((y2.1.1, y2.1.2), ())
theorem whole_Sub.eval (k : Nat) (a0 : Dt40) (a1 : Dt40) : evalF whole_Sub.spec whole_Sub.cals T Tryz.f110 k (a0, a1, ()) = whole_Sub.e  a0 a1 := by kernel_rfl
theorem whole_Sub.F_eq (a0 : Dt40) (a1 : Dt40) : whole_Sub.F (a0, a1, ()) = limF whole_Sub.spec whole_Sub.cals T Tryz.f110 (a0, a1, ()) := by kernel_rfl
theorem whole_Sub.of (k : Nat) (a0 : Dt40) (a1 : Dt40) {y : Dt40 × Unit} (h : whole_Sub.e  a0 a1 = some y) : whole_Sub.F (a0, a1, ()) = some y := (whole_Sub.F_eq a0 a1).trans (limF_of (q := whole_Sub.spec) (C := whole_Sub.cals) (T := T) (f := Tryz.f110) (x := (a0, a1, ())) (y := y) k ((whole_Sub.eval k a0 a1).trans h))

def whole_Cmp.spec : Spec := ⟨[(true, Kt40), (true, Kt40)], [(false, (.int .i64))], .own, fun j => match j with  | _ => []⟩
noncomputable def whole_Cmp.cals : Cals := (Cals.cons 110 whole_Sub.sig (Cals.cons 109 whole_Sign.sig (Cals.base tabs)))
noncomputable def whole_Cmp.sig : Sig := whole_Cmp.spec.sig whole_Cmp.cals T Tryz.f100
noncomputable def whole_Cmp.F (x : Dt40 × Dt40 × Unit) : Option (Int × Unit) := limF whole_Cmp.spec whole_Cmp.cals T Tryz.f100 x
theorem whole_Cmp.ck : CalsOk Tryz.prog whole_Cmp.cals := (CalsOk.cons whole_Sub.cal (CalsOk.cons whole_Sign.cal (CalsOk.base tabsOk)))
theorem whole_Cmp.cal : CalOk Tryz.prog tabs 100 whole_Cmp.sig := calOk_lim' tabOk whole_Cmp.ck mix Tryz.func100 (by kernel_rfl) (by kernel_rfl) (by kernel_rfl) (by kernel_rfl)
noncomputable def whole_Cmp.e  (a0 : Dt40) (a1 : Dt40) : Option (Int × Unit) :=
  (whole_Sub.F ((a0.1, a0.2), (a1.1, a1.2), ())).bind fun y1 =>
  (whole_Sign.F ((y1.1.1, y1.1.2), ())).bind fun y2 =>
  some (y2.1, ())
theorem whole_Cmp.eval (k : Nat) (a0 : Dt40) (a1 : Dt40) : evalF whole_Cmp.spec whole_Cmp.cals T Tryz.f100 k (a0, a1, ()) = whole_Cmp.e  a0 a1 := by kernel_rfl
theorem whole_Cmp.F_eq (a0 : Dt40) (a1 : Dt40) : whole_Cmp.F (a0, a1, ()) = limF whole_Cmp.spec whole_Cmp.cals T Tryz.f100 (a0, a1, ()) := by kernel_rfl
theorem whole_Cmp.of (k : Nat) (a0 : Dt40) (a1 : Dt40) {y : Int × Unit} (h : whole_Cmp.e  a0 a1 = some y) : whole_Cmp.F (a0, a1, ()) = some y := (whole_Cmp.F_eq a0 a1).trans (limF_of (q := whole_Cmp.spec) (C := whole_Cmp.cals) (T := T) (f := Tryz.f100) (x := (a0, a1, ())) (y := y) k ((whole_Cmp.eval k a0 a1).trans h))

def nat_Mul.spec : Spec := ⟨[(false, Kt38), (false, Kt38)], [(false, Kt38)], .own, fun j => match j with | 4 => [(0, .lf (.z 114 (.int .u32) false)), (1, .lf (.z 114 (.int .u32) false)), (5, .lf (.o 114 (.int .u32) true)), (21, .lf (.v true)), (22, .lf (.v true))] | 8 => [(0, .lf (.z 114 (.int .u32) false)), (1, .lf (.z 114 (.int .u32) false)), (5, .lf (.o 114 (.int .u32) true)), (6, .lf (.v true)), (7, .lf (.v true)), (21, .lf (.v true)), (22, .lf (.v true)), (26, .lf (.v true)), (27, .lf (.v true))] | _ => []⟩
noncomputable def nat_Mul.cals : Cals := (Cals.cons 104 nat_trim.sig (Cals.cons 115 nat_own.sig (Cals.base tabs)))
noncomputable def nat_Mul.sig : Sig := nat_Mul.spec.sig nat_Mul.cals T Tryz.f112
noncomputable def nat_Mul.F (x : Dt38 × Dt38 × Unit) : Option (Dt38 × Unit) := limF nat_Mul.spec nat_Mul.cals T Tryz.f112 x
theorem nat_Mul.ck : CalsOk Tryz.prog nat_Mul.cals := (CalsOk.cons nat_trim.cal (CalsOk.cons nat_own.cal (CalsOk.base tabsOk)))
theorem nat_Mul.cal : CalOk Tryz.prog tabs 112 nat_Mul.sig := calOk_lim' tabOk nat_Mul.ck mix Tryz.func112 (by kernel_rfl) (by kernel_rfl) (by kernel_rfl) (by kernel_rfl)
def nat_Mul.m4 (x0 : Dt38) (x1 : Dt38) (x5 : Dt38) (x21 : Int) (x22 : Int) : S := ⟨[(0, .one (.lf (.val false Kt38 x0))), (1, .one (.lf (.val false Kt38 x1))), (5, .one (.lf (.own 0))), (21, .one (.lf (.val true (.int .i64) x21))), (22, .one (.lf (.val true (.int .i64) x22)))], ⟨[some ⟨114, (.int .u32), true, true, x5⟩], []⟩⟩
def nat_Mul.m8 (x0 : Dt38) (x1 : Dt38) (x5 : Dt38) (x6 : Int) (x7 : Int) (x21 : Int) (x22 : Int) (x26 : Int) (x27 : Int) : S := ⟨[(0, .one (.lf (.val false Kt38 x0))), (1, .one (.lf (.val false Kt38 x1))), (5, .one (.lf (.own 0))), (6, .one (.lf (.val true (.int .i64) x6))), (7, .one (.lf (.val true (.int .u64) x7))), (21, .one (.lf (.val true (.int .i64) x21))), (22, .one (.lf (.val true (.int .i64) x22))), (26, .one (.lf (.val true (.int .i64) x26))), (27, .one (.lf (.val true (.int .i64) x27)))], ⟨[some ⟨114, (.int .u32), true, true, x5⟩], []⟩⟩
noncomputable def nat_Mul.b4 (f4 : Dt38 → Dt38 → Dt38 → Int → Int → Option (Dt38 × Unit)) (f8 : Dt38 → Dt38 → Dt38 → Int → Int → Int → Int → Int → Int → Option (Dt38 × Unit)) (x0 : Dt38) (x1 : Dt38) (x5 : Dt38) (x21 : Int) (x22 : Int) : Option (Dt38 × Unit) :=
  let v1 := decide (x22 < x21)
  bif v1 then (let v2 := (List.length x1 : Int)
  f8 x0 x1 x5 x22 (0 : Int) x21 x22 v2 (0 : Int))
  else ((nat_own.F (x5, ())).bind fun y3 =>
  some (y3.1, ()))
noncomputable def nat_Mul.b8 (f4 : Dt38 → Dt38 → Dt38 → Int → Int → Option (Dt38 × Unit)) (f8 : Dt38 → Dt38 → Dt38 → Int → Int → Int → Int → Int → Int → Option (Dt38 × Unit)) (x0 : Dt38) (x1 : Dt38) (x5 : Dt38) (x6 : Int) (x7 : Int) (x21 : Int) (x22 : Int) (x26 : Int) (x27 : Int) : Option (Dt38 × Unit) :=
  let v1 := decide (x27 < x26)
  bif v1 then (bif decide (0 ≤ x6) && decide (x6 < (List.length x0 : Int)) then (let v2 := List.getD x0 (Int.toNat x6) (0 : Int)
  let v3 := IntKind.u64.wrap v2
  bif decide (0 ≤ x27) && decide (x27 < (List.length x1 : Int)) then (let v4 := List.getD x1 (Int.toNat x27) (0 : Int)
  let v5 := IntKind.u64.wrap v4
  let v6 := IntKind.u64.wrap (v3 * v5)
  let v7 := IntKind.i64.wrap (x6 + x27)
  bif decide (0 ≤ v7) && decide (v7 < (List.length x5 : Int)) then (let v8 := List.getD x5 (Int.toNat v7) (0 : Int)
  let v9 := IntKind.u64.wrap v8
  let v10 := IntKind.u64.wrap (v6 + v9)
  let v11 := IntKind.u64.wrap (v10 + x7)
  let v12 := IntKind.i64.wrap (x6 + x27)
  let v13 := IntKind.u32.wrap v11
  bif decide (0 ≤ v12) && decide (v12 < (List.length x5 : Int)) then (let v14 := List.set x5 (Int.toNat v12) v13
  bif decide ((32 : Int) < 0) then none
  else (let v15 := shrI .u64 v11 (32 : Int)
  let v16 := IntKind.i64.wrap (x27 + (1 : Int))
  f8 x0 x1 v14 x6 v15 x21 x22 x26 v16))
  else none)
  else none)
  else none)
  else none)
  else (let v17 := (List.length x1 : Int)
  let v18 := IntKind.i64.wrap (x6 + v17)
  let v19 := IntKind.u32.wrap x7
  bif decide (0 ≤ v18) && decide (v18 < (List.length x5 : Int)) then (let v20 := List.set x5 (Int.toNat v18) v19
  let v21 := IntKind.i64.wrap (x22 + (1 : Int))
  f4 x0 x1 v20 x21 v21)
  else none)
noncomputable def nat_Mul.e (f4 : Dt38 → Dt38 → Dt38 → Int → Int → Option (Dt38 × Unit)) (f8 : Dt38 → Dt38 → Dt38 → Int → Int → Int → Int → Int → Int → Option (Dt38 × Unit)) (a0 : Dt38) (a1 : Dt38) : Option (Dt38 × Unit) :=
  (nat_trim.F (a0, ())).bind fun y1 =>
  (nat_trim.F (a1, ())).bind fun y2 =>
  let v3 := (List.length y1.1 : Int)
  let v4 := (List.length y2.1 : Int)
  let v5 := IntKind.i64.wrap (v3 + v4)
  bif decide (0 ≤ v5) && (decide (v5 ≤ v5) && (decide (Int.toNat v5 * 4 ≤ 281474976710656) && Nat.blt 0 4)) then (let v6 := List.replicate (Int.toNat v5) (0 : Int)
  let v7 := (List.length y1.1 : Int)
  f4 y1.1 y2.1 v6 v7 (0 : Int))
  else none
noncomputable def nat_Mul.L4 (k : Nat) (x0 : Dt38) (x1 : Dt38) (x5 : Dt38) (x21 : Int) (x22 : Int) : Option (Dt38 × Unit) := heads (nat_Mul.spec.env nat_Mul.cals T Tryz.f112) (Func.pts Tryz.f112) k 4 (nat_Mul.m4 x0 x1 x5 x21 x22)
noncomputable def nat_Mul.L8 (k : Nat) (x0 : Dt38) (x1 : Dt38) (x5 : Dt38) (x6 : Int) (x7 : Int) (x21 : Int) (x22 : Int) (x26 : Int) (x27 : Int) : Option (Dt38 × Unit) := heads (nat_Mul.spec.env nat_Mul.cals T Tryz.f112) (Func.pts Tryz.f112) k 8 (nat_Mul.m8 x0 x1 x5 x6 x7 x21 x22 x26 x27)
theorem nat_Mul.L4_succ (k : Nat) (x0 : Dt38) (x1 : Dt38) (x5 : Dt38) (x21 : Int) (x22 : Int) : nat_Mul.L4 (k + 1) x0 x1 x5 x21 x22 = nat_Mul.b4 (nat_Mul.L4 k) (nat_Mul.L8 k) x0 x1 x5 x21 x22 := by kernel_rfl
theorem nat_Mul.L8_succ (k : Nat) (x0 : Dt38) (x1 : Dt38) (x5 : Dt38) (x6 : Int) (x7 : Int) (x21 : Int) (x22 : Int) (x26 : Int) (x27 : Int) : nat_Mul.L8 (k + 1) x0 x1 x5 x6 x7 x21 x22 x26 x27 = nat_Mul.b8 (nat_Mul.L4 k) (nat_Mul.L8 k) x0 x1 x5 x6 x7 x21 x22 x26 x27 := by kernel_rfl
theorem nat_Mul.eval (k : Nat) (a0 : Dt38) (a1 : Dt38) : evalF nat_Mul.spec nat_Mul.cals T Tryz.f112 k (a0, a1, ()) = nat_Mul.e (nat_Mul.L4 k) (nat_Mul.L8 k) a0 a1 := by kernel_rfl
theorem nat_Mul.F_eq (a0 : Dt38) (a1 : Dt38) : nat_Mul.F (a0, a1, ()) = limF nat_Mul.spec nat_Mul.cals T Tryz.f112 (a0, a1, ()) := by kernel_rfl
theorem nat_Mul.of (k : Nat) (a0 : Dt38) (a1 : Dt38) {y : Dt38 × Unit} (h : nat_Mul.e (nat_Mul.L4 k) (nat_Mul.L8 k) a0 a1 = some y) : nat_Mul.F (a0, a1, ()) = some y := (nat_Mul.F_eq a0 a1).trans (limF_of (q := nat_Mul.spec) (C := nat_Mul.cals) (T := T) (f := Tryz.f112) (x := (a0, a1, ())) (y := y) k ((nat_Mul.eval k a0 a1).trans h))

def whole_Mul.spec : Spec := ⟨[(true, Kt40), (true, Kt40)], [(true, Kt40)], .own, fun j => match j with  | _ => []⟩
noncomputable def whole_Mul.cals : Cals := (Cals.cons 112 nat_Mul.sig (Cals.cons 109 whole_Sign.sig (Cals.cons 111 whole_signed.sig (Cals.base tabs))))
noncomputable def whole_Mul.sig : Sig := whole_Mul.spec.sig whole_Mul.cals T Tryz.f101
noncomputable def whole_Mul.F (x : Dt40 × Dt40 × Unit) : Option (Dt40 × Unit) := limF whole_Mul.spec whole_Mul.cals T Tryz.f101 x
theorem whole_Mul.ck : CalsOk Tryz.prog whole_Mul.cals := (CalsOk.cons nat_Mul.cal (CalsOk.cons whole_Sign.cal (CalsOk.cons whole_signed.cal (CalsOk.base tabsOk))))
theorem whole_Mul.cal : CalOk Tryz.prog tabs 101 whole_Mul.sig := calOk_lim' tabOk whole_Mul.ck mix Tryz.func101 (by kernel_rfl) (by kernel_rfl) (by kernel_rfl) (by kernel_rfl)
noncomputable def whole_Mul.e  (a0 : Dt40) (a1 : Dt40) : Option (Dt40 × Unit) :=
  (nat_Mul.F (a0.2, a1.2, ())).bind fun y1 =>
  (whole_Sign.F ((a0.1, a0.2), ())).bind fun y2 =>
  (whole_Sign.F ((a1.1, a1.2), ())).bind fun y3 =>
  let v4 := ([y2.1, y3.1] : List Int)
  (whole_signed.F (y1.1, v4, ())).bind fun y5 =>
  some ((y5.1.1, y5.1.2), ())
theorem whole_Mul.eval (k : Nat) (a0 : Dt40) (a1 : Dt40) : evalF whole_Mul.spec whole_Mul.cals T Tryz.f101 k (a0, a1, ()) = whole_Mul.e  a0 a1 := by kernel_rfl
theorem whole_Mul.F_eq (a0 : Dt40) (a1 : Dt40) : whole_Mul.F (a0, a1, ()) = limF whole_Mul.spec whole_Mul.cals T Tryz.f101 (a0, a1, ()) := by kernel_rfl
theorem whole_Mul.of (k : Nat) (a0 : Dt40) (a1 : Dt40) {y : Dt40 × Unit} (h : whole_Mul.e  a0 a1 = some y) : whole_Mul.F (a0, a1, ()) = some y := (whole_Mul.F_eq a0 a1).trans (limF_of (q := whole_Mul.spec) (C := whole_Mul.cals) (T := T) (f := Tryz.f101) (x := (a0, a1, ())) (y := y) k ((whole_Mul.eval k a0 a1).trans h))

def ratio_Cmp.spec : Spec := ⟨[(true, Kt42), (true, Kt42)], [(false, (.int .i64))], .own, fun j => match j with  | _ => []⟩
noncomputable def ratio_Cmp.cals : Cals := (Cals.cons 88 ratio_Norm.sig (Cals.cons 101 whole_Mul.sig (Cals.cons 100 whole_Cmp.sig (Cals.base tabs))))
noncomputable def ratio_Cmp.sig : Sig := ratio_Cmp.spec.sig ratio_Cmp.cals T Tryz.f89
noncomputable def ratio_Cmp.F (x : Dt42 × Dt42 × Unit) : Option (Int × Unit) := limF ratio_Cmp.spec ratio_Cmp.cals T Tryz.f89 x
theorem ratio_Cmp.ck : CalsOk Tryz.prog ratio_Cmp.cals := (CalsOk.cons ratio_Norm.cal (CalsOk.cons whole_Mul.cal (CalsOk.cons whole_Cmp.cal (CalsOk.base tabsOk))))
theorem ratio_Cmp.cal : CalOk Tryz.prog tabs 89 ratio_Cmp.sig := calOk_lim' tabOk ratio_Cmp.ck mix Tryz.func89 (by kernel_rfl) (by kernel_rfl) (by kernel_rfl) (by kernel_rfl)
noncomputable def ratio_Cmp.e  (a0 : Dt42) (a1 : Dt42) : Option (Int × Unit) :=
  (ratio_Norm.F (((a0.1.1, a0.1.2), a0.2), ())).bind fun y1 =>
  (ratio_Norm.F (((a1.1.1, a1.1.2), a1.2), ())).bind fun y2 =>
  (whole_Mul.F ((y1.1.1.1, y1.1.1.2), (false, y2.1.2), ())).bind fun y3 =>
  (whole_Mul.F ((y2.1.1.1, y2.1.1.2), (false, y1.1.2), ())).bind fun y4 =>
  (whole_Cmp.F ((y3.1.1, y3.1.2), (y4.1.1, y4.1.2), ())).bind fun y5 =>
  some (y5.1, ())
theorem ratio_Cmp.eval (k : Nat) (a0 : Dt42) (a1 : Dt42) : evalF ratio_Cmp.spec ratio_Cmp.cals T Tryz.f89 k (a0, a1, ()) = ratio_Cmp.e  a0 a1 := by kernel_rfl
theorem ratio_Cmp.F_eq (a0 : Dt42) (a1 : Dt42) : ratio_Cmp.F (a0, a1, ()) = limF ratio_Cmp.spec ratio_Cmp.cals T Tryz.f89 (a0, a1, ()) := by kernel_rfl
theorem ratio_Cmp.of (k : Nat) (a0 : Dt42) (a1 : Dt42) {y : Int × Unit} (h : ratio_Cmp.e  a0 a1 = some y) : ratio_Cmp.F (a0, a1, ()) = some y := (ratio_Cmp.F_eq a0 a1).trans (limF_of (q := ratio_Cmp.spec) (C := ratio_Cmp.cals) (T := T) (f := Tryz.f89) (x := (a0, a1, ())) (y := y) k ((ratio_Cmp.eval k a0 a1).trans h))

def delta_Cmp.spec : Spec := ⟨[(true, Kt44), (true, Kt44)], [(false, (.int .i64))], .own, fun j => match j with  | _ => []⟩
noncomputable def delta_Cmp.cals : Cals := (Cals.cons 89 ratio_Cmp.sig (Cals.base tabs))
noncomputable def delta_Cmp.sig : Sig := delta_Cmp.spec.sig delta_Cmp.cals T Tryz.f68
noncomputable def delta_Cmp.F (x : Dt44 × Dt44 × Unit) : Option (Int × Unit) := limF delta_Cmp.spec delta_Cmp.cals T Tryz.f68 x
theorem delta_Cmp.ck : CalsOk Tryz.prog delta_Cmp.cals := (CalsOk.cons ratio_Cmp.cal (CalsOk.base tabsOk))
theorem delta_Cmp.cal : CalOk Tryz.prog tabs 68 delta_Cmp.sig := calOk_lim' tabOk delta_Cmp.ck mix Tryz.func68 (by kernel_rfl) (by kernel_rfl) (by kernel_rfl) (by kernel_rfl)
noncomputable def delta_Cmp.e  (a0 : Dt44) (a1 : Dt44) : Option (Int × Unit) :=
  (ratio_Cmp.F (((a0.1.1.1, a0.1.1.2), a0.1.2), ((a1.1.1.1, a1.1.1.2), a1.1.2), ())).bind fun y1 =>
  let v2 := (y1.1 != (0 : Int))
  bif v2 then (some (y1.1, ()))
  else ((ratio_Cmp.F (((a0.2.1.1, a0.2.1.2), a0.2.2), ((a1.2.1.1, a1.2.1.2), a1.2.2), ())).bind fun y3 =>
  some (y3.1, ()))
theorem delta_Cmp.eval (k : Nat) (a0 : Dt44) (a1 : Dt44) : evalF delta_Cmp.spec delta_Cmp.cals T Tryz.f68 k (a0, a1, ()) = delta_Cmp.e  a0 a1 := by kernel_rfl
theorem delta_Cmp.F_eq (a0 : Dt44) (a1 : Dt44) : delta_Cmp.F (a0, a1, ()) = limF delta_Cmp.spec delta_Cmp.cals T Tryz.f68 (a0, a1, ()) := by kernel_rfl
theorem delta_Cmp.of (k : Nat) (a0 : Dt44) (a1 : Dt44) {y : Int × Unit} (h : delta_Cmp.e  a0 a1 = some y) : delta_Cmp.F (a0, a1, ()) = some y := (delta_Cmp.F_eq a0 a1).trans (limF_of (q := delta_Cmp.spec) (C := delta_Cmp.cals) (T := T) (f := Tryz.f68) (x := (a0, a1, ())) (y := y) k ((delta_Cmp.eval k a0 a1).trans h))

def bounds_below.spec : Spec := ⟨[(true, Kt66), (true, Kt44)], [(false, .bool)], .own, fun j => match j with  | _ => []⟩
noncomputable def bounds_below.cals : Cals := (Cals.cons 68 delta_Cmp.sig (Cals.base tabs))
noncomputable def bounds_below.sig : Sig := bounds_below.spec.sig bounds_below.cals T Tryz.f49
noncomputable def bounds_below.F (x : Dt66 × Dt44 × Unit) : Option (Bool × Unit) := limF bounds_below.spec bounds_below.cals T Tryz.f49 x
theorem bounds_below.ck : CalsOk Tryz.prog bounds_below.cals := (CalsOk.cons delta_Cmp.cal (CalsOk.base tabsOk))
theorem bounds_below.cal : CalOk Tryz.prog tabs 49 bounds_below.sig := calOk_lim' tabOk bounds_below.ck mix Tryz.func49 (by kernel_rfl) (by kernel_rfl) (by kernel_rfl) (by kernel_rfl)
noncomputable def bounds_below.e  (a0 : Dt66) (a1 : Dt44) : Option (Bool × Unit) :=
  bif a0.1 then ((delta_Cmp.F ((((a0.2.1.1.1.1, a0.2.1.1.1.2), a0.2.1.1.2), ((a0.2.1.2.1.1, a0.2.1.2.1.2), a0.2.1.2.2)), (((a1.1.1.1, a1.1.1.2), a1.1.2), ((a1.2.1.1, a1.2.1.2), a1.2.2)), ())).bind fun y1 =>
  let v2 := decide (y1.1 < (0 : Int))
  some (v2, ()))
  else (some (false, ()))
theorem bounds_below.eval (k : Nat) (a0 : Dt66) (a1 : Dt44) : evalF bounds_below.spec bounds_below.cals T Tryz.f49 k (a0, a1, ()) = bounds_below.e  a0 a1 := by kernel_rfl
theorem bounds_below.F_eq (a0 : Dt66) (a1 : Dt44) : bounds_below.F (a0, a1, ()) = limF bounds_below.spec bounds_below.cals T Tryz.f49 (a0, a1, ()) := by kernel_rfl
theorem bounds_below.of (k : Nat) (a0 : Dt66) (a1 : Dt44) {y : Bool × Unit} (h : bounds_below.e  a0 a1 = some y) : bounds_below.F (a0, a1, ()) = some y := (bounds_below.F_eq a0 a1).trans (limF_of (q := bounds_below.spec) (C := bounds_below.cals) (T := T) (f := Tryz.f49) (x := (a0, a1, ())) (y := y) k ((bounds_below.eval k a0 a1).trans h))

def bounds_Store_is.spec : XSpec := ⟨some ⟨81, 0, Kt81, 0⟩, false, [], false, none, [(false, .bool)], false, fun j => match j with  | _ => []⟩
noncomputable def bounds_Store_is.cals : Cals := (Cals.base tabs)
noncomputable def bounds_Store_is.sig : XSig := bounds_Store_is.spec.sig bounds_Store_is.cals T Tryz.f36
noncomputable def bounds_Store_is.F (d : Dt81) (x : Unit) : Option (Unit × (Bool × Unit) × Dt81) := limX bounds_Store_is.spec bounds_Store_is.cals T Tryz.f36 d x
theorem bounds_Store_is.ck : CalsOk Tryz.prog bounds_Store_is.cals := (CalsOk.base tabsOk)
theorem bounds_Store_is.cal : XOk Tryz.prog tabs 36 bounds_Store_is.sig := xok_of tabOk bounds_Store_is.ck mix Tryz.func36 (by kernel_rfl) (by kernel_rfl) (by kernel_rfl) (by kernel_rfl)
noncomputable def bounds_Store_is.e  (G : Gh) (d : Dt81)  : Option ((Unit × (Bool × Unit) × Dt81) × Nat × List Value) :=
  some (((), (d.2.1, ()), ((d.1.1, d.1.2), (d.2.1, d.2.2))), G.b, [])
theorem bounds_Store_is.eval (k : Nat) (G : Gh) (d : Dt81)  : evalX bounds_Store_is.spec bounds_Store_is.cals T Tryz.f36 k G d () = bounds_Store_is.e  G d  := by kernel_rfl
theorem bounds_Store_is.of (d : Dt81)  (y : (Unit × (Bool × Unit) × Dt81)) (h : ∀ G : Gh, ∃ k : Nat, bounds_Store_is.e  G d  = some (y, (G.b, []))) : bounds_Store_is.F d () = some y := limX_of (q := bounds_Store_is.spec) (C := bounds_Store_is.cals) (T := T) (f := Tryz.f36) (d := d) (x := ()) y fun G => (h G).imp fun k hk => (bounds_Store_is.eval k G d ).trans hk

def bounds_Store_wrong.spec : XSpec := ⟨some ⟨81, 0, Kt81, 0⟩, false, [(false, (.int .i64))], false, none, [(false, (.int .i64))], false, fun j => match j with  | _ => []⟩
noncomputable def bounds_Store_wrong.cals : Cals := (Cals.consX 36 false bounds_Store_is.sig (Cals.base tabs))
noncomputable def bounds_Store_wrong.sig : XSig := bounds_Store_wrong.spec.sig bounds_Store_wrong.cals T Tryz.f55
noncomputable def bounds_Store_wrong.F (d : Dt81) (x : Int × Unit) : Option (Unit × (Int × Unit) × Dt81) := limX bounds_Store_wrong.spec bounds_Store_wrong.cals T Tryz.f55 d x
theorem bounds_Store_wrong.ck : CalsOk Tryz.prog bounds_Store_wrong.cals := (CalsOk.consX bounds_Store_is.cal (CalsOk.base tabsOk))
theorem bounds_Store_wrong.cal : XOk Tryz.prog tabs 55 bounds_Store_wrong.sig := xok_of tabOk bounds_Store_wrong.ck mix Tryz.func55 (by kernel_rfl) (by kernel_rfl) (by kernel_rfl) (by kernel_rfl)
noncomputable def bounds_Store_wrong.e  (G : Gh) (d : Dt81) (a0 : Int) : Option ((Unit × (Int × Unit) × Dt81) × Nat × List Value) :=
  (bounds_Store_is.F ((d.1.1, d.1.2), (d.2.1, d.2.2)) ()).bind fun y1 =>
  let v2 := not y1.2.1.1
  bif v2 then (some (((), ((1 : Int), ()), ((y1.2.2.1.1, y1.2.2.1.2), (y1.2.2.2.1, y1.2.2.2.2))), G.b, []))
  else (let v3 := decide (a0 < (0 : Int))
  bif v3 then (some (((), ((61 : Int), ()), ((y1.2.2.1.1, y1.2.2.1.2), (y1.2.2.2.1, y1.2.2.2.2))), G.b, []))
  else (let v4 := (List.length y1.2.2.2.2 : Int)
  let v5 := decide (a0 ≥ v4)
  bif v5 then (some (((), ((61 : Int), ()), ((y1.2.2.1.1, y1.2.2.1.2), (y1.2.2.2.1, y1.2.2.2.2))), G.b, []))
  else (some (((), ((0 : Int), ()), ((y1.2.2.1.1, y1.2.2.1.2), (y1.2.2.2.1, y1.2.2.2.2))), G.b, []))))
theorem bounds_Store_wrong.eval (k : Nat) (G : Gh) (d : Dt81) (a0 : Int) : evalX bounds_Store_wrong.spec bounds_Store_wrong.cals T Tryz.f55 k G d (a0, ()) = bounds_Store_wrong.e  G d a0 := by kernel_rfl
theorem bounds_Store_wrong.of (d : Dt81) (a0 : Int) (y : (Unit × (Int × Unit) × Dt81)) (h : ∀ G : Gh, ∃ k : Nat, bounds_Store_wrong.e  G d a0 = some (y, (G.b, []))) : bounds_Store_wrong.F d (a0, ()) = some y := limX_of (q := bounds_Store_wrong.spec) (C := bounds_Store_wrong.cals) (T := T) (f := Tryz.f55) (d := d) (x := (a0, ())) y fun G => (h G).imp fun k hk => (bounds_Store_wrong.eval k G d a0).trans hk

def bounds_trail_note.spec : XSpec := ⟨some ⟨81, 0, Kt79, 2⟩, false, [(false, (.int .i64)), (false, .bool), (true, Kt66)], false, none, [], false, fun j => match j with  | _ => []⟩
noncomputable def bounds_trail_note.cals : Cals := (Cals.base tabs)
noncomputable def bounds_trail_note.sig : XSig := bounds_trail_note.spec.sig bounds_trail_note.cals T Tryz.f61
noncomputable def bounds_trail_note.F (d : Dt79) (x : Int × Bool × Dt66 × Unit) : Option (Unit × (Unit) × Dt79) := limX bounds_trail_note.spec bounds_trail_note.cals T Tryz.f61 d x
theorem bounds_trail_note.ck : CalsOk Tryz.prog bounds_trail_note.cals := (CalsOk.base tabsOk)
theorem bounds_trail_note.cal : XOk Tryz.prog tabs 61 bounds_trail_note.sig := xok_of tabOk bounds_trail_note.ck mix Tryz.func61 (by kernel_rfl) (by kernel_rfl) (by kernel_rfl) (by kernel_rfl)
noncomputable def bounds_trail_note.e  (G : Gh) (d : Dt79) (a0 : Int) (a1 : Bool) (a2 : Dt66) : Option ((Unit × (Unit) × Dt79) × Nat × List Value) :=
  let v1 := ([(a0, (a1, (d.1, (a2.1, ((((a2.2.1.1.1.1, a2.2.1.1.1.2), a2.2.1.1.2), ((a2.2.1.2.1.1, a2.2.1.2.1.2), a2.2.1.2.2)), a2.2.2)))))] : List Dt70)
  bif decide (List.length d.2 + List.length v1 < 925904528653) then (let v2 := List.append d.2 v1
  some (((), (), (d.1, v2)), G.b, [G.v 0, G.v 1]))
  else none
theorem bounds_trail_note.eval (k : Nat) (G : Gh) (d : Dt79) (a0 : Int) (a1 : Bool) (a2 : Dt66) : evalX bounds_trail_note.spec bounds_trail_note.cals T Tryz.f61 k G d (a0, a1, a2, ()) = bounds_trail_note.e  G d a0 a1 a2 := by kernel_rfl
theorem bounds_trail_note.of (d : Dt79) (a0 : Int) (a1 : Bool) (a2 : Dt66) (y : (Unit × (Unit) × Dt79)) (h : ∀ G : Gh, ∃ k : Nat, bounds_trail_note.e  G d a0 a1 a2 = some (y, (G.b, [G.v 0, G.v 1]))) : bounds_trail_note.F d (a0, a1, a2, ()) = some y := limX_of (q := bounds_trail_note.spec) (C := bounds_trail_note.cals) (T := T) (f := Tryz.f61) (d := d) (x := (a0, a1, a2, ())) y fun G => (h G).imp fun k hk => (bounds_trail_note.eval k G d a0 a1 a2).trans hk

def delta_Norm.spec : Spec := ⟨[(true, Kt44)], [(true, Kt44)], .own, fun j => match j with  | _ => []⟩
noncomputable def delta_Norm.cals : Cals := (Cals.cons 88 ratio_Norm.sig (Cals.base tabs))
noncomputable def delta_Norm.sig : Sig := delta_Norm.spec.sig delta_Norm.cals T Tryz.f62
noncomputable def delta_Norm.F (x : Dt44 × Unit) : Option (Dt44 × Unit) := limF delta_Norm.spec delta_Norm.cals T Tryz.f62 x
theorem delta_Norm.ck : CalsOk Tryz.prog delta_Norm.cals := (CalsOk.cons ratio_Norm.cal (CalsOk.base tabsOk))
theorem delta_Norm.cal : CalOk Tryz.prog tabs 62 delta_Norm.sig := calOk_lim' tabOk delta_Norm.ck mix Tryz.func62 (by kernel_rfl) (by kernel_rfl) (by kernel_rfl) (by kernel_rfl)
noncomputable def delta_Norm.e  (a0 : Dt44) : Option (Dt44 × Unit) :=
  (ratio_Norm.F (((a0.1.1.1, a0.1.1.2), a0.1.2), ())).bind fun y1 =>
  (ratio_Norm.F (((a0.2.1.1, a0.2.1.2), a0.2.2), ())).bind fun y2 =>
  some ((((y1.1.1.1, y1.1.1.2), y1.1.2), ((y2.1.1.1, y2.1.1.2), y2.1.2)), ())
theorem delta_Norm.eval (k : Nat) (a0 : Dt44) : evalF delta_Norm.spec delta_Norm.cals T Tryz.f62 k (a0, ()) = delta_Norm.e  a0 := by kernel_rfl
theorem delta_Norm.F_eq (a0 : Dt44) : delta_Norm.F (a0, ()) = limF delta_Norm.spec delta_Norm.cals T Tryz.f62 (a0, ()) := by kernel_rfl
theorem delta_Norm.of (k : Nat) (a0 : Dt44) {y : Dt44 × Unit} (h : delta_Norm.e  a0 = some y) : delta_Norm.F (a0, ()) = some y := (delta_Norm.F_eq a0).trans (limF_of (q := delta_Norm.spec) (C := delta_Norm.cals) (T := T) (f := Tryz.f62) (x := (a0, ())) (y := y) k ((delta_Norm.eval k a0).trans h))

def bounds_Store_Lift.spec : XSpec := ⟨some ⟨81, 0, Kt81, 0⟩, false, [(false, (.int .i64)), (true, Kt44), (false, (.int .i64))], false, none, [(true, Kt83), (false, (.int .i64))], false, fun j => match j with  | _ => []⟩
noncomputable def bounds_Store_Lift.cals : Cals := (Cals.consX 55 false bounds_Store_wrong.sig (Cals.consX 61 false bounds_trail_note.sig (Cals.cons 49 bounds_below.sig (Cals.cons 62 delta_Norm.sig (Cals.base tabs)))))
noncomputable def bounds_Store_Lift.sig : XSig := bounds_Store_Lift.spec.sig bounds_Store_Lift.cals T Tryz.f27
noncomputable def bounds_Store_Lift.F (d : Dt81) (x : Int × Dt44 × Int × Unit) : Option (Unit × (Dt83 × Int × Unit) × Dt81) := limX bounds_Store_Lift.spec bounds_Store_Lift.cals T Tryz.f27 d x
theorem bounds_Store_Lift.ck : CalsOk Tryz.prog bounds_Store_Lift.cals := (CalsOk.consX bounds_Store_wrong.cal (CalsOk.consX bounds_trail_note.cal (CalsOk.cons bounds_below.cal (CalsOk.cons delta_Norm.cal (CalsOk.base tabsOk)))))
theorem bounds_Store_Lift.cal : XOk Tryz.prog tabs 27 bounds_Store_Lift.sig := xok_of tabOk bounds_Store_Lift.ck mix Tryz.func27 (by kernel_rfl) (by kernel_rfl) (by kernel_rfl) (by kernel_rfl)
noncomputable def bounds_Store_Lift.e  (G : Gh) (d : Dt81) (a0 : Int) (a1 : Dt44) (a2 : Int) : Option ((Unit × (Dt83 × Int × Unit) × Dt81) × Nat × List Value) :=
  (bounds_Store_wrong.F ((d.1.1, d.1.2), (d.2.1, d.2.2)) (a0, ())).bind fun y1 =>
  let v2 := (y1.2.1.1 != (0 : Int))
  bif v2 then (some (((), (zt83, y1.2.1.1, ()), ((y1.2.2.1.1, y1.2.2.1.2), (y1.2.2.2.1, y1.2.2.2.2))), G.b, []))
  else (bif decide (0 ≤ a0) && decide (a0 < (List.length y1.2.2.2.2 : Int)) then (let v3 := ((List.getD y1.2.2.2.2 (Int.toNat a0) zt68).1).1
  bif v3 then (let v4 := ((List.getD y1.2.2.2.2 (Int.toNat a0) zt68).1).1
  let v5 := ((((((List.getD y1.2.2.2.2 (Int.toNat a0) zt68).1).2).1).1).1).1
  let v6 := ((((((List.getD y1.2.2.2.2 (Int.toNat a0) zt68).1).2).1).1).1).2
  let v7 := (((((List.getD y1.2.2.2.2 (Int.toNat a0) zt68).1).2).1).1).2
  let v8 := ((((((List.getD y1.2.2.2.2 (Int.toNat a0) zt68).1).2).1).2).1).1
  let v9 := ((((((List.getD y1.2.2.2.2 (Int.toNat a0) zt68).1).2).1).2).1).2
  let v10 := (((((List.getD y1.2.2.2.2 (Int.toNat a0) zt68).1).2).1).2).2
  let v11 := (((List.getD y1.2.2.2.2 (Int.toNat a0) zt68).1).2).2
  (bounds_below.F ((v4, ((((v5, v6), v7), ((v8, v9), v10)), v11)), (((a1.1.1.1, a1.1.1.2), a1.1.2), ((a1.2.1.1, a1.2.1.2), a1.2.2)), ())).bind fun y12 =>
  let v13 := not y12.1
  bif v13 then (some (((), (zt83, (0 : Int), ()), ((y1.2.2.1.1, y1.2.2.1.2), (y1.2.2.2.1, y1.2.2.2.2))), G.b, []))
  else (let v14 := ((List.getD y1.2.2.2.2 (Int.toNat a0) zt68).2).1
  let v15 := ((((((List.getD y1.2.2.2.2 (Int.toNat a0) zt68).2).2).1).1).1).1
  let v16 := ((((((List.getD y1.2.2.2.2 (Int.toNat a0) zt68).2).2).1).1).1).2
  let v17 := (((((List.getD y1.2.2.2.2 (Int.toNat a0) zt68).2).2).1).1).2
  let v18 := ((((((List.getD y1.2.2.2.2 (Int.toNat a0) zt68).2).2).1).2).1).1
  let v19 := ((((((List.getD y1.2.2.2.2 (Int.toNat a0) zt68).2).2).1).2).1).2
  let v20 := (((((List.getD y1.2.2.2.2 (Int.toNat a0) zt68).2).2).1).2).2
  let v21 := (((List.getD y1.2.2.2.2 (Int.toNat a0) zt68).2).2).2
  (bounds_below.F ((v14, ((((v15, v16), v17), ((v18, v19), v20)), v21)), (((a1.1.1.1, a1.1.1.2), a1.1.2), ((a1.2.1.1, a1.2.1.2), a1.2.2)), ())).bind fun y22 =>
  bif y22.1 then (let v23 := (((List.getD y1.2.2.2.2 (Int.toNat a0) zt68).2).2).2
  some (((), (((2 : Int), v23), (0 : Int), ()), ((y1.2.2.1.1, y1.2.2.1.2), (y1.2.2.2.1, y1.2.2.2.2))), G.b, []))
  else (let v24 := ((List.getD y1.2.2.2.2 (Int.toNat a0) zt68).1).1
  let v25 := ((((((List.getD y1.2.2.2.2 (Int.toNat a0) zt68).1).2).1).1).1).1
  let v26 := ((((((List.getD y1.2.2.2.2 (Int.toNat a0) zt68).1).2).1).1).1).2
  let v27 := (((((List.getD y1.2.2.2.2 (Int.toNat a0) zt68).1).2).1).1).2
  let v28 := ((((((List.getD y1.2.2.2.2 (Int.toNat a0) zt68).1).2).1).2).1).1
  let v29 := ((((((List.getD y1.2.2.2.2 (Int.toNat a0) zt68).1).2).1).2).1).2
  let v30 := (((((List.getD y1.2.2.2.2 (Int.toNat a0) zt68).1).2).1).2).2
  let v31 := (((List.getD y1.2.2.2.2 (Int.toNat a0) zt68).1).2).2
  (bounds_trail_note.F (y1.2.2.1.1, y1.2.2.1.2) (a0, false, (v24, ((((v25, v26), v27), ((v28, v29), v30)), v31)), ())).bind fun y32 =>
  (delta_Norm.F ((((a1.1.1.1, a1.1.1.2), a1.1.2), ((a1.2.1.1, a1.2.1.2), a1.2.2)), ())).bind fun y33 =>
  let v34 := List.set y1.2.2.2.2 (Int.toNat a0) ((true, ((((y33.1.1.1.1, y33.1.1.1.2), y33.1.1.2), ((y33.1.2.1.1, y33.1.2.1.2), y33.1.2.2)), a2)), (((List.getD y1.2.2.2.2 (Int.toNat a0) zt68).2).1, ((((((((((List.getD y1.2.2.2.2 (Int.toNat a0) zt68).2).2).1).1).1).1, ((((((List.getD y1.2.2.2.2 (Int.toNat a0) zt68).2).2).1).1).1).2), (((((List.getD y1.2.2.2.2 (Int.toNat a0) zt68).2).2).1).1).2), ((((((((List.getD y1.2.2.2.2 (Int.toNat a0) zt68).2).2).1).2).1).1, ((((((List.getD y1.2.2.2.2 (Int.toNat a0) zt68).2).2).1).2).1).2), (((((List.getD y1.2.2.2.2 (Int.toNat a0) zt68).2).2).1).2).2)), (((List.getD y1.2.2.2.2 (Int.toNat a0) zt68).2).2).2)))
  some (((), (((1 : Int), (0 : Int)), (0 : Int), ()), ((y32.2.2.1, y32.2.2.2), (y1.2.2.2.1, v34))), G.b, []))))
  else (let v35 := ((List.getD y1.2.2.2.2 (Int.toNat a0) zt68).2).1
  let v36 := ((((((List.getD y1.2.2.2.2 (Int.toNat a0) zt68).2).2).1).1).1).1
  let v37 := ((((((List.getD y1.2.2.2.2 (Int.toNat a0) zt68).2).2).1).1).1).2
  let v38 := (((((List.getD y1.2.2.2.2 (Int.toNat a0) zt68).2).2).1).1).2
  let v39 := ((((((List.getD y1.2.2.2.2 (Int.toNat a0) zt68).2).2).1).2).1).1
  let v40 := ((((((List.getD y1.2.2.2.2 (Int.toNat a0) zt68).2).2).1).2).1).2
  let v41 := (((((List.getD y1.2.2.2.2 (Int.toNat a0) zt68).2).2).1).2).2
  let v42 := (((List.getD y1.2.2.2.2 (Int.toNat a0) zt68).2).2).2
  (bounds_below.F ((v35, ((((v36, v37), v38), ((v39, v40), v41)), v42)), (((a1.1.1.1, a1.1.1.2), a1.1.2), ((a1.2.1.1, a1.2.1.2), a1.2.2)), ())).bind fun y43 =>
  bif y43.1 then (let v44 := (((List.getD y1.2.2.2.2 (Int.toNat a0) zt68).2).2).2
  some (((), (((2 : Int), v44), (0 : Int), ()), ((y1.2.2.1.1, y1.2.2.1.2), (y1.2.2.2.1, y1.2.2.2.2))), G.b, []))
  else (let v45 := ((List.getD y1.2.2.2.2 (Int.toNat a0) zt68).1).1
  let v46 := ((((((List.getD y1.2.2.2.2 (Int.toNat a0) zt68).1).2).1).1).1).1
  let v47 := ((((((List.getD y1.2.2.2.2 (Int.toNat a0) zt68).1).2).1).1).1).2
  let v48 := (((((List.getD y1.2.2.2.2 (Int.toNat a0) zt68).1).2).1).1).2
  let v49 := ((((((List.getD y1.2.2.2.2 (Int.toNat a0) zt68).1).2).1).2).1).1
  let v50 := ((((((List.getD y1.2.2.2.2 (Int.toNat a0) zt68).1).2).1).2).1).2
  let v51 := (((((List.getD y1.2.2.2.2 (Int.toNat a0) zt68).1).2).1).2).2
  let v52 := (((List.getD y1.2.2.2.2 (Int.toNat a0) zt68).1).2).2
  (bounds_trail_note.F (y1.2.2.1.1, y1.2.2.1.2) (a0, false, (v45, ((((v46, v47), v48), ((v49, v50), v51)), v52)), ())).bind fun y53 =>
  (delta_Norm.F ((((a1.1.1.1, a1.1.1.2), a1.1.2), ((a1.2.1.1, a1.2.1.2), a1.2.2)), ())).bind fun y54 =>
  let v55 := List.set y1.2.2.2.2 (Int.toNat a0) ((true, ((((y54.1.1.1.1, y54.1.1.1.2), y54.1.1.2), ((y54.1.2.1.1, y54.1.2.1.2), y54.1.2.2)), a2)), (((List.getD y1.2.2.2.2 (Int.toNat a0) zt68).2).1, ((((((((((List.getD y1.2.2.2.2 (Int.toNat a0) zt68).2).2).1).1).1).1, ((((((List.getD y1.2.2.2.2 (Int.toNat a0) zt68).2).2).1).1).1).2), (((((List.getD y1.2.2.2.2 (Int.toNat a0) zt68).2).2).1).1).2), ((((((((List.getD y1.2.2.2.2 (Int.toNat a0) zt68).2).2).1).2).1).1, ((((((List.getD y1.2.2.2.2 (Int.toNat a0) zt68).2).2).1).2).1).2), (((((List.getD y1.2.2.2.2 (Int.toNat a0) zt68).2).2).1).2).2)), (((List.getD y1.2.2.2.2 (Int.toNat a0) zt68).2).2).2)))
  some (((), (((1 : Int), (0 : Int)), (0 : Int), ()), ((y53.2.2.1, y53.2.2.2), (y1.2.2.2.1, v55))), G.b, []))))
  else none)
theorem bounds_Store_Lift.eval (k : Nat) (G : Gh) (d : Dt81) (a0 : Int) (a1 : Dt44) (a2 : Int) : evalX bounds_Store_Lift.spec bounds_Store_Lift.cals T Tryz.f27 k G d (a0, a1, a2, ()) = bounds_Store_Lift.e  G d a0 a1 a2 := by kernel_rfl
theorem bounds_Store_Lift.of (d : Dt81) (a0 : Int) (a1 : Dt44) (a2 : Int) (y : (Unit × (Dt83 × Int × Unit) × Dt81)) (h : ∀ G : Gh, ∃ k : Nat, bounds_Store_Lift.e  G d a0 a1 a2 = some (y, (G.b, []))) : bounds_Store_Lift.F d (a0, a1, a2, ()) = some y := limX_of (q := bounds_Store_Lift.spec) (C := bounds_Store_Lift.cals) (T := T) (f := Tryz.f27) (d := d) (x := (a0, a1, a2, ())) y fun G => (h G).imp fun k hk => (bounds_Store_Lift.eval k G d a0 a1 a2).trans hk

def bounds_above.spec : Spec := ⟨[(true, Kt66), (true, Kt44)], [(false, .bool)], .own, fun j => match j with  | _ => []⟩
noncomputable def bounds_above.cals : Cals := (Cals.cons 68 delta_Cmp.sig (Cals.base tabs))
noncomputable def bounds_above.sig : Sig := bounds_above.spec.sig bounds_above.cals T Tryz.f63
noncomputable def bounds_above.F (x : Dt66 × Dt44 × Unit) : Option (Bool × Unit) := limF bounds_above.spec bounds_above.cals T Tryz.f63 x
theorem bounds_above.ck : CalsOk Tryz.prog bounds_above.cals := (CalsOk.cons delta_Cmp.cal (CalsOk.base tabsOk))
theorem bounds_above.cal : CalOk Tryz.prog tabs 63 bounds_above.sig := calOk_lim' tabOk bounds_above.ck mix Tryz.func63 (by kernel_rfl) (by kernel_rfl) (by kernel_rfl) (by kernel_rfl)
noncomputable def bounds_above.e  (a0 : Dt66) (a1 : Dt44) : Option (Bool × Unit) :=
  bif a0.1 then ((delta_Cmp.F ((((a0.2.1.1.1.1, a0.2.1.1.1.2), a0.2.1.1.2), ((a0.2.1.2.1.1, a0.2.1.2.1.2), a0.2.1.2.2)), (((a1.1.1.1, a1.1.1.2), a1.1.2), ((a1.2.1.1, a1.2.1.2), a1.2.2)), ())).bind fun y1 =>
  let v2 := decide (y1.1 > (0 : Int))
  some (v2, ()))
  else (some (false, ()))
theorem bounds_above.eval (k : Nat) (a0 : Dt66) (a1 : Dt44) : evalF bounds_above.spec bounds_above.cals T Tryz.f63 k (a0, a1, ()) = bounds_above.e  a0 a1 := by kernel_rfl
theorem bounds_above.F_eq (a0 : Dt66) (a1 : Dt44) : bounds_above.F (a0, a1, ()) = limF bounds_above.spec bounds_above.cals T Tryz.f63 (a0, a1, ()) := by kernel_rfl
theorem bounds_above.of (k : Nat) (a0 : Dt66) (a1 : Dt44) {y : Bool × Unit} (h : bounds_above.e  a0 a1 = some y) : bounds_above.F (a0, a1, ()) = some y := (bounds_above.F_eq a0 a1).trans (limF_of (q := bounds_above.spec) (C := bounds_above.cals) (T := T) (f := Tryz.f63) (x := (a0, a1, ())) (y := y) k ((bounds_above.eval k a0 a1).trans h))

def bounds_Store_Press.spec : XSpec := ⟨some ⟨81, 0, Kt81, 0⟩, false, [(false, (.int .i64)), (true, Kt44), (false, (.int .i64))], false, none, [(true, Kt83), (false, (.int .i64))], false, fun j => match j with  | _ => []⟩
noncomputable def bounds_Store_Press.cals : Cals := (Cals.consX 55 false bounds_Store_wrong.sig (Cals.consX 61 false bounds_trail_note.sig (Cals.cons 63 bounds_above.sig (Cals.cons 62 delta_Norm.sig (Cals.base tabs)))))
noncomputable def bounds_Store_Press.sig : XSig := bounds_Store_Press.spec.sig bounds_Store_Press.cals T Tryz.f28
noncomputable def bounds_Store_Press.F (d : Dt81) (x : Int × Dt44 × Int × Unit) : Option (Unit × (Dt83 × Int × Unit) × Dt81) := limX bounds_Store_Press.spec bounds_Store_Press.cals T Tryz.f28 d x
theorem bounds_Store_Press.ck : CalsOk Tryz.prog bounds_Store_Press.cals := (CalsOk.consX bounds_Store_wrong.cal (CalsOk.consX bounds_trail_note.cal (CalsOk.cons bounds_above.cal (CalsOk.cons delta_Norm.cal (CalsOk.base tabsOk)))))
theorem bounds_Store_Press.cal : XOk Tryz.prog tabs 28 bounds_Store_Press.sig := xok_of tabOk bounds_Store_Press.ck mix Tryz.func28 (by kernel_rfl) (by kernel_rfl) (by kernel_rfl) (by kernel_rfl)
noncomputable def bounds_Store_Press.e  (G : Gh) (d : Dt81) (a0 : Int) (a1 : Dt44) (a2 : Int) : Option ((Unit × (Dt83 × Int × Unit) × Dt81) × Nat × List Value) :=
  (bounds_Store_wrong.F ((d.1.1, d.1.2), (d.2.1, d.2.2)) (a0, ())).bind fun y1 =>
  let v2 := (y1.2.1.1 != (0 : Int))
  bif v2 then (some (((), (zt83, y1.2.1.1, ()), ((y1.2.2.1.1, y1.2.2.1.2), (y1.2.2.2.1, y1.2.2.2.2))), G.b, []))
  else (bif decide (0 ≤ a0) && decide (a0 < (List.length y1.2.2.2.2 : Int)) then (let v3 := ((List.getD y1.2.2.2.2 (Int.toNat a0) zt68).2).1
  bif v3 then (let v4 := ((List.getD y1.2.2.2.2 (Int.toNat a0) zt68).2).1
  let v5 := ((((((List.getD y1.2.2.2.2 (Int.toNat a0) zt68).2).2).1).1).1).1
  let v6 := ((((((List.getD y1.2.2.2.2 (Int.toNat a0) zt68).2).2).1).1).1).2
  let v7 := (((((List.getD y1.2.2.2.2 (Int.toNat a0) zt68).2).2).1).1).2
  let v8 := ((((((List.getD y1.2.2.2.2 (Int.toNat a0) zt68).2).2).1).2).1).1
  let v9 := ((((((List.getD y1.2.2.2.2 (Int.toNat a0) zt68).2).2).1).2).1).2
  let v10 := (((((List.getD y1.2.2.2.2 (Int.toNat a0) zt68).2).2).1).2).2
  let v11 := (((List.getD y1.2.2.2.2 (Int.toNat a0) zt68).2).2).2
  (bounds_above.F ((v4, ((((v5, v6), v7), ((v8, v9), v10)), v11)), (((a1.1.1.1, a1.1.1.2), a1.1.2), ((a1.2.1.1, a1.2.1.2), a1.2.2)), ())).bind fun y12 =>
  let v13 := not y12.1
  bif v13 then (some (((), (zt83, (0 : Int), ()), ((y1.2.2.1.1, y1.2.2.1.2), (y1.2.2.2.1, y1.2.2.2.2))), G.b, []))
  else (let v14 := ((List.getD y1.2.2.2.2 (Int.toNat a0) zt68).1).1
  let v15 := ((((((List.getD y1.2.2.2.2 (Int.toNat a0) zt68).1).2).1).1).1).1
  let v16 := ((((((List.getD y1.2.2.2.2 (Int.toNat a0) zt68).1).2).1).1).1).2
  let v17 := (((((List.getD y1.2.2.2.2 (Int.toNat a0) zt68).1).2).1).1).2
  let v18 := ((((((List.getD y1.2.2.2.2 (Int.toNat a0) zt68).1).2).1).2).1).1
  let v19 := ((((((List.getD y1.2.2.2.2 (Int.toNat a0) zt68).1).2).1).2).1).2
  let v20 := (((((List.getD y1.2.2.2.2 (Int.toNat a0) zt68).1).2).1).2).2
  let v21 := (((List.getD y1.2.2.2.2 (Int.toNat a0) zt68).1).2).2
  (bounds_above.F ((v14, ((((v15, v16), v17), ((v18, v19), v20)), v21)), (((a1.1.1.1, a1.1.1.2), a1.1.2), ((a1.2.1.1, a1.2.1.2), a1.2.2)), ())).bind fun y22 =>
  bif y22.1 then (let v23 := (((List.getD y1.2.2.2.2 (Int.toNat a0) zt68).1).2).2
  some (((), (((2 : Int), v23), (0 : Int), ()), ((y1.2.2.1.1, y1.2.2.1.2), (y1.2.2.2.1, y1.2.2.2.2))), G.b, []))
  else (let v24 := ((List.getD y1.2.2.2.2 (Int.toNat a0) zt68).2).1
  let v25 := ((((((List.getD y1.2.2.2.2 (Int.toNat a0) zt68).2).2).1).1).1).1
  let v26 := ((((((List.getD y1.2.2.2.2 (Int.toNat a0) zt68).2).2).1).1).1).2
  let v27 := (((((List.getD y1.2.2.2.2 (Int.toNat a0) zt68).2).2).1).1).2
  let v28 := ((((((List.getD y1.2.2.2.2 (Int.toNat a0) zt68).2).2).1).2).1).1
  let v29 := ((((((List.getD y1.2.2.2.2 (Int.toNat a0) zt68).2).2).1).2).1).2
  let v30 := (((((List.getD y1.2.2.2.2 (Int.toNat a0) zt68).2).2).1).2).2
  let v31 := (((List.getD y1.2.2.2.2 (Int.toNat a0) zt68).2).2).2
  (bounds_trail_note.F (y1.2.2.1.1, y1.2.2.1.2) (a0, true, (v24, ((((v25, v26), v27), ((v28, v29), v30)), v31)), ())).bind fun y32 =>
  (delta_Norm.F ((((a1.1.1.1, a1.1.1.2), a1.1.2), ((a1.2.1.1, a1.2.1.2), a1.2.2)), ())).bind fun y33 =>
  let v34 := List.set y1.2.2.2.2 (Int.toNat a0) ((((List.getD y1.2.2.2.2 (Int.toNat a0) zt68).1).1, ((((((((((List.getD y1.2.2.2.2 (Int.toNat a0) zt68).1).2).1).1).1).1, ((((((List.getD y1.2.2.2.2 (Int.toNat a0) zt68).1).2).1).1).1).2), (((((List.getD y1.2.2.2.2 (Int.toNat a0) zt68).1).2).1).1).2), ((((((((List.getD y1.2.2.2.2 (Int.toNat a0) zt68).1).2).1).2).1).1, ((((((List.getD y1.2.2.2.2 (Int.toNat a0) zt68).1).2).1).2).1).2), (((((List.getD y1.2.2.2.2 (Int.toNat a0) zt68).1).2).1).2).2)), (((List.getD y1.2.2.2.2 (Int.toNat a0) zt68).1).2).2)), (true, ((((y33.1.1.1.1, y33.1.1.1.2), y33.1.1.2), ((y33.1.2.1.1, y33.1.2.1.2), y33.1.2.2)), a2)))
  some (((), (((1 : Int), (0 : Int)), (0 : Int), ()), ((y32.2.2.1, y32.2.2.2), (y1.2.2.2.1, v34))), G.b, []))))
  else (let v35 := ((List.getD y1.2.2.2.2 (Int.toNat a0) zt68).1).1
  let v36 := ((((((List.getD y1.2.2.2.2 (Int.toNat a0) zt68).1).2).1).1).1).1
  let v37 := ((((((List.getD y1.2.2.2.2 (Int.toNat a0) zt68).1).2).1).1).1).2
  let v38 := (((((List.getD y1.2.2.2.2 (Int.toNat a0) zt68).1).2).1).1).2
  let v39 := ((((((List.getD y1.2.2.2.2 (Int.toNat a0) zt68).1).2).1).2).1).1
  let v40 := ((((((List.getD y1.2.2.2.2 (Int.toNat a0) zt68).1).2).1).2).1).2
  let v41 := (((((List.getD y1.2.2.2.2 (Int.toNat a0) zt68).1).2).1).2).2
  let v42 := (((List.getD y1.2.2.2.2 (Int.toNat a0) zt68).1).2).2
  (bounds_above.F ((v35, ((((v36, v37), v38), ((v39, v40), v41)), v42)), (((a1.1.1.1, a1.1.1.2), a1.1.2), ((a1.2.1.1, a1.2.1.2), a1.2.2)), ())).bind fun y43 =>
  bif y43.1 then (let v44 := (((List.getD y1.2.2.2.2 (Int.toNat a0) zt68).1).2).2
  some (((), (((2 : Int), v44), (0 : Int), ()), ((y1.2.2.1.1, y1.2.2.1.2), (y1.2.2.2.1, y1.2.2.2.2))), G.b, []))
  else (let v45 := ((List.getD y1.2.2.2.2 (Int.toNat a0) zt68).2).1
  let v46 := ((((((List.getD y1.2.2.2.2 (Int.toNat a0) zt68).2).2).1).1).1).1
  let v47 := ((((((List.getD y1.2.2.2.2 (Int.toNat a0) zt68).2).2).1).1).1).2
  let v48 := (((((List.getD y1.2.2.2.2 (Int.toNat a0) zt68).2).2).1).1).2
  let v49 := ((((((List.getD y1.2.2.2.2 (Int.toNat a0) zt68).2).2).1).2).1).1
  let v50 := ((((((List.getD y1.2.2.2.2 (Int.toNat a0) zt68).2).2).1).2).1).2
  let v51 := (((((List.getD y1.2.2.2.2 (Int.toNat a0) zt68).2).2).1).2).2
  let v52 := (((List.getD y1.2.2.2.2 (Int.toNat a0) zt68).2).2).2
  (bounds_trail_note.F (y1.2.2.1.1, y1.2.2.1.2) (a0, true, (v45, ((((v46, v47), v48), ((v49, v50), v51)), v52)), ())).bind fun y53 =>
  (delta_Norm.F ((((a1.1.1.1, a1.1.1.2), a1.1.2), ((a1.2.1.1, a1.2.1.2), a1.2.2)), ())).bind fun y54 =>
  let v55 := List.set y1.2.2.2.2 (Int.toNat a0) ((((List.getD y1.2.2.2.2 (Int.toNat a0) zt68).1).1, ((((((((((List.getD y1.2.2.2.2 (Int.toNat a0) zt68).1).2).1).1).1).1, ((((((List.getD y1.2.2.2.2 (Int.toNat a0) zt68).1).2).1).1).1).2), (((((List.getD y1.2.2.2.2 (Int.toNat a0) zt68).1).2).1).1).2), ((((((((List.getD y1.2.2.2.2 (Int.toNat a0) zt68).1).2).1).2).1).1, ((((((List.getD y1.2.2.2.2 (Int.toNat a0) zt68).1).2).1).2).1).2), (((((List.getD y1.2.2.2.2 (Int.toNat a0) zt68).1).2).1).2).2)), (((List.getD y1.2.2.2.2 (Int.toNat a0) zt68).1).2).2)), (true, ((((y54.1.1.1.1, y54.1.1.1.2), y54.1.1.2), ((y54.1.2.1.1, y54.1.2.1.2), y54.1.2.2)), a2)))
  some (((), (((1 : Int), (0 : Int)), (0 : Int), ()), ((y53.2.2.1, y53.2.2.2), (y1.2.2.2.1, v55))), G.b, []))))
  else none)
theorem bounds_Store_Press.eval (k : Nat) (G : Gh) (d : Dt81) (a0 : Int) (a1 : Dt44) (a2 : Int) : evalX bounds_Store_Press.spec bounds_Store_Press.cals T Tryz.f28 k G d (a0, a1, a2, ()) = bounds_Store_Press.e  G d a0 a1 a2 := by kernel_rfl
theorem bounds_Store_Press.of (d : Dt81) (a0 : Int) (a1 : Dt44) (a2 : Int) (y : (Unit × (Dt83 × Int × Unit) × Dt81)) (h : ∀ G : Gh, ∃ k : Nat, bounds_Store_Press.e  G d a0 a1 a2 = some (y, (G.b, []))) : bounds_Store_Press.F d (a0, a1, a2, ()) = some y := limX_of (q := bounds_Store_Press.spec) (C := bounds_Store_Press.cals) (T := T) (f := Tryz.f28) (d := d) (x := (a0, a1, a2, ())) y fun G => (h G).imp fun k hk => (bounds_Store_Press.eval k G d a0 a1 a2).trans hk

def fulcrumref08_Is.spec : Spec := ⟨[(true, Kt32), (false, (.int .i64))], [(false, .bool)], .own, fun j => match j with  | _ => []⟩
noncomputable def fulcrumref08_Is.cals : Cals := (Cals.base tabs)
noncomputable def fulcrumref08_Is.sig : Sig := fulcrumref08_Is.spec.sig fulcrumref08_Is.cals T Tryz.f37
noncomputable def fulcrumref08_Is.F (x : Dt32 × Int × Unit) : Option (Bool × Unit) := limF fulcrumref08_Is.spec fulcrumref08_Is.cals T Tryz.f37 x
theorem fulcrumref08_Is.ck : CalsOk Tryz.prog fulcrumref08_Is.cals := (CalsOk.base tabsOk)
theorem fulcrumref08_Is.cal : CalOk Tryz.prog tabs 37 fulcrumref08_Is.sig := calOk_lim' tabOk fulcrumref08_Is.ck mix Tryz.func37 (by kernel_rfl) (by kernel_rfl) (by kernel_rfl) (by kernel_rfl)
noncomputable def fulcrumref08_Is.e  (a0 : Dt32) (a1 : Int) : Option (Bool × Unit) :=
  let v1 := decide (a1 ≥ (0 : Int))
  bif v1 then (let v2 := (List.length a0.1 : Int)
  let v3 := decide (a1 < v2)
  some (v3, ()))
  else (some (false, ()))
theorem fulcrumref08_Is.eval (k : Nat) (a0 : Dt32) (a1 : Int) : evalF fulcrumref08_Is.spec fulcrumref08_Is.cals T Tryz.f37 k (a0, a1, ()) = fulcrumref08_Is.e  a0 a1 := by kernel_rfl
theorem fulcrumref08_Is.F_eq (a0 : Dt32) (a1 : Int) : fulcrumref08_Is.F (a0, a1, ()) = limF fulcrumref08_Is.spec fulcrumref08_Is.cals T Tryz.f37 (a0, a1, ()) := by kernel_rfl
theorem fulcrumref08_Is.of (k : Nat) (a0 : Dt32) (a1 : Int) {y : Bool × Unit} (h : fulcrumref08_Is.e  a0 a1 = some y) : fulcrumref08_Is.F (a0, a1, ()) = some y := (fulcrumref08_Is.F_eq a0 a1).trans (limF_of (q := fulcrumref08_Is.spec) (C := fulcrumref08_Is.cals) (T := T) (f := Tryz.f37) (x := (a0, a1, ())) (y := y) k ((fulcrumref08_Is.eval k a0 a1).trans h))

def fulcrumref01_Norm.spec : Spec := ⟨[(false, Kt38)], [(false, Kt38)], .own, fun j => match j with | 2 => [(0, .lf (.z 114 (.int .u32) false)), (3, .lf (.v true))] | 6 => [(0, .lf (.z 114 (.int .u32) false)), (3, .lf (.v true)), (4, .lf (.o 114 (.int .u32) true)), (5, .lf (.v true))] | _ => []⟩
noncomputable def fulcrumref01_Norm.cals : Cals := (Cals.base tabs)
noncomputable def fulcrumref01_Norm.sig : Sig := fulcrumref01_Norm.spec.sig fulcrumref01_Norm.cals T Tryz.f80
noncomputable def fulcrumref01_Norm.F (x : Dt38 × Unit) : Option (Dt38 × Unit) := limF fulcrumref01_Norm.spec fulcrumref01_Norm.cals T Tryz.f80 x
theorem fulcrumref01_Norm.ck : CalsOk Tryz.prog fulcrumref01_Norm.cals := (CalsOk.base tabsOk)
theorem fulcrumref01_Norm.cal : CalOk Tryz.prog tabs 80 fulcrumref01_Norm.sig := calOk_lim' tabOk fulcrumref01_Norm.ck mix Tryz.func80 (by kernel_rfl) (by kernel_rfl) (by kernel_rfl) (by kernel_rfl)
def fulcrumref01_Norm.m2 (x0 : Dt38) (x3 : Int) : S := ⟨[(0, .one (.lf (.val false Kt38 x0))), (3, .one (.lf (.val true (.int .i64) x3)))], ⟨[], []⟩⟩
def fulcrumref01_Norm.m6 (x0 : Dt38) (x3 : Int) (x4 : Dt38) (x5 : Int) : S := ⟨[(0, .one (.lf (.val false Kt38 x0))), (3, .one (.lf (.val true (.int .i64) x3))), (4, .one (.lf (.own 0))), (5, .one (.lf (.val true (.int .i64) x5)))], ⟨[some ⟨114, (.int .u32), true, true, x4⟩], []⟩⟩
noncomputable def fulcrumref01_Norm.b2 (f2 : Dt38 → Int → Option (Dt38 × Unit)) (f6 : Dt38 → Int → Dt38 → Int → Option (Dt38 × Unit)) (x0 : Dt38) (x3 : Int) : Option (Dt38 × Unit) :=
  let v1 := decide (x3 > (0 : Int))
  bif v1 then (let v2 := IntKind.i64.wrap (x3 - (1 : Int))
  bif decide (0 ≤ v2) && decide (v2 < (List.length x0 : Int)) then (let v3 := List.getD x0 (Int.toNat v2) (0 : Int)
  let v4 := (v3 == (0 : Int))
  bif v4 then (let v5 := IntKind.i64.wrap (x3 - (1 : Int))
  f2 x0 v5)
  else (bif decide (0 ≤ x3) && (decide (x3 ≤ x3) && (decide (Int.toNat x3 * 4 ≤ 281474976710656) && Nat.blt 0 4)) then (let v6 := List.replicate (Int.toNat x3) (0 : Int)
  f6 x0 x3 v6 (0 : Int))
  else none))
  else none)
  else (bif decide (0 ≤ x3) && (decide (x3 ≤ x3) && (decide (Int.toNat x3 * 4 ≤ 281474976710656) && Nat.blt 0 4)) then (let v7 := List.replicate (Int.toNat x3) (0 : Int)
  f6 x0 x3 v7 (0 : Int))
  else none)
noncomputable def fulcrumref01_Norm.b6 (f2 : Dt38 → Int → Option (Dt38 × Unit)) (f6 : Dt38 → Int → Dt38 → Int → Option (Dt38 × Unit)) (x0 : Dt38) (x3 : Int) (x4 : Dt38) (x5 : Int) : Option (Dt38 × Unit) :=
  let v1 := decide (x5 < x3)
  bif v1 then (bif decide (0 ≤ x5) && decide (x5 < (List.length x0 : Int)) then (let v2 := List.getD x0 (Int.toNat x5) (0 : Int)
  bif decide (0 ≤ x5) && decide (x5 < (List.length x4 : Int)) then (let v3 := List.set x4 (Int.toNat x5) v2
  let v4 := IntKind.i64.wrap (x5 + (1 : Int))
  f6 x0 x3 v3 v4)
  else none)
  else none)
  else (some (x4, ()))
noncomputable def fulcrumref01_Norm.e (f2 : Dt38 → Int → Option (Dt38 × Unit)) (f6 : Dt38 → Int → Dt38 → Int → Option (Dt38 × Unit)) (a0 : Dt38) : Option (Dt38 × Unit) :=
  let v1 := (List.length a0 : Int)
  f2 a0 v1
noncomputable def fulcrumref01_Norm.L2 (k : Nat) (x0 : Dt38) (x3 : Int) : Option (Dt38 × Unit) := heads (fulcrumref01_Norm.spec.env fulcrumref01_Norm.cals T Tryz.f80) (Func.pts Tryz.f80) k 2 (fulcrumref01_Norm.m2 x0 x3)
noncomputable def fulcrumref01_Norm.L6 (k : Nat) (x0 : Dt38) (x3 : Int) (x4 : Dt38) (x5 : Int) : Option (Dt38 × Unit) := heads (fulcrumref01_Norm.spec.env fulcrumref01_Norm.cals T Tryz.f80) (Func.pts Tryz.f80) k 6 (fulcrumref01_Norm.m6 x0 x3 x4 x5)
theorem fulcrumref01_Norm.L2_succ (k : Nat) (x0 : Dt38) (x3 : Int) : fulcrumref01_Norm.L2 (k + 1) x0 x3 = fulcrumref01_Norm.b2 (fulcrumref01_Norm.L2 k) (fulcrumref01_Norm.L6 k) x0 x3 := by kernel_rfl
theorem fulcrumref01_Norm.L6_succ (k : Nat) (x0 : Dt38) (x3 : Int) (x4 : Dt38) (x5 : Int) : fulcrumref01_Norm.L6 (k + 1) x0 x3 x4 x5 = fulcrumref01_Norm.b6 (fulcrumref01_Norm.L2 k) (fulcrumref01_Norm.L6 k) x0 x3 x4 x5 := by kernel_rfl
theorem fulcrumref01_Norm.eval (k : Nat) (a0 : Dt38) : evalF fulcrumref01_Norm.spec fulcrumref01_Norm.cals T Tryz.f80 k (a0, ()) = fulcrumref01_Norm.e (fulcrumref01_Norm.L2 k) (fulcrumref01_Norm.L6 k) a0 := by kernel_rfl
theorem fulcrumref01_Norm.F_eq (a0 : Dt38) : fulcrumref01_Norm.F (a0, ()) = limF fulcrumref01_Norm.spec fulcrumref01_Norm.cals T Tryz.f80 (a0, ()) := by kernel_rfl
theorem fulcrumref01_Norm.of (k : Nat) (a0 : Dt38) {y : Dt38 × Unit} (h : fulcrumref01_Norm.e (fulcrumref01_Norm.L2 k) (fulcrumref01_Norm.L6 k) a0 = some y) : fulcrumref01_Norm.F (a0, ()) = some y := (fulcrumref01_Norm.F_eq a0).trans (limF_of (q := fulcrumref01_Norm.spec) (C := fulcrumref01_Norm.cals) (T := T) (f := Tryz.f80) (x := (a0, ())) (y := y) k ((fulcrumref01_Norm.eval k a0).trans h))

def fulcrumref02_made.spec : Spec := ⟨[(false, .bool), (false, Kt38)], [(true, Kt40)], .own, fun j => match j with  | _ => []⟩
noncomputable def fulcrumref02_made.cals : Cals := (Cals.cons 80 fulcrumref01_Norm.sig (Cals.base tabs))
noncomputable def fulcrumref02_made.sig : Sig := fulcrumref02_made.spec.sig fulcrumref02_made.cals T Tryz.f83
noncomputable def fulcrumref02_made.F (x : Bool × Dt38 × Unit) : Option (Dt40 × Unit) := limF fulcrumref02_made.spec fulcrumref02_made.cals T Tryz.f83 x
theorem fulcrumref02_made.ck : CalsOk Tryz.prog fulcrumref02_made.cals := (CalsOk.cons fulcrumref01_Norm.cal (CalsOk.base tabsOk))
theorem fulcrumref02_made.cal : CalOk Tryz.prog tabs 83 fulcrumref02_made.sig := calOk_lim' tabOk fulcrumref02_made.ck mix Tryz.func83 (by kernel_rfl) (by kernel_rfl) (by kernel_rfl) (by kernel_rfl)
noncomputable def fulcrumref02_made.e  (a0 : Bool) (a1 : Dt38) : Option (Dt40 × Unit) :=
  (fulcrumref01_Norm.F (a1, ())).bind fun y1 =>
  bif a0 then (let v2 := (List.length y1.1 : Int)
  let v3 := decide (v2 > (0 : Int))
  some ((v3, y1.1), ()))
  else (some ((false, y1.1), ()))
theorem fulcrumref02_made.eval (k : Nat) (a0 : Bool) (a1 : Dt38) : evalF fulcrumref02_made.spec fulcrumref02_made.cals T Tryz.f83 k (a0, a1, ()) = fulcrumref02_made.e  a0 a1 := by kernel_rfl
theorem fulcrumref02_made.F_eq (a0 : Bool) (a1 : Dt38) : fulcrumref02_made.F (a0, a1, ()) = limF fulcrumref02_made.spec fulcrumref02_made.cals T Tryz.f83 (a0, a1, ()) := by kernel_rfl
theorem fulcrumref02_made.of (k : Nat) (a0 : Bool) (a1 : Dt38) {y : Dt40 × Unit} (h : fulcrumref02_made.e  a0 a1 = some y) : fulcrumref02_made.F (a0, a1, ()) = some y := (fulcrumref02_made.F_eq a0 a1).trans (limF_of (q := fulcrumref02_made.spec) (C := fulcrumref02_made.cals) (T := T) (f := Tryz.f83) (x := (a0, a1, ())) (y := y) k ((fulcrumref02_made.eval k a0 a1).trans h))

def fulcrumref02_Norm.spec : Spec := ⟨[(true, Kt40)], [(true, Kt40)], .own, fun j => match j with  | _ => []⟩
noncomputable def fulcrumref02_Norm.cals : Cals := (Cals.cons 83 fulcrumref02_made.sig (Cals.base tabs))
noncomputable def fulcrumref02_Norm.sig : Sig := fulcrumref02_Norm.spec.sig fulcrumref02_Norm.cals T Tryz.f79
noncomputable def fulcrumref02_Norm.F (x : Dt40 × Unit) : Option (Dt40 × Unit) := limF fulcrumref02_Norm.spec fulcrumref02_Norm.cals T Tryz.f79 x
theorem fulcrumref02_Norm.ck : CalsOk Tryz.prog fulcrumref02_Norm.cals := (CalsOk.cons fulcrumref02_made.cal (CalsOk.base tabsOk))
theorem fulcrumref02_Norm.cal : CalOk Tryz.prog tabs 79 fulcrumref02_Norm.sig := calOk_lim' tabOk fulcrumref02_Norm.ck mix Tryz.func79 (by kernel_rfl) (by kernel_rfl) (by kernel_rfl) (by kernel_rfl)
noncomputable def fulcrumref02_Norm.e  (a0 : Dt40) : Option (Dt40 × Unit) :=
  (fulcrumref02_made.F (a0.1, a0.2, ())).bind fun y1 =>
  some ((y1.1.1, y1.1.2), ())
theorem fulcrumref02_Norm.eval (k : Nat) (a0 : Dt40) : evalF fulcrumref02_Norm.spec fulcrumref02_Norm.cals T Tryz.f79 k (a0, ()) = fulcrumref02_Norm.e  a0 := by kernel_rfl
theorem fulcrumref02_Norm.F_eq (a0 : Dt40) : fulcrumref02_Norm.F (a0, ()) = limF fulcrumref02_Norm.spec fulcrumref02_Norm.cals T Tryz.f79 (a0, ()) := by kernel_rfl
theorem fulcrumref02_Norm.of (k : Nat) (a0 : Dt40) {y : Dt40 × Unit} (h : fulcrumref02_Norm.e  a0 = some y) : fulcrumref02_Norm.F (a0, ()) = some y := (fulcrumref02_Norm.F_eq a0).trans (limF_of (q := fulcrumref02_Norm.spec) (C := fulcrumref02_Norm.cals) (T := T) (f := Tryz.f79) (x := (a0, ())) (y := y) k ((fulcrumref02_Norm.eval k a0).trans h))

def fulcrumref01_at.spec : Spec := ⟨[(false, Kt38), (false, (.int .i64))], [(false, (.int .u64))], .own, fun j => match j with  | _ => []⟩
noncomputable def fulcrumref01_at.cals : Cals := (Cals.base tabs)
noncomputable def fulcrumref01_at.sig : Sig := fulcrumref01_at.spec.sig fulcrumref01_at.cals T Tryz.f103
noncomputable def fulcrumref01_at.F (x : Dt38 × Int × Unit) : Option (Int × Unit) := limF fulcrumref01_at.spec fulcrumref01_at.cals T Tryz.f103 x
theorem fulcrumref01_at.ck : CalsOk Tryz.prog fulcrumref01_at.cals := (CalsOk.base tabsOk)
theorem fulcrumref01_at.cal : CalOk Tryz.prog tabs 103 fulcrumref01_at.sig := calOk_lim' tabOk fulcrumref01_at.ck mix Tryz.func103 (by kernel_rfl) (by kernel_rfl) (by kernel_rfl) (by kernel_rfl)
noncomputable def fulcrumref01_at.e  (a0 : Dt38) (a1 : Int) : Option (Int × Unit) :=
  let v1 := (List.length a0 : Int)
  let v2 := decide (a1 ≥ v1)
  bif v2 then (some ((0 : Int), ()))
  else (bif decide (0 ≤ a1) && decide (a1 < (List.length a0 : Int)) then (let v3 := List.getD a0 (Int.toNat a1) (0 : Int)
  let v4 := IntKind.u64.wrap v3
  some (v4, ()))
  else none)
theorem fulcrumref01_at.eval (k : Nat) (a0 : Dt38) (a1 : Int) : evalF fulcrumref01_at.spec fulcrumref01_at.cals T Tryz.f103 k (a0, a1, ()) = fulcrumref01_at.e  a0 a1 := by kernel_rfl
theorem fulcrumref01_at.F_eq (a0 : Dt38) (a1 : Int) : fulcrumref01_at.F (a0, a1, ()) = limF fulcrumref01_at.spec fulcrumref01_at.cals T Tryz.f103 (a0, a1, ()) := by kernel_rfl
theorem fulcrumref01_at.of (k : Nat) (a0 : Dt38) (a1 : Int) {y : Int × Unit} (h : fulcrumref01_at.e  a0 a1 = some y) : fulcrumref01_at.F (a0, a1, ()) = some y := (fulcrumref01_at.F_eq a0 a1).trans (limF_of (q := fulcrumref01_at.spec) (C := fulcrumref01_at.cals) (T := T) (f := Tryz.f103) (x := (a0, a1, ())) (y := y) k ((fulcrumref01_at.eval k a0 a1).trans h))

def fulcrumref01_Cmp.spec : Spec := ⟨[(false, Kt38), (false, Kt38)], [(false, (.int .i64))], .own, fun j => match j with | 5 => [(0, .lf (.z 114 (.int .u32) false)), (1, .lf (.z 114 (.int .u32) false)), (6, .lf (.v true))] | _ => []⟩
noncomputable def fulcrumref01_Cmp.cals : Cals := (Cals.cons 103 fulcrumref01_at.sig (Cals.base tabs))
noncomputable def fulcrumref01_Cmp.sig : Sig := fulcrumref01_Cmp.spec.sig fulcrumref01_Cmp.cals T Tryz.f93
noncomputable def fulcrumref01_Cmp.F (x : Dt38 × Dt38 × Unit) : Option (Int × Unit) := limF fulcrumref01_Cmp.spec fulcrumref01_Cmp.cals T Tryz.f93 x
theorem fulcrumref01_Cmp.ck : CalsOk Tryz.prog fulcrumref01_Cmp.cals := (CalsOk.cons fulcrumref01_at.cal (CalsOk.base tabsOk))
theorem fulcrumref01_Cmp.cal : CalOk Tryz.prog tabs 93 fulcrumref01_Cmp.sig := calOk_lim' tabOk fulcrumref01_Cmp.ck mix Tryz.func93 (by kernel_rfl) (by kernel_rfl) (by kernel_rfl) (by kernel_rfl)
def fulcrumref01_Cmp.m5 (x0 : Dt38) (x1 : Dt38) (x6 : Int) : S := ⟨[(0, .one (.lf (.val false Kt38 x0))), (1, .one (.lf (.val false Kt38 x1))), (6, .one (.lf (.val true (.int .i64) x6)))], ⟨[], []⟩⟩
noncomputable def fulcrumref01_Cmp.b5 (f5 : Dt38 → Dt38 → Int → Option (Int × Unit)) (x0 : Dt38) (x1 : Dt38) (x6 : Int) : Option (Int × Unit) :=
  let v1 := decide (x6 ≥ (0 : Int))
  bif v1 then ((fulcrumref01_at.F (x0, x6, ())).bind fun y2 =>
  (fulcrumref01_at.F (x1, x6, ())).bind fun y3 =>
  let v4 := decide (y2.1 < y3.1)
  bif v4 then (some ((-1 : Int), ()))
  else ((fulcrumref01_at.F (x0, x6, ())).bind fun y5 =>
  (fulcrumref01_at.F (x1, x6, ())).bind fun y6 =>
  let v7 := decide (y5.1 > y6.1)
  bif v7 then (some ((1 : Int), ()))
  else (let v8 := IntKind.i64.wrap (x6 - (1 : Int))
  f5 x0 x1 v8)))
  else (some ((0 : Int), ()))
noncomputable def fulcrumref01_Cmp.e (f5 : Dt38 → Dt38 → Int → Option (Int × Unit)) (a0 : Dt38) (a1 : Dt38) : Option (Int × Unit) :=
  let v1 := (List.length a0 : Int)
  let v2 := (List.length a1 : Int)
  let v3 := decide (v2 > v1)
  bif v3 then (let v4 := (List.length a1 : Int)
  let v5 := IntKind.i64.wrap (v4 - (1 : Int))
  f5 a0 a1 v5)
  else (let v6 := IntKind.i64.wrap (v1 - (1 : Int))
  f5 a0 a1 v6)
noncomputable def fulcrumref01_Cmp.L5 (k : Nat) (x0 : Dt38) (x1 : Dt38) (x6 : Int) : Option (Int × Unit) := heads (fulcrumref01_Cmp.spec.env fulcrumref01_Cmp.cals T Tryz.f93) (Func.pts Tryz.f93) k 5 (fulcrumref01_Cmp.m5 x0 x1 x6)
theorem fulcrumref01_Cmp.L5_succ (k : Nat) (x0 : Dt38) (x1 : Dt38) (x6 : Int) : fulcrumref01_Cmp.L5 (k + 1) x0 x1 x6 = fulcrumref01_Cmp.b5 (fulcrumref01_Cmp.L5 k) x0 x1 x6 := by kernel_rfl
theorem fulcrumref01_Cmp.eval (k : Nat) (a0 : Dt38) (a1 : Dt38) : evalF fulcrumref01_Cmp.spec fulcrumref01_Cmp.cals T Tryz.f93 k (a0, a1, ()) = fulcrumref01_Cmp.e (fulcrumref01_Cmp.L5 k) a0 a1 := by kernel_rfl
theorem fulcrumref01_Cmp.F_eq (a0 : Dt38) (a1 : Dt38) : fulcrumref01_Cmp.F (a0, a1, ()) = limF fulcrumref01_Cmp.spec fulcrumref01_Cmp.cals T Tryz.f93 (a0, a1, ()) := by kernel_rfl
theorem fulcrumref01_Cmp.of (k : Nat) (a0 : Dt38) (a1 : Dt38) {y : Int × Unit} (h : fulcrumref01_Cmp.e (fulcrumref01_Cmp.L5 k) a0 a1 = some y) : fulcrumref01_Cmp.F (a0, a1, ()) = some y := (fulcrumref01_Cmp.F_eq a0 a1).trans (limF_of (q := fulcrumref01_Cmp.spec) (C := fulcrumref01_Cmp.cals) (T := T) (f := Tryz.f93) (x := (a0, a1, ())) (y := y) k ((fulcrumref01_Cmp.eval k a0 a1).trans h))

def fulcrumref01_Bit.spec : Spec := ⟨[(false, Kt38), (false, (.int .i64))], [(false, .bool)], .own, fun j => match j with  | _ => []⟩
noncomputable def fulcrumref01_Bit.cals : Cals := (Cals.base tabs)
noncomputable def fulcrumref01_Bit.sig : Sig := fulcrumref01_Bit.spec.sig fulcrumref01_Bit.cals T Tryz.f94
noncomputable def fulcrumref01_Bit.F (x : Dt38 × Int × Unit) : Option (Bool × Unit) := limF fulcrumref01_Bit.spec fulcrumref01_Bit.cals T Tryz.f94 x
theorem fulcrumref01_Bit.ck : CalsOk Tryz.prog fulcrumref01_Bit.cals := (CalsOk.base tabsOk)
theorem fulcrumref01_Bit.cal : CalOk Tryz.prog tabs 94 fulcrumref01_Bit.sig := calOk_lim' tabOk fulcrumref01_Bit.ck mix Tryz.func94 (by kernel_rfl) (by kernel_rfl) (by kernel_rfl) (by kernel_rfl)
noncomputable def fulcrumref01_Bit.e  (a0 : Dt38) (a1 : Int) : Option (Bool × Unit) :=
  let v1 := decide (a1 ≥ (0 : Int))
  bif v1 then (bif decide ((32 : Int) = 0) then none
  else (let v2 := IntKind.i64.wrap (Int.tdiv a1 (32 : Int))
  let v3 := (List.length a0 : Int)
  let v4 := decide (v2 < v3)
  bif v4 then (bif decide ((32 : Int) = 0) then none
  else (let v5 := IntKind.i64.wrap (Int.tdiv a1 (32 : Int))
  bif decide (0 ≤ v5) && decide (v5 < (List.length a0 : Int)) then (let v6 := List.getD a0 (Int.toNat v5) (0 : Int)
  bif decide ((32 : Int) = 0) then none
  else (let v7 := Int.tmod a1 (32 : Int)
  let v8 := IntKind.u64.wrap v7
  bif decide (v8 < 0) then none
  else (let v9 := shrI .u32 v6 v8
  let v10 := bitsOp .and .u32 v9 (1 : Int)
  let v11 := (v10 == (1 : Int))
  some (v11, ()))))
  else none))
  else (some (false, ()))))
  else (some (false, ()))
theorem fulcrumref01_Bit.eval (k : Nat) (a0 : Dt38) (a1 : Int) : evalF fulcrumref01_Bit.spec fulcrumref01_Bit.cals T Tryz.f94 k (a0, a1, ()) = fulcrumref01_Bit.e  a0 a1 := by kernel_rfl
theorem fulcrumref01_Bit.F_eq (a0 : Dt38) (a1 : Int) : fulcrumref01_Bit.F (a0, a1, ()) = limF fulcrumref01_Bit.spec fulcrumref01_Bit.cals T Tryz.f94 (a0, a1, ()) := by kernel_rfl
theorem fulcrumref01_Bit.of (k : Nat) (a0 : Dt38) (a1 : Int) {y : Bool × Unit} (h : fulcrumref01_Bit.e  a0 a1 = some y) : fulcrumref01_Bit.F (a0, a1, ()) = some y := (fulcrumref01_Bit.F_eq a0 a1).trans (limF_of (q := fulcrumref01_Bit.spec) (C := fulcrumref01_Bit.cals) (T := T) (f := Tryz.f94) (x := (a0, a1, ())) (y := y) k ((fulcrumref01_Bit.eval k a0 a1).trans h))

def fulcrumref01_Shift.spec : Spec := ⟨[(false, Kt38), (false, (.int .i64))], [(false, Kt38), (false, (.int .i64))], .own, fun j => match j with | 15 => [(0, .lf (.z 114 (.int .u32) false)), (6, .lf (.v true)), (7, .lf (.o 114 (.int .u32) true)), (8, .lf (.v true)), (9, .lf (.v true)), (10, .lf (.v true))] | _ => []⟩
noncomputable def fulcrumref01_Shift.cals : Cals := (Cals.cons 80 fulcrumref01_Norm.sig (Cals.base tabs))
noncomputable def fulcrumref01_Shift.sig : Sig := fulcrumref01_Shift.spec.sig fulcrumref01_Shift.cals T Tryz.f95
noncomputable def fulcrumref01_Shift.F (x : Dt38 × Int × Unit) : Option (Dt38 × Int × Unit) := limF fulcrumref01_Shift.spec fulcrumref01_Shift.cals T Tryz.f95 x
theorem fulcrumref01_Shift.ck : CalsOk Tryz.prog fulcrumref01_Shift.cals := (CalsOk.cons fulcrumref01_Norm.cal (CalsOk.base tabsOk))
theorem fulcrumref01_Shift.cal : CalOk Tryz.prog tabs 95 fulcrumref01_Shift.sig := calOk_lim' tabOk fulcrumref01_Shift.ck mix Tryz.func95 (by kernel_rfl) (by kernel_rfl) (by kernel_rfl) (by kernel_rfl)
def fulcrumref01_Shift.m15 (x0 : Dt38) (x6 : Int) (x7 : Dt38) (x8 : Int) (x9 : Int) (x10 : Int) : S := ⟨[(0, .one (.lf (.val false Kt38 x0))), (6, .one (.lf (.val true (.int .i64) x6))), (7, .one (.lf (.own 0))), (8, .one (.lf (.val true (.int .i64) x8))), (9, .one (.lf (.val true (.int .i64) x9))), (10, .one (.lf (.val true (.int .i64) x10)))], ⟨[some ⟨114, (.int .u32), true, true, x7⟩], []⟩⟩
noncomputable def fulcrumref01_Shift.b15 (f15 : Dt38 → Int → Dt38 → Int → Int → Int → Option (Dt38 × Int × Unit)) (x0 : Dt38) (x6 : Int) (x7 : Dt38) (x8 : Int) (x9 : Int) (x10 : Int) : Option (Dt38 × Int × Unit) :=
  let v1 := (List.length x0 : Int)
  let v2 := decide (x10 < v1)
  bif v2 then (bif decide (0 ≤ x10) && decide (x10 < (List.length x0 : Int)) then (let v3 := List.getD x0 (Int.toNat x10) (0 : Int)
  let v4 := IntKind.u64.wrap v3
  let v5 := IntKind.u64.wrap x9
  bif decide (v5 < 0) then none
  else (let v6 := shlI .u64 v4 v5
  let v7 := IntKind.i64.wrap (x10 + x8)
  let v8 := decide (v7 ≥ (0 : Int))
  bif v8 then (let v9 := IntKind.i64.wrap (x10 + x8)
  let v10 := decide (v9 < x6)
  bif v10 then (let v11 := IntKind.i64.wrap (x10 + x8)
  bif decide (0 ≤ v11) && decide (v11 < (List.length x7 : Int)) then (let v12 := List.getD x7 (Int.toNat v11) (0 : Int)
  let v13 := IntKind.u32.wrap v6
  let v14 := bitsOp .or .u32 v12 v13
  bif decide (0 ≤ v11) && decide (v11 < (List.length x7 : Int)) then (let v15 := List.set x7 (Int.toNat v11) v14
  let v16 := IntKind.i64.wrap (x10 + x8)
  let v17 := IntKind.i64.wrap (v16 + (1 : Int))
  let v18 := decide (v17 ≥ (0 : Int))
  bif v18 then (let v19 := IntKind.i64.wrap (x10 + x8)
  let v20 := IntKind.i64.wrap (v19 + (1 : Int))
  let v21 := decide (v20 < x6)
  bif v21 then (let v22 := IntKind.i64.wrap (x10 + x8)
  let v23 := IntKind.i64.wrap (v22 + (1 : Int))
  bif decide (0 ≤ v23) && decide (v23 < (List.length v15 : Int)) then (let v24 := List.getD v15 (Int.toNat v23) (0 : Int)
  bif decide ((32 : Int) < 0) then none
  else (let v25 := shrI .u64 v6 (32 : Int)
  let v26 := IntKind.u32.wrap v25
  let v27 := bitsOp .or .u32 v24 v26
  bif decide (0 ≤ v23) && decide (v23 < (List.length v15 : Int)) then (let v28 := List.set v15 (Int.toNat v23) v27
  let v29 := IntKind.i64.wrap (x10 + (1 : Int))
  f15 x0 x6 v28 x8 x9 v29)
  else none))
  else none)
  else (let v30 := IntKind.i64.wrap (x10 + (1 : Int))
  f15 x0 x6 v15 x8 x9 v30))
  else (let v31 := IntKind.i64.wrap (x10 + (1 : Int))
  f15 x0 x6 v15 x8 x9 v31))
  else none)
  else none)
  else (let v32 := IntKind.i64.wrap (x10 + x8)
  let v33 := IntKind.i64.wrap (v32 + (1 : Int))
  let v34 := decide (v33 ≥ (0 : Int))
  bif v34 then (let v35 := IntKind.i64.wrap (x10 + x8)
  let v36 := IntKind.i64.wrap (v35 + (1 : Int))
  let v37 := decide (v36 < x6)
  bif v37 then (let v38 := IntKind.i64.wrap (x10 + x8)
  let v39 := IntKind.i64.wrap (v38 + (1 : Int))
  bif decide (0 ≤ v39) && decide (v39 < (List.length x7 : Int)) then (let v40 := List.getD x7 (Int.toNat v39) (0 : Int)
  bif decide ((32 : Int) < 0) then none
  else (let v41 := shrI .u64 v6 (32 : Int)
  let v42 := IntKind.u32.wrap v41
  let v43 := bitsOp .or .u32 v40 v42
  bif decide (0 ≤ v39) && decide (v39 < (List.length x7 : Int)) then (let v44 := List.set x7 (Int.toNat v39) v43
  let v45 := IntKind.i64.wrap (x10 + (1 : Int))
  f15 x0 x6 v44 x8 x9 v45)
  else none))
  else none)
  else (let v46 := IntKind.i64.wrap (x10 + (1 : Int))
  f15 x0 x6 x7 x8 x9 v46))
  else (let v47 := IntKind.i64.wrap (x10 + (1 : Int))
  f15 x0 x6 x7 x8 x9 v47)))
  else (let v48 := IntKind.i64.wrap (x10 + x8)
  let v49 := IntKind.i64.wrap (v48 + (1 : Int))
  let v50 := decide (v49 ≥ (0 : Int))
  bif v50 then (let v51 := IntKind.i64.wrap (x10 + x8)
  let v52 := IntKind.i64.wrap (v51 + (1 : Int))
  let v53 := decide (v52 < x6)
  bif v53 then (let v54 := IntKind.i64.wrap (x10 + x8)
  let v55 := IntKind.i64.wrap (v54 + (1 : Int))
  bif decide (0 ≤ v55) && decide (v55 < (List.length x7 : Int)) then (let v56 := List.getD x7 (Int.toNat v55) (0 : Int)
  bif decide ((32 : Int) < 0) then none
  else (let v57 := shrI .u64 v6 (32 : Int)
  let v58 := IntKind.u32.wrap v57
  let v59 := bitsOp .or .u32 v56 v58
  bif decide (0 ≤ v55) && decide (v55 < (List.length x7 : Int)) then (let v60 := List.set x7 (Int.toNat v55) v59
  let v61 := IntKind.i64.wrap (x10 + (1 : Int))
  f15 x0 x6 v60 x8 x9 v61)
  else none))
  else none)
  else (let v62 := IntKind.i64.wrap (x10 + (1 : Int))
  f15 x0 x6 x7 x8 x9 v62))
  else (let v63 := IntKind.i64.wrap (x10 + (1 : Int))
  f15 x0 x6 x7 x8 x9 v63))))
  else none)
  else ((fulcrumref01_Norm.F (x7, ())).bind fun y64 =>
  some (y64.1, (0 : Int), ()))
noncomputable def fulcrumref01_Shift.e (f15 : Dt38 → Int → Dt38 → Int → Int → Int → Option (Dt38 × Int × Unit)) (a0 : Dt38) (a1 : Int) : Option (Dt38 × Int × Unit) :=
  let v1 := decide (a1 < (-1048576 : Int))
  bif v1 then (some (zt38, (12 : Int), ()))
  else (let v2 := decide (a1 > (1048576 : Int))
  bif v2 then (some (zt38, (12 : Int), ()))
  else ((fulcrumref01_Norm.F (a0, ())).bind fun y3 =>
  let v4 := (List.length y3.1 : Int)
  let v5 := (v4 == (0 : Int))
  bif v5 then (let v6 := zt38
  some (v6, (0 : Int), ()))
  else (let v7 := (List.length a0 : Int)
  let v8 := decide (a1 > (0 : Int))
  bif v8 then (bif decide ((32 : Int) = 0) then none
  else (let v9 := IntKind.i64.wrap (Int.tdiv a1 (32 : Int))
  let v10 := IntKind.i64.wrap (v9 + (1 : Int))
  let v11 := IntKind.i64.wrap (v7 + v10)
  bif decide (0 ≤ v11) && (decide (v11 ≤ v11) && (decide (Int.toNat v11 * 4 ≤ 281474976710656) && Nat.blt 0 4)) then (let v12 := List.replicate (Int.toNat v11) (0 : Int)
  bif decide ((32 : Int) = 0) then none
  else (let v13 := IntKind.i64.wrap (Int.tdiv a1 (32 : Int))
  bif decide ((32 : Int) = 0) then none
  else (let v14 := Int.tmod a1 (32 : Int)
  let v15 := decide (v14 < (0 : Int))
  bif v15 then (let v16 := IntKind.i64.wrap (v13 - (1 : Int))
  let v17 := IntKind.i64.wrap (v14 + (32 : Int))
  f15 a0 v11 v12 v16 v17 (0 : Int))
  else (f15 a0 v11 v12 v13 v14 (0 : Int)))))
  else none))
  else (bif decide (0 ≤ v7) && (decide (v7 ≤ v7) && (decide (Int.toNat v7 * 4 ≤ 281474976710656) && Nat.blt 0 4)) then (let v18 := List.replicate (Int.toNat v7) (0 : Int)
  bif decide ((32 : Int) = 0) then none
  else (let v19 := IntKind.i64.wrap (Int.tdiv a1 (32 : Int))
  bif decide ((32 : Int) = 0) then none
  else (let v20 := Int.tmod a1 (32 : Int)
  let v21 := decide (v20 < (0 : Int))
  bif v21 then (let v22 := IntKind.i64.wrap (v19 - (1 : Int))
  let v23 := IntKind.i64.wrap (v20 + (32 : Int))
  f15 a0 v7 v18 v22 v23 (0 : Int))
  else (f15 a0 v7 v18 v19 v20 (0 : Int)))))
  else none))))
noncomputable def fulcrumref01_Shift.L15 (k : Nat) (x0 : Dt38) (x6 : Int) (x7 : Dt38) (x8 : Int) (x9 : Int) (x10 : Int) : Option (Dt38 × Int × Unit) := heads (fulcrumref01_Shift.spec.env fulcrumref01_Shift.cals T Tryz.f95) (Func.pts Tryz.f95) k 15 (fulcrumref01_Shift.m15 x0 x6 x7 x8 x9 x10)
theorem fulcrumref01_Shift.L15_succ (k : Nat) (x0 : Dt38) (x6 : Int) (x7 : Dt38) (x8 : Int) (x9 : Int) (x10 : Int) : fulcrumref01_Shift.L15 (k + 1) x0 x6 x7 x8 x9 x10 = fulcrumref01_Shift.b15 (fulcrumref01_Shift.L15 k) x0 x6 x7 x8 x9 x10 := by kernel_rfl
theorem fulcrumref01_Shift.eval (k : Nat) (a0 : Dt38) (a1 : Int) : evalF fulcrumref01_Shift.spec fulcrumref01_Shift.cals T Tryz.f95 k (a0, a1, ()) = fulcrumref01_Shift.e (fulcrumref01_Shift.L15 k) a0 a1 := by kernel_rfl
theorem fulcrumref01_Shift.F_eq (a0 : Dt38) (a1 : Int) : fulcrumref01_Shift.F (a0, a1, ()) = limF fulcrumref01_Shift.spec fulcrumref01_Shift.cals T Tryz.f95 (a0, a1, ()) := by kernel_rfl
theorem fulcrumref01_Shift.of (k : Nat) (a0 : Dt38) (a1 : Int) {y : Dt38 × Int × Unit} (h : fulcrumref01_Shift.e (fulcrumref01_Shift.L15 k) a0 a1 = some y) : fulcrumref01_Shift.F (a0, a1, ()) = some y := (fulcrumref01_Shift.F_eq a0 a1).trans (limF_of (q := fulcrumref01_Shift.spec) (C := fulcrumref01_Shift.cals) (T := T) (f := Tryz.f95) (x := (a0, a1, ())) (y := y) k ((fulcrumref01_Shift.eval k a0 a1).trans h))

def fulcrumref01_Sub.spec : Spec := ⟨[(false, Kt38), (false, Kt38)], [(false, Kt38), (false, (.int .i64))], .own, fun j => match j with | 6 => [(0, .lf (.z 114 (.int .u32) false)), (1, .lf (.z 114 (.int .u32) false)), (6, .lf (.o 114 (.int .u32) true)), (7, .lf (.v true)), (8, .lf (.v true))] | _ => []⟩
noncomputable def fulcrumref01_Sub.cals : Cals := (Cals.cons 93 fulcrumref01_Cmp.sig (Cals.cons 103 fulcrumref01_at.sig (Cals.cons 80 fulcrumref01_Norm.sig (Cals.base tabs))))
noncomputable def fulcrumref01_Sub.sig : Sig := fulcrumref01_Sub.spec.sig fulcrumref01_Sub.cals T Tryz.f96
noncomputable def fulcrumref01_Sub.F (x : Dt38 × Dt38 × Unit) : Option (Dt38 × Int × Unit) := limF fulcrumref01_Sub.spec fulcrumref01_Sub.cals T Tryz.f96 x
theorem fulcrumref01_Sub.ck : CalsOk Tryz.prog fulcrumref01_Sub.cals := (CalsOk.cons fulcrumref01_Cmp.cal (CalsOk.cons fulcrumref01_at.cal (CalsOk.cons fulcrumref01_Norm.cal (CalsOk.base tabsOk))))
theorem fulcrumref01_Sub.cal : CalOk Tryz.prog tabs 96 fulcrumref01_Sub.sig := calOk_lim' tabOk fulcrumref01_Sub.ck mix Tryz.func96 (by kernel_rfl) (by kernel_rfl) (by kernel_rfl) (by kernel_rfl)
def fulcrumref01_Sub.m6 (x0 : Dt38) (x1 : Dt38) (x6 : Dt38) (x7 : Int) (x8 : Int) : S := ⟨[(0, .one (.lf (.val false Kt38 x0))), (1, .one (.lf (.val false Kt38 x1))), (6, .one (.lf (.own 0))), (7, .one (.lf (.val true (.int .u64) x7))), (8, .one (.lf (.val true (.int .i64) x8)))], ⟨[some ⟨114, (.int .u32), true, true, x6⟩], []⟩⟩
noncomputable def fulcrumref01_Sub.b6 (f6 : Dt38 → Dt38 → Dt38 → Int → Int → Option (Dt38 × Int × Unit)) (x0 : Dt38) (x1 : Dt38) (x6 : Dt38) (x7 : Int) (x8 : Int) : Option (Dt38 × Int × Unit) :=
  let v1 := (List.length x0 : Int)
  let v2 := decide (x8 < v1)
  bif v2 then ((fulcrumref01_at.F (x0, x8, ())).bind fun y3 =>
  (fulcrumref01_at.F (x1, x8, ())).bind fun y4 =>
  let v5 := IntKind.u64.wrap (y3.1 - y4.1)
  let v6 := IntKind.u64.wrap (v5 - x7)
  let v7 := IntKind.u32.wrap v6
  bif decide (0 ≤ x8) && decide (x8 < (List.length x6 : Int)) then (let v8 := List.set x6 (Int.toNat x8) v7
  bif decide ((63 : Int) < 0) then none
  else (let v9 := shrI .u64 v6 (63 : Int)
  let v10 := IntKind.i64.wrap (x8 + (1 : Int))
  f6 x0 x1 v8 v9 v10))
  else none)
  else ((fulcrumref01_Norm.F (x6, ())).bind fun y11 =>
  some (y11.1, (0 : Int), ()))
noncomputable def fulcrumref01_Sub.e (f6 : Dt38 → Dt38 → Dt38 → Int → Int → Option (Dt38 × Int × Unit)) (a0 : Dt38) (a1 : Dt38) : Option (Dt38 × Int × Unit) :=
  (fulcrumref01_Cmp.F (a0, a1, ())).bind fun y1 =>
  let v2 := decide (y1.1 < (0 : Int))
  bif v2 then (some (zt38, (10 : Int), ()))
  else (let v3 := (List.length a0 : Int)
  bif decide (0 ≤ v3) && (decide (v3 ≤ v3) && (decide (Int.toNat v3 * 4 ≤ 281474976710656) && Nat.blt 0 4)) then (let v4 := List.replicate (Int.toNat v3) (0 : Int)
  f6 a0 a1 v4 (0 : Int) (0 : Int))
  else none)
noncomputable def fulcrumref01_Sub.L6 (k : Nat) (x0 : Dt38) (x1 : Dt38) (x6 : Dt38) (x7 : Int) (x8 : Int) : Option (Dt38 × Int × Unit) := heads (fulcrumref01_Sub.spec.env fulcrumref01_Sub.cals T Tryz.f96) (Func.pts Tryz.f96) k 6 (fulcrumref01_Sub.m6 x0 x1 x6 x7 x8)
theorem fulcrumref01_Sub.L6_succ (k : Nat) (x0 : Dt38) (x1 : Dt38) (x6 : Dt38) (x7 : Int) (x8 : Int) : fulcrumref01_Sub.L6 (k + 1) x0 x1 x6 x7 x8 = fulcrumref01_Sub.b6 (fulcrumref01_Sub.L6 k) x0 x1 x6 x7 x8 := by kernel_rfl
theorem fulcrumref01_Sub.eval (k : Nat) (a0 : Dt38) (a1 : Dt38) : evalF fulcrumref01_Sub.spec fulcrumref01_Sub.cals T Tryz.f96 k (a0, a1, ()) = fulcrumref01_Sub.e (fulcrumref01_Sub.L6 k) a0 a1 := by kernel_rfl
theorem fulcrumref01_Sub.F_eq (a0 : Dt38) (a1 : Dt38) : fulcrumref01_Sub.F (a0, a1, ()) = limF fulcrumref01_Sub.spec fulcrumref01_Sub.cals T Tryz.f96 (a0, a1, ()) := by kernel_rfl
theorem fulcrumref01_Sub.of (k : Nat) (a0 : Dt38) (a1 : Dt38) {y : Dt38 × Int × Unit} (h : fulcrumref01_Sub.e (fulcrumref01_Sub.L6 k) a0 a1 = some y) : fulcrumref01_Sub.F (a0, a1, ()) = some y := (fulcrumref01_Sub.F_eq a0 a1).trans (limF_of (q := fulcrumref01_Sub.spec) (C := fulcrumref01_Sub.cals) (T := T) (f := Tryz.f96) (x := (a0, a1, ())) (y := y) k ((fulcrumref01_Sub.eval k a0 a1).trans h))

def fulcrumref01_twice.spec : Spec := ⟨[(false, Kt38), (false, .bool)], [(false, Kt38)], .own, fun j => match j with | 6 => [(0, .lf (.z 114 (.int .u32) false)), (5, .lf (.o 114 (.int .u32) true)), (6, .lf (.v true)), (7, .lf (.v true))] | _ => []⟩
noncomputable def fulcrumref01_twice.cals : Cals := (Cals.cons 80 fulcrumref01_Norm.sig (Cals.base tabs))
noncomputable def fulcrumref01_twice.sig : Sig := fulcrumref01_twice.spec.sig fulcrumref01_twice.cals T Tryz.f97
noncomputable def fulcrumref01_twice.F (x : Dt38 × Bool × Unit) : Option (Dt38 × Unit) := limF fulcrumref01_twice.spec fulcrumref01_twice.cals T Tryz.f97 x
theorem fulcrumref01_twice.ck : CalsOk Tryz.prog fulcrumref01_twice.cals := (CalsOk.cons fulcrumref01_Norm.cal (CalsOk.base tabsOk))
theorem fulcrumref01_twice.cal : CalOk Tryz.prog tabs 97 fulcrumref01_twice.sig := calOk_lim' tabOk fulcrumref01_twice.ck mix Tryz.func97 (by kernel_rfl) (by kernel_rfl) (by kernel_rfl) (by kernel_rfl)
def fulcrumref01_twice.m6 (x0 : Dt38) (x5 : Dt38) (x6 : Int) (x7 : Int) : S := ⟨[(0, .one (.lf (.val false Kt38 x0))), (5, .one (.lf (.own 0))), (6, .one (.lf (.val true (.int .u32) x6))), (7, .one (.lf (.val true (.int .i64) x7)))], ⟨[some ⟨114, (.int .u32), true, true, x5⟩], []⟩⟩
noncomputable def fulcrumref01_twice.b6 (f6 : Dt38 → Dt38 → Int → Int → Option (Dt38 × Unit)) (x0 : Dt38) (x5 : Dt38) (x6 : Int) (x7 : Int) : Option (Dt38 × Unit) :=
  let v1 := (List.length x0 : Int)
  let v2 := decide (x7 < v1)
  bif v2 then (bif decide (0 ≤ x7) && decide (x7 < (List.length x0 : Int)) then (let v3 := List.getD x0 (Int.toNat x7) (0 : Int)
  bif decide ((1 : Int) < 0) then none
  else (let v4 := shlI .u32 v3 (1 : Int)
  let v5 := bitsOp .or .u32 v4 x6
  bif decide (0 ≤ x7) && decide (x7 < (List.length x5 : Int)) then (let v6 := List.set x5 (Int.toNat x7) v5
  bif decide (0 ≤ x7) && decide (x7 < (List.length x0 : Int)) then (let v7 := List.getD x0 (Int.toNat x7) (0 : Int)
  bif decide ((31 : Int) < 0) then none
  else (let v8 := shrI .u32 v7 (31 : Int)
  let v9 := IntKind.i64.wrap (x7 + (1 : Int))
  f6 x0 v6 v8 v9))
  else none)
  else none))
  else none)
  else (let v10 := (List.length x0 : Int)
  bif decide (0 ≤ v10) && decide (v10 < (List.length x5 : Int)) then (let v11 := List.set x5 (Int.toNat v10) x6
  (fulcrumref01_Norm.F (v11, ())).bind fun y12 =>
  some (y12.1, ()))
  else none)
noncomputable def fulcrumref01_twice.e (f6 : Dt38 → Dt38 → Int → Int → Option (Dt38 × Unit)) (a0 : Dt38) (a1 : Bool) : Option (Dt38 × Unit) :=
  let v1 := (List.length a0 : Int)
  let v2 := IntKind.i64.wrap (v1 + (1 : Int))
  bif decide (0 ≤ v2) && (decide (v2 ≤ v2) && (decide (Int.toNat v2 * 4 ≤ 281474976710656) && Nat.blt 0 4)) then (let v3 := List.replicate (Int.toNat v2) (0 : Int)
  bif a1 then (f6 a0 v3 (1 : Int) (0 : Int))
  else (f6 a0 v3 (0 : Int) (0 : Int)))
  else none
noncomputable def fulcrumref01_twice.L6 (k : Nat) (x0 : Dt38) (x5 : Dt38) (x6 : Int) (x7 : Int) : Option (Dt38 × Unit) := heads (fulcrumref01_twice.spec.env fulcrumref01_twice.cals T Tryz.f97) (Func.pts Tryz.f97) k 6 (fulcrumref01_twice.m6 x0 x5 x6 x7)
theorem fulcrumref01_twice.L6_succ (k : Nat) (x0 : Dt38) (x5 : Dt38) (x6 : Int) (x7 : Int) : fulcrumref01_twice.L6 (k + 1) x0 x5 x6 x7 = fulcrumref01_twice.b6 (fulcrumref01_twice.L6 k) x0 x5 x6 x7 := by kernel_rfl
theorem fulcrumref01_twice.eval (k : Nat) (a0 : Dt38) (a1 : Bool) : evalF fulcrumref01_twice.spec fulcrumref01_twice.cals T Tryz.f97 k (a0, a1, ()) = fulcrumref01_twice.e (fulcrumref01_twice.L6 k) a0 a1 := by kernel_rfl
theorem fulcrumref01_twice.F_eq (a0 : Dt38) (a1 : Bool) : fulcrumref01_twice.F (a0, a1, ()) = limF fulcrumref01_twice.spec fulcrumref01_twice.cals T Tryz.f97 (a0, a1, ()) := by kernel_rfl
theorem fulcrumref01_twice.of (k : Nat) (a0 : Dt38) (a1 : Bool) {y : Dt38 × Unit} (h : fulcrumref01_twice.e (fulcrumref01_twice.L6 k) a0 a1 = some y) : fulcrumref01_twice.F (a0, a1, ()) = some y := (fulcrumref01_twice.F_eq a0 a1).trans (limF_of (q := fulcrumref01_twice.spec) (C := fulcrumref01_twice.cals) (T := T) (f := Tryz.f97) (x := (a0, a1, ())) (y := y) k ((fulcrumref01_twice.eval k a0 a1).trans h))

def fulcrumref01_Gcd.spec : Spec := ⟨[(false, Kt38), (false, Kt38)], [(false, Kt38)], .own, fun j => match j with | 11 => [(0, .lf (.o 114 (.int .u32) true)), (1, .lf (.o 114 (.int .u32) true)), (6, .lf (.v true))] | 15 => [(0, .lf (.o 114 (.int .u32) true)), (1, .lf (.o 114 (.int .u32) true)), (6, .lf (.v true))] | 16 => [(0, .lf (.o 114 (.int .u32) true)), (1, .lf (.o 114 (.int .u32) true)), (6, .lf (.v true))] | 18 => [(0, .lf (.o 114 (.int .u32) true)), (1, .lf (.o 114 (.int .u32) true)), (6, .lf (.v true))] | 24 => [(0, .lf (.o 114 (.int .u32) true)), (6, .lf (.v true)), (7, .lf (.v true))] | _ => []⟩
noncomputable def fulcrumref01_Gcd.cals : Cals := (Cals.cons 80 fulcrumref01_Norm.sig (Cals.cons 93 fulcrumref01_Cmp.sig (Cals.cons 94 fulcrumref01_Bit.sig (Cals.cons 95 fulcrumref01_Shift.sig (Cals.cons 96 fulcrumref01_Sub.sig (Cals.cons 97 fulcrumref01_twice.sig (Cals.base tabs)))))))
noncomputable def fulcrumref01_Gcd.sig : Sig := fulcrumref01_Gcd.spec.sig fulcrumref01_Gcd.cals T Tryz.f81
noncomputable def fulcrumref01_Gcd.F (x : Dt38 × Dt38 × Unit) : Option (Dt38 × Unit) := limF fulcrumref01_Gcd.spec fulcrumref01_Gcd.cals T Tryz.f81 x
theorem fulcrumref01_Gcd.ck : CalsOk Tryz.prog fulcrumref01_Gcd.cals := (CalsOk.cons fulcrumref01_Norm.cal (CalsOk.cons fulcrumref01_Cmp.cal (CalsOk.cons fulcrumref01_Bit.cal (CalsOk.cons fulcrumref01_Shift.cal (CalsOk.cons fulcrumref01_Sub.cal (CalsOk.cons fulcrumref01_twice.cal (CalsOk.base tabsOk)))))))
theorem fulcrumref01_Gcd.cal : CalOk Tryz.prog tabs 81 fulcrumref01_Gcd.sig := calOk_lim' tabOk fulcrumref01_Gcd.ck mix Tryz.func81 (by kernel_rfl) (by kernel_rfl) (by kernel_rfl) (by kernel_rfl)
def fulcrumref01_Gcd.m11 (x0 : Dt38) (x1 : Dt38) (x6 : Int) : S := ⟨[(0, .one (.lf (.own 0))), (1, .one (.lf (.own 1))), (6, .one (.lf (.val true (.int .i64) x6)))], ⟨[some ⟨114, (.int .u32), true, true, x0⟩, some ⟨114, (.int .u32), true, true, x1⟩], []⟩⟩
def fulcrumref01_Gcd.m15 (x0 : Dt38) (x1 : Dt38) (x6 : Int) : S := ⟨[(0, .one (.lf (.own 0))), (1, .one (.lf (.own 1))), (6, .one (.lf (.val true (.int .i64) x6)))], ⟨[some ⟨114, (.int .u32), true, true, x0⟩, some ⟨114, (.int .u32), true, true, x1⟩], []⟩⟩
def fulcrumref01_Gcd.m16 (x0 : Dt38) (x1 : Dt38) (x6 : Int) : S := ⟨[(0, .one (.lf (.own 0))), (1, .one (.lf (.own 1))), (6, .one (.lf (.val true (.int .i64) x6)))], ⟨[some ⟨114, (.int .u32), true, true, x0⟩, some ⟨114, (.int .u32), true, true, x1⟩], []⟩⟩
def fulcrumref01_Gcd.m18 (x0 : Dt38) (x1 : Dt38) (x6 : Int) : S := ⟨[(0, .one (.lf (.own 0))), (1, .one (.lf (.own 1))), (6, .one (.lf (.val true (.int .i64) x6)))], ⟨[some ⟨114, (.int .u32), true, true, x0⟩, some ⟨114, (.int .u32), true, true, x1⟩], []⟩⟩
def fulcrumref01_Gcd.m24 (x0 : Dt38) (x6 : Int) (x7 : Int) : S := ⟨[(0, .one (.lf (.own 0))), (6, .one (.lf (.val true (.int .i64) x6))), (7, .one (.lf (.val true (.int .i64) x7)))], ⟨[some ⟨114, (.int .u32), true, true, x0⟩], []⟩⟩
noncomputable def fulcrumref01_Gcd.b11 (f11 : Dt38 → Dt38 → Int → Option (Dt38 × Unit)) (f15 : Dt38 → Dt38 → Int → Option (Dt38 × Unit)) (f16 : Dt38 → Dt38 → Int → Option (Dt38 × Unit)) (f18 : Dt38 → Dt38 → Int → Option (Dt38 × Unit)) (f24 : Dt38 → Int → Int → Option (Dt38 × Unit)) (x0 : Dt38) (x1 : Dt38) (x6 : Int) : Option (Dt38 × Unit) :=
  (fulcrumref01_Bit.F (x0, (0 : Int), ())).bind fun y1 =>
  let v2 := not y1.1
  bif v2 then ((fulcrumref01_Bit.F (x1, (0 : Int), ())).bind fun y3 =>
  let v4 := not y3.1
  bif v4 then ((fulcrumref01_Shift.F (x0, (-1 : Int), ())).bind fun y5 =>
  (fulcrumref01_Shift.F (x1, (-1 : Int), ())).bind fun y6 =>
  let v7 := IntKind.i64.wrap (x6 + (1 : Int))
  f11 y5.1 y6.1 v7)
  else (f15 x0 x1 x6))
  else (f15 x0 x1 x6)
noncomputable def fulcrumref01_Gcd.b15 (f11 : Dt38 → Dt38 → Int → Option (Dt38 × Unit)) (f15 : Dt38 → Dt38 → Int → Option (Dt38 × Unit)) (f16 : Dt38 → Dt38 → Int → Option (Dt38 × Unit)) (f18 : Dt38 → Dt38 → Int → Option (Dt38 × Unit)) (f24 : Dt38 → Int → Int → Option (Dt38 × Unit)) (x0 : Dt38) (x1 : Dt38) (x6 : Int) : Option (Dt38 × Unit) :=
  let v1 := (List.length x1 : Int)
  let v2 := decide (v1 > (0 : Int))
  bif v2 then (f16 x0 x1 x6)
  else (f24 x0 x6 (0 : Int))
noncomputable def fulcrumref01_Gcd.b16 (f11 : Dt38 → Dt38 → Int → Option (Dt38 × Unit)) (f15 : Dt38 → Dt38 → Int → Option (Dt38 × Unit)) (f16 : Dt38 → Dt38 → Int → Option (Dt38 × Unit)) (f18 : Dt38 → Dt38 → Int → Option (Dt38 × Unit)) (f24 : Dt38 → Int → Int → Option (Dt38 × Unit)) (x0 : Dt38) (x1 : Dt38) (x6 : Int) : Option (Dt38 × Unit) :=
  (fulcrumref01_Bit.F (x0, (0 : Int), ())).bind fun y1 =>
  let v2 := not y1.1
  bif v2 then ((fulcrumref01_Shift.F (x0, (-1 : Int), ())).bind fun y3 =>
  f16 y3.1 x1 x6)
  else (f18 x0 x1 x6)
noncomputable def fulcrumref01_Gcd.b18 (f11 : Dt38 → Dt38 → Int → Option (Dt38 × Unit)) (f15 : Dt38 → Dt38 → Int → Option (Dt38 × Unit)) (f16 : Dt38 → Dt38 → Int → Option (Dt38 × Unit)) (f18 : Dt38 → Dt38 → Int → Option (Dt38 × Unit)) (f24 : Dt38 → Int → Int → Option (Dt38 × Unit)) (x0 : Dt38) (x1 : Dt38) (x6 : Int) : Option (Dt38 × Unit) :=
  (fulcrumref01_Bit.F (x1, (0 : Int), ())).bind fun y1 =>
  let v2 := not y1.1
  bif v2 then ((fulcrumref01_Shift.F (x1, (-1 : Int), ())).bind fun y3 =>
  f18 x0 y3.1 x6)
  else ((fulcrumref01_Cmp.F (x0, x1, ())).bind fun y4 =>
  let v5 := decide (y4.1 > (0 : Int))
  bif v5 then ((fulcrumref01_Sub.F (x0, x1, ())).bind fun y6 =>
  f15 x1 y6.1 x6)
  else ((fulcrumref01_Sub.F (x1, x0, ())).bind fun y7 =>
  f15 x0 y7.1 x6))
noncomputable def fulcrumref01_Gcd.b24 (f11 : Dt38 → Dt38 → Int → Option (Dt38 × Unit)) (f15 : Dt38 → Dt38 → Int → Option (Dt38 × Unit)) (f16 : Dt38 → Dt38 → Int → Option (Dt38 × Unit)) (f18 : Dt38 → Dt38 → Int → Option (Dt38 × Unit)) (f24 : Dt38 → Int → Int → Option (Dt38 × Unit)) (x0 : Dt38) (x6 : Int) (x7 : Int) : Option (Dt38 × Unit) :=
  let v1 := decide (x7 < x6)
  bif v1 then ((fulcrumref01_twice.F (x0, false, ())).bind fun y2 =>
  let v3 := IntKind.i64.wrap (x7 + (1 : Int))
  f24 y2.1 x6 v3)
  else (some (x0, ()))
noncomputable def fulcrumref01_Gcd.e (f11 : Dt38 → Dt38 → Int → Option (Dt38 × Unit)) (f15 : Dt38 → Dt38 → Int → Option (Dt38 × Unit)) (f16 : Dt38 → Dt38 → Int → Option (Dt38 × Unit)) (f18 : Dt38 → Dt38 → Int → Option (Dt38 × Unit)) (f24 : Dt38 → Int → Int → Option (Dt38 × Unit)) (a0 : Dt38) (a1 : Dt38) : Option (Dt38 × Unit) :=
  (fulcrumref01_Norm.F (a0, ())).bind fun y1 =>
  (fulcrumref01_Norm.F (a1, ())).bind fun y2 =>
  let v3 := (List.length y1.1 : Int)
  let v4 := (v3 == (0 : Int))
  bif v4 then (some (y2.1, ()))
  else (let v5 := (List.length y2.1 : Int)
  let v6 := (v5 == (0 : Int))
  bif v6 then (some (y1.1, ()))
  else (let v7 := ([(1 : Int)] : List Int)
  (fulcrumref01_Cmp.F (y1.1, v7, ())).bind fun y8 =>
  let v9 := (y8.1 == (0 : Int))
  bif v9 then (some (v7, ()))
  else ((fulcrumref01_Cmp.F (y2.1, v7, ())).bind fun y10 =>
  let v11 := (y10.1 == (0 : Int))
  bif v11 then (some (v7, ()))
  else (f11 y1.1 y2.1 (0 : Int)))))
noncomputable def fulcrumref01_Gcd.L11 (k : Nat) (x0 : Dt38) (x1 : Dt38) (x6 : Int) : Option (Dt38 × Unit) := heads (fulcrumref01_Gcd.spec.env fulcrumref01_Gcd.cals T Tryz.f81) (Func.pts Tryz.f81) k 11 (fulcrumref01_Gcd.m11 x0 x1 x6)
noncomputable def fulcrumref01_Gcd.L15 (k : Nat) (x0 : Dt38) (x1 : Dt38) (x6 : Int) : Option (Dt38 × Unit) := heads (fulcrumref01_Gcd.spec.env fulcrumref01_Gcd.cals T Tryz.f81) (Func.pts Tryz.f81) k 15 (fulcrumref01_Gcd.m15 x0 x1 x6)
noncomputable def fulcrumref01_Gcd.L16 (k : Nat) (x0 : Dt38) (x1 : Dt38) (x6 : Int) : Option (Dt38 × Unit) := heads (fulcrumref01_Gcd.spec.env fulcrumref01_Gcd.cals T Tryz.f81) (Func.pts Tryz.f81) k 16 (fulcrumref01_Gcd.m16 x0 x1 x6)
noncomputable def fulcrumref01_Gcd.L18 (k : Nat) (x0 : Dt38) (x1 : Dt38) (x6 : Int) : Option (Dt38 × Unit) := heads (fulcrumref01_Gcd.spec.env fulcrumref01_Gcd.cals T Tryz.f81) (Func.pts Tryz.f81) k 18 (fulcrumref01_Gcd.m18 x0 x1 x6)
noncomputable def fulcrumref01_Gcd.L24 (k : Nat) (x0 : Dt38) (x6 : Int) (x7 : Int) : Option (Dt38 × Unit) := heads (fulcrumref01_Gcd.spec.env fulcrumref01_Gcd.cals T Tryz.f81) (Func.pts Tryz.f81) k 24 (fulcrumref01_Gcd.m24 x0 x6 x7)
theorem fulcrumref01_Gcd.L11_succ (k : Nat) (x0 : Dt38) (x1 : Dt38) (x6 : Int) : fulcrumref01_Gcd.L11 (k + 1) x0 x1 x6 = fulcrumref01_Gcd.b11 (fulcrumref01_Gcd.L11 k) (fulcrumref01_Gcd.L15 k) (fulcrumref01_Gcd.L16 k) (fulcrumref01_Gcd.L18 k) (fulcrumref01_Gcd.L24 k) x0 x1 x6 := by kernel_rfl
theorem fulcrumref01_Gcd.L15_succ (k : Nat) (x0 : Dt38) (x1 : Dt38) (x6 : Int) : fulcrumref01_Gcd.L15 (k + 1) x0 x1 x6 = fulcrumref01_Gcd.b15 (fulcrumref01_Gcd.L11 k) (fulcrumref01_Gcd.L15 k) (fulcrumref01_Gcd.L16 k) (fulcrumref01_Gcd.L18 k) (fulcrumref01_Gcd.L24 k) x0 x1 x6 := by kernel_rfl
theorem fulcrumref01_Gcd.L16_succ (k : Nat) (x0 : Dt38) (x1 : Dt38) (x6 : Int) : fulcrumref01_Gcd.L16 (k + 1) x0 x1 x6 = fulcrumref01_Gcd.b16 (fulcrumref01_Gcd.L11 k) (fulcrumref01_Gcd.L15 k) (fulcrumref01_Gcd.L16 k) (fulcrumref01_Gcd.L18 k) (fulcrumref01_Gcd.L24 k) x0 x1 x6 := by kernel_rfl
theorem fulcrumref01_Gcd.L18_succ (k : Nat) (x0 : Dt38) (x1 : Dt38) (x6 : Int) : fulcrumref01_Gcd.L18 (k + 1) x0 x1 x6 = fulcrumref01_Gcd.b18 (fulcrumref01_Gcd.L11 k) (fulcrumref01_Gcd.L15 k) (fulcrumref01_Gcd.L16 k) (fulcrumref01_Gcd.L18 k) (fulcrumref01_Gcd.L24 k) x0 x1 x6 := by kernel_rfl
theorem fulcrumref01_Gcd.L24_succ (k : Nat) (x0 : Dt38) (x6 : Int) (x7 : Int) : fulcrumref01_Gcd.L24 (k + 1) x0 x6 x7 = fulcrumref01_Gcd.b24 (fulcrumref01_Gcd.L11 k) (fulcrumref01_Gcd.L15 k) (fulcrumref01_Gcd.L16 k) (fulcrumref01_Gcd.L18 k) (fulcrumref01_Gcd.L24 k) x0 x6 x7 := by kernel_rfl
theorem fulcrumref01_Gcd.eval (k : Nat) (a0 : Dt38) (a1 : Dt38) : evalF fulcrumref01_Gcd.spec fulcrumref01_Gcd.cals T Tryz.f81 k (a0, a1, ()) = fulcrumref01_Gcd.e (fulcrumref01_Gcd.L11 k) (fulcrumref01_Gcd.L15 k) (fulcrumref01_Gcd.L16 k) (fulcrumref01_Gcd.L18 k) (fulcrumref01_Gcd.L24 k) a0 a1 := by kernel_rfl
theorem fulcrumref01_Gcd.F_eq (a0 : Dt38) (a1 : Dt38) : fulcrumref01_Gcd.F (a0, a1, ()) = limF fulcrumref01_Gcd.spec fulcrumref01_Gcd.cals T Tryz.f81 (a0, a1, ()) := by kernel_rfl
theorem fulcrumref01_Gcd.of (k : Nat) (a0 : Dt38) (a1 : Dt38) {y : Dt38 × Unit} (h : fulcrumref01_Gcd.e (fulcrumref01_Gcd.L11 k) (fulcrumref01_Gcd.L15 k) (fulcrumref01_Gcd.L16 k) (fulcrumref01_Gcd.L18 k) (fulcrumref01_Gcd.L24 k) a0 a1 = some y) : fulcrumref01_Gcd.F (a0, a1, ()) = some y := (fulcrumref01_Gcd.F_eq a0 a1).trans (limF_of (q := fulcrumref01_Gcd.spec) (C := fulcrumref01_Gcd.cals) (T := T) (f := Tryz.f81) (x := (a0, a1, ())) (y := y) k ((fulcrumref01_Gcd.eval k a0 a1).trans h))

def fulcrumref01_Div.spec : Spec := ⟨[(false, Kt38), (false, Kt38)], [(false, Kt38), (false, Kt38), (false, (.int .i64))], .own, fun j => match j with | 11 => [(0, .lf (.z 114 (.int .u32) true)), (1, .lf (.o 114 (.int .u32) true)), (7, .lf (.o 114 (.int .u32) true)), (9, .lf (.o 114 (.int .u32) true)), (10, .lf (.v true))] | _ => []⟩
noncomputable def fulcrumref01_Div.cals : Cals := (Cals.cons 80 fulcrumref01_Norm.sig (Cals.cons 94 fulcrumref01_Bit.sig (Cals.cons 97 fulcrumref01_twice.sig (Cals.cons 93 fulcrumref01_Cmp.sig (Cals.cons 96 fulcrumref01_Sub.sig (Cals.base tabs))))))
noncomputable def fulcrumref01_Div.sig : Sig := fulcrumref01_Div.spec.sig fulcrumref01_Div.cals T Tryz.f82
noncomputable def fulcrumref01_Div.F (x : Dt38 × Dt38 × Unit) : Option (Dt38 × Dt38 × Int × Unit) := limF fulcrumref01_Div.spec fulcrumref01_Div.cals T Tryz.f82 x
theorem fulcrumref01_Div.ck : CalsOk Tryz.prog fulcrumref01_Div.cals := (CalsOk.cons fulcrumref01_Norm.cal (CalsOk.cons fulcrumref01_Bit.cal (CalsOk.cons fulcrumref01_twice.cal (CalsOk.cons fulcrumref01_Cmp.cal (CalsOk.cons fulcrumref01_Sub.cal (CalsOk.base tabsOk))))))
theorem fulcrumref01_Div.cal : CalOk Tryz.prog tabs 82 fulcrumref01_Div.sig := calOk_lim' tabOk fulcrumref01_Div.ck mix Tryz.func82 (by kernel_rfl) (by kernel_rfl) (by kernel_rfl) (by kernel_rfl)
def fulcrumref01_Div.m11 (x0 : Dt38) (x1 : Dt38) (x7 : Dt38) (x9 : Dt38) (x10 : Int) : S := ⟨[(0, .one (.lf (.val true Kt38 x0))), (1, .one (.lf (.own 0))), (7, .one (.lf (.own 1))), (9, .one (.lf (.own 2))), (10, .one (.lf (.val true (.int .i64) x10)))], ⟨[some ⟨114, (.int .u32), true, true, x1⟩, some ⟨114, (.int .u32), true, true, x7⟩, some ⟨114, (.int .u32), true, true, x9⟩], []⟩⟩
noncomputable def fulcrumref01_Div.b11 (f11 : Dt38 → Dt38 → Dt38 → Dt38 → Int → Option (Dt38 × Dt38 × Int × Unit)) (x0 : Dt38) (x1 : Dt38) (x7 : Dt38) (x9 : Dt38) (x10 : Int) : Option (Dt38 × Dt38 × Int × Unit) :=
  let v1 := decide (x10 ≥ (0 : Int))
  bif v1 then ((fulcrumref01_Bit.F (x0, x10, ())).bind fun y2 =>
  (fulcrumref01_twice.F (x9, y2.1, ())).bind fun y3 =>
  (fulcrumref01_Cmp.F (y3.1, x1, ())).bind fun y4 =>
  let v5 := decide (y4.1 ≥ (0 : Int))
  bif v5 then ((fulcrumref01_Sub.F (y3.1, x1, ())).bind fun y6 =>
  bif decide ((32 : Int) = 0) then none
  else (let v7 := IntKind.i64.wrap (Int.tdiv x10 (32 : Int))
  bif decide (0 ≤ v7) && decide (v7 < (List.length x7 : Int)) then (let v8 := List.getD x7 (Int.toNat v7) (0 : Int)
  bif decide ((32 : Int) = 0) then none
  else (let v9 := Int.tmod x10 (32 : Int)
  let v10 := IntKind.u64.wrap v9
  bif decide (v10 < 0) then none
  else (let v11 := shlI .u32 (1 : Int) v10
  let v12 := bitsOp .or .u32 v8 v11
  bif decide (0 ≤ v7) && decide (v7 < (List.length x7 : Int)) then (let v13 := List.set x7 (Int.toNat v7) v12
  let v14 := IntKind.i64.wrap (x10 - (1 : Int))
  f11 x0 x1 v13 y6.1 v14)
  else none)))
  else none))
  else (let v15 := IntKind.i64.wrap (x10 - (1 : Int))
  f11 x0 x1 x7 y3.1 v15))
  else ((fulcrumref01_Norm.F (x7, ())).bind fun y16 =>
  some (y16.1, x9, (0 : Int), ()))
noncomputable def fulcrumref01_Div.e (f11 : Dt38 → Dt38 → Dt38 → Dt38 → Int → Option (Dt38 × Dt38 × Int × Unit)) (a0 : Dt38) (a1 : Dt38) : Option (Dt38 × Dt38 × Int × Unit) :=
  (fulcrumref01_Norm.F (a1, ())).bind fun y1 =>
  let v2 := (List.length y1.1 : Int)
  let v3 := (v2 == (0 : Int))
  bif v3 then (some (zt38, zt38, (11 : Int), ()))
  else ((fulcrumref01_Norm.F (a0, ())).bind fun y4 =>
  let v5 := (List.length y4.1 : Int)
  bif decide (0 ≤ v5) && (decide (v5 ≤ v5) && (decide (Int.toNat v5 * 4 ≤ 281474976710656) && Nat.blt 0 4)) then (let v6 := List.replicate (Int.toNat v5) (0 : Int)
  let v7 := (List.length y1.1 : Int)
  let v8 := IntKind.i64.wrap (v7 - (1 : Int))
  let v9 := (List.length y4.1 : Int)
  let v10 := decide (v8 > v9)
  bif v10 then (let v11 := (List.length y4.1 : Int)
  let v12 := (List.length y4.1 : Int)
  let v13 := IntKind.i64.wrap (v12 - v11)
  bif decide (0 ≤ v13) && decide (v13 ≤ (List.length y4.1 : Int)) then (let v14 := List.drop (Int.toNat v13) y4.1
  (fulcrumref01_Norm.F (v14, ())).bind fun y15 =>
  let v16 := (List.length y4.1 : Int)
  let v17 := IntKind.i64.wrap (v16 - v11)
  let v18 := IntKind.i64.wrap ((32 : Int) * v17)
  let v19 := IntKind.i64.wrap (v18 - (1 : Int))
  f11 y4.1 y1.1 v6 y15.1 v19)
  else none)
  else (let v20 := (List.length y4.1 : Int)
  let v21 := IntKind.i64.wrap (v20 - v8)
  bif decide (0 ≤ v21) && decide (v21 ≤ (List.length y4.1 : Int)) then (let v22 := List.drop (Int.toNat v21) y4.1
  (fulcrumref01_Norm.F (v22, ())).bind fun y23 =>
  let v24 := (List.length y4.1 : Int)
  let v25 := IntKind.i64.wrap (v24 - v8)
  let v26 := IntKind.i64.wrap ((32 : Int) * v25)
  let v27 := IntKind.i64.wrap (v26 - (1 : Int))
  f11 y4.1 y1.1 v6 y23.1 v27)
  else none))
  else none)
noncomputable def fulcrumref01_Div.L11 (k : Nat) (x0 : Dt38) (x1 : Dt38) (x7 : Dt38) (x9 : Dt38) (x10 : Int) : Option (Dt38 × Dt38 × Int × Unit) := heads (fulcrumref01_Div.spec.env fulcrumref01_Div.cals T Tryz.f82) (Func.pts Tryz.f82) k 11 (fulcrumref01_Div.m11 x0 x1 x7 x9 x10)
theorem fulcrumref01_Div.L11_succ (k : Nat) (x0 : Dt38) (x1 : Dt38) (x7 : Dt38) (x9 : Dt38) (x10 : Int) : fulcrumref01_Div.L11 (k + 1) x0 x1 x7 x9 x10 = fulcrumref01_Div.b11 (fulcrumref01_Div.L11 k) x0 x1 x7 x9 x10 := by kernel_rfl
theorem fulcrumref01_Div.eval (k : Nat) (a0 : Dt38) (a1 : Dt38) : evalF fulcrumref01_Div.spec fulcrumref01_Div.cals T Tryz.f82 k (a0, a1, ()) = fulcrumref01_Div.e (fulcrumref01_Div.L11 k) a0 a1 := by kernel_rfl
theorem fulcrumref01_Div.F_eq (a0 : Dt38) (a1 : Dt38) : fulcrumref01_Div.F (a0, a1, ()) = limF fulcrumref01_Div.spec fulcrumref01_Div.cals T Tryz.f82 (a0, a1, ()) := by kernel_rfl
theorem fulcrumref01_Div.of (k : Nat) (a0 : Dt38) (a1 : Dt38) {y : Dt38 × Dt38 × Int × Unit} (h : fulcrumref01_Div.e (fulcrumref01_Div.L11 k) a0 a1 = some y) : fulcrumref01_Div.F (a0, a1, ()) = some y := (fulcrumref01_Div.F_eq a0 a1).trans (limF_of (q := fulcrumref01_Div.spec) (C := fulcrumref01_Div.cals) (T := T) (f := Tryz.f82) (x := (a0, a1, ())) (y := y) k ((fulcrumref01_Div.eval k a0 a1).trans h))

def fulcrumref03_Norm.spec : Spec := ⟨[(true, Kt42)], [(true, Kt42)], .own, fun j => match j with  | _ => []⟩
noncomputable def fulcrumref03_Norm.cals : Cals := (Cals.cons 79 fulcrumref02_Norm.sig (Cals.cons 80 fulcrumref01_Norm.sig (Cals.cons 81 fulcrumref01_Gcd.sig (Cals.cons 82 fulcrumref01_Div.sig (Cals.base tabs)))))
noncomputable def fulcrumref03_Norm.sig : Sig := fulcrumref03_Norm.spec.sig fulcrumref03_Norm.cals T Tryz.f57
noncomputable def fulcrumref03_Norm.F (x : Dt42 × Unit) : Option (Dt42 × Unit) := limF fulcrumref03_Norm.spec fulcrumref03_Norm.cals T Tryz.f57 x
theorem fulcrumref03_Norm.ck : CalsOk Tryz.prog fulcrumref03_Norm.cals := (CalsOk.cons fulcrumref02_Norm.cal (CalsOk.cons fulcrumref01_Norm.cal (CalsOk.cons fulcrumref01_Gcd.cal (CalsOk.cons fulcrumref01_Div.cal (CalsOk.base tabsOk)))))
theorem fulcrumref03_Norm.cal : CalOk Tryz.prog tabs 57 fulcrumref03_Norm.sig := calOk_lim' tabOk fulcrumref03_Norm.ck mix Tryz.func57 (by kernel_rfl) (by kernel_rfl) (by kernel_rfl) (by kernel_rfl)
noncomputable def fulcrumref03_Norm.e  (a0 : Dt42) : Option (Dt42 × Unit) :=
  (fulcrumref02_Norm.F ((a0.1.1, a0.1.2), ())).bind fun y1 =>
  (fulcrumref01_Norm.F (a0.2, ())).bind fun y2 =>
  let v3 := (List.length y2.1 : Int)
  let v4 := (v3 == (0 : Int))
  bif v4 then (let v5 := ([(1 : Int)] : List Int)
  some ((zt40, v5), ()))
  else (let v6 := (List.length y1.1.2 : Int)
  let v7 := (v6 == (0 : Int))
  bif v7 then (let v8 := ([(1 : Int)] : List Int)
  some ((zt40, v8), ()))
  else ((fulcrumref01_Gcd.F (y1.1.2, y2.1, ())).bind fun y9 =>
  (fulcrumref01_Div.F (y1.1.2, y9.1, ())).bind fun y10 =>
  (fulcrumref01_Div.F (y2.1, y9.1, ())).bind fun y11 =>
  some (((y1.1.1, y10.1), y11.1), ())))
theorem fulcrumref03_Norm.eval (k : Nat) (a0 : Dt42) : evalF fulcrumref03_Norm.spec fulcrumref03_Norm.cals T Tryz.f57 k (a0, ()) = fulcrumref03_Norm.e  a0 := by kernel_rfl
theorem fulcrumref03_Norm.F_eq (a0 : Dt42) : fulcrumref03_Norm.F (a0, ()) = limF fulcrumref03_Norm.spec fulcrumref03_Norm.cals T Tryz.f57 (a0, ()) := by kernel_rfl
theorem fulcrumref03_Norm.of (k : Nat) (a0 : Dt42) {y : Dt42 × Unit} (h : fulcrumref03_Norm.e  a0 = some y) : fulcrumref03_Norm.F (a0, ()) = some y := (fulcrumref03_Norm.F_eq a0).trans (limF_of (q := fulcrumref03_Norm.spec) (C := fulcrumref03_Norm.cals) (T := T) (f := Tryz.f57) (x := (a0, ())) (y := y) k ((fulcrumref03_Norm.eval k a0).trans h))

def fulcrumref05_Norm.spec : Spec := ⟨[(true, Kt44)], [(true, Kt44)], .own, fun j => match j with  | _ => []⟩
noncomputable def fulcrumref05_Norm.cals : Cals := (Cals.cons 57 fulcrumref03_Norm.sig (Cals.base tabs))
noncomputable def fulcrumref05_Norm.sig : Sig := fulcrumref05_Norm.spec.sig fulcrumref05_Norm.cals T Tryz.f65
noncomputable def fulcrumref05_Norm.F (x : Dt44 × Unit) : Option (Dt44 × Unit) := limF fulcrumref05_Norm.spec fulcrumref05_Norm.cals T Tryz.f65 x
theorem fulcrumref05_Norm.ck : CalsOk Tryz.prog fulcrumref05_Norm.cals := (CalsOk.cons fulcrumref03_Norm.cal (CalsOk.base tabsOk))
theorem fulcrumref05_Norm.cal : CalOk Tryz.prog tabs 65 fulcrumref05_Norm.sig := calOk_lim' tabOk fulcrumref05_Norm.ck mix Tryz.func65 (by kernel_rfl) (by kernel_rfl) (by kernel_rfl) (by kernel_rfl)
noncomputable def fulcrumref05_Norm.e  (a0 : Dt44) : Option (Dt44 × Unit) :=
  (fulcrumref03_Norm.F (((a0.1.1.1, a0.1.1.2), a0.1.2), ())).bind fun y1 =>
  (fulcrumref03_Norm.F (((a0.2.1.1, a0.2.1.2), a0.2.2), ())).bind fun y2 =>
  some ((((y1.1.1.1, y1.1.1.2), y1.1.2), ((y2.1.1.1, y2.1.1.2), y2.1.2)), ())
theorem fulcrumref05_Norm.eval (k : Nat) (a0 : Dt44) : evalF fulcrumref05_Norm.spec fulcrumref05_Norm.cals T Tryz.f65 k (a0, ()) = fulcrumref05_Norm.e  a0 := by kernel_rfl
theorem fulcrumref05_Norm.F_eq (a0 : Dt44) : fulcrumref05_Norm.F (a0, ()) = limF fulcrumref05_Norm.spec fulcrumref05_Norm.cals T Tryz.f65 (a0, ()) := by kernel_rfl
theorem fulcrumref05_Norm.of (k : Nat) (a0 : Dt44) {y : Dt44 × Unit} (h : fulcrumref05_Norm.e  a0 = some y) : fulcrumref05_Norm.F (a0, ()) = some y := (fulcrumref05_Norm.F_eq a0).trans (limF_of (q := fulcrumref05_Norm.spec) (C := fulcrumref05_Norm.cals) (T := T) (f := Tryz.f65) (x := (a0, ())) (y := y) k ((fulcrumref05_Norm.eval k a0).trans h))

end Go.Fx.Tryz
