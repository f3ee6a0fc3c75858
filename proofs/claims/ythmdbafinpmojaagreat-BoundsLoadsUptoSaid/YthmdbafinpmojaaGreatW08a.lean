import Derived.Test.YthmdbafinpmojaaGreatEv30
import Derived.Test.YthmdbafinpmojaaGreatProg
namespace Go.Fx.Tryz
open Go Go.Proofs Go.Fx
set_option linter.unusedVariables false
set_option maxRecDepth 100000
def ti3:TI:=⟨.int .i64,(.int .i64),false,8⟩
def T3:Tab:=Tab.cons 3 ti3 Tab.nil
theorem tab3:TabOk Tryz.prog T3:=TabOk.cons (by kernel_rfl) {info:=⟨Tryz.t3,by kernel_rfl,by kernel_rfl,by kernel_rfl,(.int .i64 0),by kernel_rfl,by kernel_rfl⟩,agg:=⟨_,Tryz.underlying3,rfl⟩,desc:=⟨Tryz.underlying3,rfl⟩} TabOk.nil
def ti4:TI:=⟨.bool,.bool,false,1⟩
def T4:Tab:=Tab.cons 4 ti4 T3
theorem tab4:TabOk Tryz.prog T4:=TabOk.cons (by kernel_rfl) {info:=⟨Tryz.t4,by kernel_rfl,by kernel_rfl,by kernel_rfl,(.bool false),by kernel_rfl,by kernel_rfl⟩,agg:=⟨_,Tryz.underlying4,rfl⟩,desc:=⟨Tryz.underlying4,rfl⟩} tab3
def ti114:TI:=⟨.int .u32,(.int .u32),false,4⟩
def T114:Tab:=Tab.cons 114 ti114 T4
theorem tab114:TabOk Tryz.prog T114:=TabOk.cons (by kernel_rfl) {info:=⟨Tryz.t114,by kernel_rfl,by kernel_rfl,by kernel_rfl,(.int .u32 0),by kernel_rfl,by kernel_rfl⟩,agg:=⟨_,Tryz.underlying114,rfl⟩,desc:=⟨Tryz.underlying114,rfl⟩} tab4
def ti38:TI:=⟨.sl 114,(.sl 114 (.int .u32)),false,24⟩
def T38:Tab:=Tab.cons 38 ti38 T114
theorem tab38:TabOk Tryz.prog T38:=TabOk.cons (by kernel_rfl) {info:=⟨Tryz.t38,by kernel_rfl,by kernel_rfl,by kernel_rfl,(.slice none 0 0),by kernel_rfl,by kernel_rfl⟩,agg:=⟨_,Tryz.underlying38,rfl⟩,desc:=⟨Tryz.underlying38,ti114,by kernel_rfl,rfl,by decide⟩} tab114
def ti40:TI:=⟨.struct [(0,4),(1,38)],(.prod .bool (.sl 114 (.int .u32))),true,32⟩
def T40:Tab:=Tab.cons 40 ti40 T38
theorem tab40:TabOk Tryz.prog T40:=TabOk.cons (by kernel_rfl) {info:=⟨Tryz.t40,by kernel_rfl,by kernel_rfl,by kernel_rfl,(.agg #[.bool false,.slice none 0 0]),by kernel_rfl,by kernel_rfl⟩,agg:=⟨_,Tryz.underlying40,rfl⟩,desc:=⟨_,Tryz.underlying40,rfl,fun i o ft h=>match i,h with|0,h=>by simp at h;obtain⟨rfl,rfl⟩:=h;exact⟨_,rfl,rfl,rfl,ti4,by kernel_rfl,by decide⟩|1,h=>by simp at h;obtain⟨rfl,rfl⟩:=h;exact⟨_,rfl,rfl,rfl,ti38,by kernel_rfl,by decide⟩|n+2,h=>by simp at h⟩} tab38
def ti42:TI:=⟨.struct [(0,40),(2,38)],(.prod (.prod .bool (.sl 114 (.int .u32))) (.sl 114 (.int .u32))),true,56⟩
def T42:Tab:=Tab.cons 42 ti42 T40
theorem tab42:TabOk Tryz.prog T42:=TabOk.cons (by kernel_rfl) {info:=⟨Tryz.t42,by kernel_rfl,by kernel_rfl,by kernel_rfl,(.agg #[.bool false,.slice none 0 0,.slice none 0 0]),by kernel_rfl,by kernel_rfl⟩,agg:=⟨_,Tryz.underlying42,rfl⟩,desc:=⟨_,Tryz.underlying42,rfl,fun i o ft h=>match i,h with|0,h=>by simp at h;obtain⟨rfl,rfl⟩:=h;exact⟨_,rfl,rfl,rfl,ti40,by kernel_rfl,by decide⟩|1,h=>by simp at h;obtain⟨rfl,rfl⟩:=h;exact⟨_,rfl,rfl,rfl,ti38,by kernel_rfl,by decide⟩|n+2,h=>by simp at h⟩} tab40
def ti44:TI:=⟨.struct [(0,42),(3,42)],(.prod (.prod (.prod .bool (.sl 114 (.int .u32))) (.sl 114 (.int .u32))) (.prod (.prod .bool (.sl 114 (.int .u32))) (.sl 114 (.int .u32)))),true,112⟩
def T44:Tab:=Tab.cons 44 ti44 T42
theorem tab44:TabOk Tryz.prog T44:=TabOk.cons (by kernel_rfl) {info:=⟨Tryz.t44,by kernel_rfl,by kernel_rfl,by kernel_rfl,(.agg #[.bool false,.slice none 0 0,.slice none 0 0,.bool false,.slice none 0 0,.slice none 0 0]),by kernel_rfl,by kernel_rfl⟩,agg:=⟨_,Tryz.underlying44,rfl⟩,desc:=⟨_,Tryz.underlying44,rfl,fun i o ft h=>match i,h with|0,h=>by simp at h;obtain⟨rfl,rfl⟩:=h;exact⟨_,rfl,rfl,rfl,ti42,by kernel_rfl,by decide⟩|1,h=>by simp at h;obtain⟨rfl,rfl⟩:=h;exact⟨_,rfl,rfl,rfl,ti42,by kernel_rfl,by decide⟩|n+2,h=>by simp at h⟩} tab42
def ti66:TI:=⟨.struct [(0,4),(1,44),(7,3)],(.prod .bool (.prod (.prod (.prod (.prod .bool (.sl 114 (.int .u32))) (.sl 114 (.int .u32))) (.prod (.prod .bool (.sl 114 (.int .u32))) (.sl 114 (.int .u32)))) (.int .i64))),true,128⟩
def T66:Tab:=Tab.cons 66 ti66 T44
theorem tab66:TabOk Tryz.prog T66:=TabOk.cons (by kernel_rfl) {info:=⟨Tryz.t66,by kernel_rfl,by kernel_rfl,by kernel_rfl,(.agg #[.bool false,.bool false,.slice none 0 0,.slice none 0 0,.bool false,.slice none 0 0,.slice none 0 0,.int .i64 0]),by kernel_rfl,by kernel_rfl⟩,agg:=⟨_,Tryz.underlying66,rfl⟩,desc:=⟨_,Tryz.underlying66,rfl,fun i o ft h=>match i,h with|0,h=>by simp at h;obtain⟨rfl,rfl⟩:=h;exact⟨_,rfl,rfl,rfl,ti4,by kernel_rfl,by decide⟩|1,h=>by simp at h;obtain⟨rfl,rfl⟩:=h;exact⟨_,rfl,rfl,rfl,ti44,by kernel_rfl,by decide⟩|2,h=>by simp at h;obtain⟨rfl,rfl⟩:=h;exact⟨_,rfl,rfl,rfl,ti3,by kernel_rfl,by decide⟩|n+3,h=>by simp at h⟩} tab44
def ti70:TI:=⟨.struct [(0,3),(1,4),(2,3),(3,66)],(.prod (.int .i64) (.prod .bool (.prod (.int .i64) (.prod .bool (.prod (.prod (.prod (.prod .bool (.sl 114 (.int .u32))) (.sl 114 (.int .u32))) (.prod (.prod .bool (.sl 114 (.int .u32))) (.sl 114 (.int .u32)))) (.int .i64)))))),true,152⟩
def T70:Tab:=Tab.cons 70 ti70 T66
theorem tab70:TabOk Tryz.prog T70:=TabOk.cons (by kernel_rfl) {info:=⟨Tryz.t70,by kernel_rfl,by kernel_rfl,by kernel_rfl,(.agg #[.int .i64 0,.bool false,.int .i64 0,.bool false,.bool false,.slice none 0 0,.slice none 0 0,.bool false,.slice none 0 0,.slice none 0 0,.int .i64 0]),by kernel_rfl,by kernel_rfl⟩,agg:=⟨_,Tryz.underlying70,rfl⟩,desc:=⟨_,Tryz.underlying70,rfl,fun i o ft h=>match i,h with|0,h=>by simp at h;obtain⟨rfl,rfl⟩:=h;exact⟨_,rfl,rfl,rfl,ti3,by kernel_rfl,by decide⟩|1,h=>by simp at h;obtain⟨rfl,rfl⟩:=h;exact⟨_,rfl,rfl,rfl,ti4,by kernel_rfl,by decide⟩|2,h=>by simp at h;obtain⟨rfl,rfl⟩:=h;exact⟨_,rfl,rfl,rfl,ti3,by kernel_rfl,by decide⟩|3,h=>by simp at h;obtain⟨rfl,rfl⟩:=h;exact⟨_,rfl,rfl,rfl,ti66,by kernel_rfl,by decide⟩|n+4,h=>by simp at h⟩} tab66
def ti30:TI:=⟨.sl 70,(.sl 70 (.prod (.int .i64) (.prod .bool (.prod (.int .i64) (.prod .bool (.prod (.prod (.prod (.prod .bool (.sl 114 (.int .u32))) (.sl 114 (.int .u32))) (.prod (.prod .bool (.sl 114 (.int .u32))) (.sl 114 (.int .u32)))) (.int .i64))))))),false,24⟩
def T30:Tab:=Tab.cons 30 ti30 T70
theorem tab30:TabOk Tryz.prog T30:=TabOk.cons (by kernel_rfl) {info:=⟨Tryz.t30,by kernel_rfl,by kernel_rfl,by kernel_rfl,(.slice none 0 0),by kernel_rfl,by kernel_rfl⟩,agg:=⟨_,Tryz.underlying30,rfl⟩,desc:=⟨Tryz.underlying30,ti70,by kernel_rfl,rfl,by decide⟩} tab70
def ti79:TI:=⟨.struct [(0,3),(1,30)],(.prod (.int .i64) (.sl 70 (.prod (.int .i64) (.prod .bool (.prod (.int .i64) (.prod .bool (.prod (.prod (.prod (.prod .bool (.sl 114 (.int .u32))) (.sl 114 (.int .u32))) (.prod (.prod .bool (.sl 114 (.int .u32))) (.sl 114 (.int .u32)))) (.int .i64)))))))),true,32⟩
def T79:Tab:=Tab.cons 79 ti79 T30
theorem tab79:TabOk Tryz.prog T79:=TabOk.cons (by kernel_rfl) {info:=⟨Tryz.t79,by kernel_rfl,by kernel_rfl,by kernel_rfl,(.agg #[.int .i64 0,.slice none 0 0]),by kernel_rfl,by kernel_rfl⟩,agg:=⟨_,Tryz.underlying79,rfl⟩,desc:=⟨_,Tryz.underlying79,rfl,fun i o ft h=>match i,h with|0,h=>by simp at h;obtain⟨rfl,rfl⟩:=h;exact⟨_,rfl,rfl,rfl,ti3,by kernel_rfl,by decide⟩|1,h=>by simp at h;obtain⟨rfl,rfl⟩:=h;exact⟨_,rfl,rfl,rfl,ti30,by kernel_rfl,by decide⟩|n+2,h=>by simp at h⟩} tab30
def ti68:TI:=⟨.struct [(0,66),(8,66)],(.prod (.prod .bool (.prod (.prod (.prod (.prod .bool (.sl 114 (.int .u32))) (.sl 114 (.int .u32))) (.prod (.prod .bool (.sl 114 (.int .u32))) (.sl 114 (.int .u32)))) (.int .i64))) (.prod .bool (.prod (.prod (.prod (.prod .bool (.sl 114 (.int .u32))) (.sl 114 (.int .u32))) (.prod (.prod .bool (.sl 114 (.int .u32))) (.sl 114 (.int .u32)))) (.int .i64)))),true,256⟩
def T68:Tab:=Tab.cons 68 ti68 T79
theorem tab68:TabOk Tryz.prog T68:=TabOk.cons (by kernel_rfl) {info:=⟨Tryz.t68,by kernel_rfl,by kernel_rfl,by kernel_rfl,(.agg #[.bool false,.bool false,.slice none 0 0,.slice none 0 0,.bool false,.slice none 0 0,.slice none 0 0,.int .i64 0,.bool false,.bool false,.slice none 0 0,.slice none 0 0,.bool false,.slice none 0 0,.slice none 0 0,.int .i64 0]),by kernel_rfl,by kernel_rfl⟩,agg:=⟨_,Tryz.underlying68,rfl⟩,desc:=⟨_,Tryz.underlying68,rfl,fun i o ft h=>match i,h with|0,h=>by simp at h;obtain⟨rfl,rfl⟩:=h;exact⟨_,rfl,rfl,rfl,ti66,by kernel_rfl,by decide⟩|1,h=>by simp at h;obtain⟨rfl,rfl⟩:=h;exact⟨_,rfl,rfl,rfl,ti66,by kernel_rfl,by decide⟩|n+2,h=>by simp at h⟩} tab79
def ti29:TI:=⟨.sl 68,(.sl 68 (.prod (.prod .bool (.prod (.prod (.prod (.prod .bool (.sl 114 (.int .u32))) (.sl 114 (.int .u32))) (.prod (.prod .bool (.sl 114 (.int .u32))) (.sl 114 (.int .u32)))) (.int .i64))) (.prod .bool (.prod (.prod (.prod (.prod .bool (.sl 114 (.int .u32))) (.sl 114 (.int .u32))) (.prod (.prod .bool (.sl 114 (.int .u32))) (.sl 114 (.int .u32)))) (.int .i64))))),false,24⟩
def T29:Tab:=Tab.cons 29 ti29 T68
theorem tab29:TabOk Tryz.prog T29:=TabOk.cons (by kernel_rfl) {info:=⟨Tryz.t29,by kernel_rfl,by kernel_rfl,by kernel_rfl,(.slice none 0 0),by kernel_rfl,by kernel_rfl⟩,agg:=⟨_,Tryz.underlying29,rfl⟩,desc:=⟨Tryz.underlying29,ti68,by kernel_rfl,rfl,by decide⟩} tab68
def ti81:TI:=⟨.struct [(0,79),(2,4),(3,29)],(.prod (.prod (.int .i64) (.sl 70 (.prod (.int .i64) (.prod .bool (.prod (.int .i64) (.prod .bool (.prod (.prod (.prod (.prod .bool (.sl 114 (.int .u32))) (.sl 114 (.int .u32))) (.prod (.prod .bool (.sl 114 (.int .u32))) (.sl 114 (.int .u32)))) (.int .i64)))))))) (.prod .bool (.sl 68 (.prod (.prod .bool (.prod (.prod (.prod (.prod .bool (.sl 114 (.int .u32))) (.sl 114 (.int .u32))) (.prod (.prod .bool (.sl 114 (.int .u32))) (.sl 114 (.int .u32)))) (.int .i64))) (.prod .bool (.prod (.prod (.prod (.prod .bool (.sl 114 (.int .u32))) (.sl 114 (.int .u32))) (.prod (.prod .bool (.sl 114 (.int .u32))) (.sl 114 (.int .u32)))) (.int .i64))))))),true,64⟩
def T81:Tab:=Tab.cons 81 ti81 T29
theorem tab81:TabOk Tryz.prog T81:=TabOk.cons (by kernel_rfl) {info:=⟨Tryz.t81,by kernel_rfl,by kernel_rfl,by kernel_rfl,(.agg #[.int .i64 0,.slice none 0 0,.bool false,.slice none 0 0]),by kernel_rfl,by kernel_rfl⟩,agg:=⟨_,Tryz.underlying81,rfl⟩,desc:=⟨_,Tryz.underlying81,rfl,fun i o ft h=>match i,h with|0,h=>by simp at h;obtain⟨rfl,rfl⟩:=h;exact⟨_,rfl,rfl,rfl,ti79,by kernel_rfl,by decide⟩|1,h=>by simp at h;obtain⟨rfl,rfl⟩:=h;exact⟨_,rfl,rfl,rfl,ti4,by kernel_rfl,by decide⟩|2,h=>by simp at h;obtain⟨rfl,rfl⟩:=h;exact⟨_,rfl,rfl,rfl,ti29,by kernel_rfl,by decide⟩|n+3,h=>by simp at h⟩} tab29
def ti26:TI:=⟨.int .i64,(.int .i64),false,8⟩
def T26:Tab:=Tab.cons 26 ti26 T81
theorem tab26:TabOk Tryz.prog T26:=TabOk.cons (by kernel_rfl) {info:=⟨Tryz.t26,by kernel_rfl,by kernel_rfl,by kernel_rfl,(.int .i64 0),by kernel_rfl,by kernel_rfl⟩,agg:=⟨_,Tryz.underlying26,rfl⟩,desc:=⟨Tryz.underlying26,rfl⟩} tab81
def ti32:TI:=⟨.struct [(0,29),(1,3),(2,30)],(.prod (.sl 68 (.prod (.prod .bool (.prod (.prod (.prod (.prod .bool (.sl 114 (.int .u32))) (.sl 114 (.int .u32))) (.prod (.prod .bool (.sl 114 (.int .u32))) (.sl 114 (.int .u32)))) (.int .i64))) (.prod .bool (.prod (.prod (.prod (.prod .bool (.sl 114 (.int .u32))) (.sl 114 (.int .u32))) (.prod (.prod .bool (.sl 114 (.int .u32))) (.sl 114 (.int .u32)))) (.int .i64))))) (.prod (.int .i64) (.sl 70 (.prod (.int .i64) (.prod .bool (.prod (.int .i64) (.prod .bool (.prod (.prod (.prod (.prod .bool (.sl 114 (.int .u32))) (.sl 114 (.int .u32))) (.prod (.prod .bool (.sl 114 (.int .u32))) (.sl 114 (.int .u32)))) (.int .i64))))))))),true,56⟩
def T32:Tab:=Tab.cons 32 ti32 T26
theorem tab32:TabOk Tryz.prog T32:=TabOk.cons (by kernel_rfl) {info:=⟨Tryz.t32,by kernel_rfl,by kernel_rfl,by kernel_rfl,(.agg #[.slice none 0 0,.int .i64 0,.slice none 0 0]),by kernel_rfl,by kernel_rfl⟩,agg:=⟨_,Tryz.underlying32,rfl⟩,desc:=⟨_,Tryz.underlying32,rfl,fun i o ft h=>match i,h with|0,h=>by simp at h;obtain⟨rfl,rfl⟩:=h;exact⟨_,rfl,rfl,rfl,ti29,by kernel_rfl,by decide⟩|1,h=>by simp at h;obtain⟨rfl,rfl⟩:=h;exact⟨_,rfl,rfl,rfl,ti3,by kernel_rfl,by decide⟩|2,h=>by simp at h;obtain⟨rfl,rfl⟩:=h;exact⟨_,rfl,rfl,rfl,ti30,by kernel_rfl,by decide⟩|n+3,h=>by simp at h⟩} tab26
def ti5:TI:=⟨.int .u8,(.int .u8),false,1⟩
def T5:Tab:=Tab.cons 5 ti5 T32
theorem tab5:TabOk Tryz.prog T5:=TabOk.cons (by kernel_rfl) {info:=⟨Tryz.t5,by kernel_rfl,by kernel_rfl,by kernel_rfl,(.int .u8 0),by kernel_rfl,by kernel_rfl⟩,agg:=⟨_,Tryz.underlying5,rfl⟩,desc:=⟨Tryz.underlying5,rfl⟩} tab32
def ti9:TI:=⟨.str,.str,false,16⟩
def T9:Tab:=Tab.cons 9 ti9 T5
theorem tab9:TabOk Tryz.prog T9:=TabOk.cons (by kernel_rfl) {info:=⟨Tryz.t9,by kernel_rfl,by kernel_rfl,by kernel_rfl,(.string ByteArray.empty),by kernel_rfl,by kernel_rfl⟩,agg:=⟨_,Tryz.underlying9,rfl⟩,desc:=⟨Tryz.underlying9,rfl⟩} tab5
def ti141:TI:=⟨.int .u64,(.int .u64),false,8⟩
def T141:Tab:=Tab.cons 141 ti141 T9
theorem tab141:TabOk Tryz.prog T141:=TabOk.cons (by kernel_rfl) {info:=⟨Tryz.t141,by kernel_rfl,by kernel_rfl,by kernel_rfl,(.int .u64 0),by kernel_rfl,by kernel_rfl⟩,agg:=⟨_,Tryz.underlying141,rfl⟩,desc:=⟨Tryz.underlying141,rfl⟩} tab9
def ti167:TI:=⟨.sl 3,(.sl 3 (.int .i64)),false,24⟩
def T167:Tab:=Tab.cons 167 ti167 T141
theorem tab167:TabOk Tryz.prog T167:=TabOk.cons (by kernel_rfl) {info:=⟨Tryz.t167,by kernel_rfl,by kernel_rfl,by kernel_rfl,(.slice none 0 0),by kernel_rfl,by kernel_rfl⟩,agg:=⟨_,Tryz.underlying167,rfl⟩,desc:=⟨Tryz.underlying167,ti3,by kernel_rfl,rfl,by decide⟩} tab141
def ti25:TI:=⟨.ptr,.rp .unit,false,8⟩
def T25:Tab:=Tab.cons 25 ti25 T167
theorem tab25:TabOk Tryz.prog T25:=TabOk.cons (by kernel_rfl) {info:=⟨Tryz.t25,by kernel_rfl,by kernel_rfl,by kernel_rfl,(.pointer none),by kernel_rfl,by kernel_rfl⟩,agg:=⟨_,Tryz.underlying25,rfl⟩,desc:=⟨_,Tryz.underlying25⟩} tab167
def ti83:TI:=⟨.struct [(0,3),(1,3)],(.prod (.int .i64) (.int .i64)),true,16⟩
def T83:Tab:=Tab.cons 83 ti83 T25
theorem tab83:TabOk Tryz.prog T83:=TabOk.cons (by kernel_rfl) {info:=⟨Tryz.t83,by kernel_rfl,by kernel_rfl,by kernel_rfl,(.agg #[.int .i64 0,.int .i64 0]),by kernel_rfl,by kernel_rfl⟩,agg:=⟨_,Tryz.underlying83,rfl⟩,desc:=⟨_,Tryz.underlying83,rfl,fun i o ft h=>match i,h with|0,h=>by simp at h;obtain⟨rfl,rfl⟩:=h;exact⟨_,rfl,rfl,rfl,ti3,by kernel_rfl,by decide⟩|1,h=>by simp at h;obtain⟨rfl,rfl⟩:=h;exact⟨_,rfl,rfl,rfl,ti3,by kernel_rfl,by decide⟩|n+2,h=>by simp at h⟩} tab25
def ti154:TI:=⟨.int .u64,(.int .u64),false,8⟩
def T154:Tab:=Tab.cons 154 ti154 T83
theorem tab154:TabOk Tryz.prog T154:=TabOk.cons (by kernel_rfl) {info:=⟨Tryz.t154,by kernel_rfl,by kernel_rfl,by kernel_rfl,(.int .u64 0),by kernel_rfl,by kernel_rfl⟩,agg:=⟨_,Tryz.underlying154,rfl⟩,desc:=⟨Tryz.underlying154,rfl⟩} tab83
def ti45:TI:=⟨.sl 44,(.sl 44 (.prod (.prod (.prod .bool (.sl 114 (.int .u32))) (.sl 114 (.int .u32))) (.prod (.prod .bool (.sl 114 (.int .u32))) (.sl 114 (.int .u32))))),false,24⟩
def T45:Tab:=Tab.cons 45 ti45 T154
theorem tab45:TabOk Tryz.prog T45:=TabOk.cons (by kernel_rfl) {info:=⟨Tryz.t45,by kernel_rfl,by kernel_rfl,by kernel_rfl,(.slice none 0 0),by kernel_rfl,by kernel_rfl⟩,agg:=⟨_,Tryz.underlying45,rfl⟩,desc:=⟨Tryz.underlying45,ti44,by kernel_rfl,rfl,by decide⟩} tab154
def ti47:TI:=⟨.struct [(0,3),(1,3),(2,44),(8,3),(9,45)],(.prod (.int .i64) (.prod (.int .i64) (.prod (.prod (.prod (.prod .bool (.sl 114 (.int .u32))) (.sl 114 (.int .u32))) (.prod (.prod .bool (.sl 114 (.int .u32))) (.sl 114 (.int .u32)))) (.prod (.int .i64) (.sl 44 (.prod (.prod (.prod .bool (.sl 114 (.int .u32))) (.sl 114 (.int .u32))) (.prod (.prod .bool (.sl 114 (.int .u32))) (.sl 114 (.int .u32))))))))),true,160⟩
def T47:Tab:=Tab.cons 47 ti47 T45
theorem tab47:TabOk Tryz.prog T47:=TabOk.cons (by kernel_rfl) {info:=⟨Tryz.t47,by kernel_rfl,by kernel_rfl,by kernel_rfl,(.agg #[.int .i64 0,.int .i64 0,.bool false,.slice none 0 0,.slice none 0 0,.bool false,.slice none 0 0,.slice none 0 0,.int .i64 0,.slice none 0 0]),by kernel_rfl,by kernel_rfl⟩,agg:=⟨_,Tryz.underlying47,rfl⟩,desc:=⟨_,Tryz.underlying47,rfl,fun i o ft h=>match i,h with|0,h=>by simp at h;obtain⟨rfl,rfl⟩:=h;exact⟨_,rfl,rfl,rfl,ti3,by kernel_rfl,by decide⟩|1,h=>by simp at h;obtain⟨rfl,rfl⟩:=h;exact⟨_,rfl,rfl,rfl,ti3,by kernel_rfl,by decide⟩|2,h=>by simp at h;obtain⟨rfl,rfl⟩:=h;exact⟨_,rfl,rfl,rfl,ti44,by kernel_rfl,by decide⟩|3,h=>by simp at h;obtain⟨rfl,rfl⟩:=h;exact⟨_,rfl,rfl,rfl,ti3,by kernel_rfl,by decide⟩|4,h=>by simp at h;obtain⟨rfl,rfl⟩:=h;exact⟨_,rfl,rfl,rfl,ti45,by kernel_rfl,by decide⟩|n+5,h=>by simp at h⟩} tab45
def ti22:TI:=⟨.sl 47,(.sl 47 (.prod (.int .i64) (.prod (.int .i64) (.prod (.prod (.prod (.prod .bool (.sl 114 (.int .u32))) (.sl 114 (.int .u32))) (.prod (.prod .bool (.sl 114 (.int .u32))) (.sl 114 (.int .u32)))) (.prod (.int .i64) (.sl 44 (.prod (.prod (.prod .bool (.sl 114 (.int .u32))) (.sl 114 (.int .u32))) (.prod (.prod .bool (.sl 114 (.int .u32))) (.sl 114 (.int .u32)))))))))),false,24⟩
def T22:Tab:=Tab.cons 22 ti22 T47
theorem tab22:TabOk Tryz.prog T22:=TabOk.cons (by kernel_rfl) {info:=⟨Tryz.t22,by kernel_rfl,by kernel_rfl,by kernel_rfl,(.slice none 0 0),by kernel_rfl,by kernel_rfl⟩,agg:=⟨_,Tryz.underlying22,rfl⟩,desc:=⟨Tryz.underlying22,ti47,by kernel_rfl,rfl,by decide⟩} tab47
def ti24:TI:=⟨.struct [(0,3),(1,22)],(.prod (.int .i64) (.sl 47 (.prod (.int .i64) (.prod (.int .i64) (.prod (.prod (.prod (.prod .bool (.sl 114 (.int .u32))) (.sl 114 (.int .u32))) (.prod (.prod .bool (.sl 114 (.int .u32))) (.sl 114 (.int .u32)))) (.prod (.int .i64) (.sl 44 (.prod (.prod (.prod .bool (.sl 114 (.int .u32))) (.sl 114 (.int .u32))) (.prod (.prod .bool (.sl 114 (.int .u32))) (.sl 114 (.int .u32))))))))))),true,32⟩
def T24:Tab:=Tab.cons 24 ti24 T22
theorem tab24:TabOk Tryz.prog T24:=TabOk.cons (by kernel_rfl) {info:=⟨Tryz.t24,by kernel_rfl,by kernel_rfl,by kernel_rfl,(.agg #[.int .i64 0,.slice none 0 0]),by kernel_rfl,by kernel_rfl⟩,agg:=⟨_,Tryz.underlying24,rfl⟩,desc:=⟨_,Tryz.underlying24,rfl,fun i o ft h=>match i,h with|0,h=>by simp at h;obtain⟨rfl,rfl⟩:=h;exact⟨_,rfl,rfl,rfl,ti3,by kernel_rfl,by decide⟩|1,h=>by simp at h;obtain⟨rfl,rfl⟩:=h;exact⟨_,rfl,rfl,rfl,ti22,by kernel_rfl,by decide⟩|n+2,h=>by simp at h⟩} tab22
def ti37:TI:=⟨.sl 114,(.sl 114 (.int .u32)),false,24⟩
def T37:Tab:=Tab.cons 37 ti37 T24
theorem tab37:TabOk Tryz.prog T37:=TabOk.cons (by kernel_rfl) {info:=⟨Tryz.t37,by kernel_rfl,by kernel_rfl,by kernel_rfl,(.slice none 0 0),by kernel_rfl,by kernel_rfl⟩,agg:=⟨_,Tryz.underlying37,rfl⟩,desc:=⟨Tryz.underlying37,ti114,by kernel_rfl,rfl,by decide⟩} tab24
def ti61:TI:=⟨.sl 37,(.sl 37 (.sl 114 (.int .u32))),false,24⟩
def T61:Tab:=Tab.cons 61 ti61 T37
theorem tab61:TabOk Tryz.prog T61:=TabOk.cons (by kernel_rfl) {info:=⟨Tryz.t61,by kernel_rfl,by kernel_rfl,by kernel_rfl,(.slice none 0 0),by kernel_rfl,by kernel_rfl⟩,agg:=⟨_,Tryz.underlying61,rfl⟩,desc:=⟨Tryz.underlying61,ti37,by kernel_rfl,rfl,by decide⟩} tab37
def ti2:TI:=⟨.int .i64,(.int .i64),false,8⟩
def T2:Tab:=Tab.cons 2 ti2 T61
theorem tab2:TabOk Tryz.prog T2:=TabOk.cons (by kernel_rfl) {info:=⟨Tryz.t2,by kernel_rfl,by kernel_rfl,by kernel_rfl,(.int .i64 0),by kernel_rfl,by kernel_rfl⟩,agg:=⟨_,Tryz.underlying2,rfl⟩,desc:=⟨Tryz.underlying2,rfl⟩} tab61
def T:Tab:=T2
theorem tabOk:TabOk Tryz.prog T:=tab2
theorem eqOk83:EqOk Tryz.prog 83 2:=EqOk.of2 Tryz.underlying83 (by kernel_rfl) (by kernel_rfl) Tryz.underlying3 Tryz.underlying3 (by kernel_rfl) (by kernel_rfl) rfl rfl (fun w=>(tabOk 3 ti3 (by kernel_rfl)).size) (fun w=>(tabOk 3 ti3 (by kernel_rfl)).size) (fun w=>(tabOk 3 ti3 (by kernel_rfl)).isAgg) (fun w=>(tabOk 3 ti3 (by kernel_rfl)).isAgg)
theorem mix:Tryz.prog.follows .mixedOrders=true:=by kernel_rfl
def tabs:Nat→Option Tbl:=noTabs
theorem tabsOk:∀g tb,tabs g=some tb→TblOk Tryz.prog tb:=noTabs_ok
abbrev t8:ByteArray:=⟨#[0,1,2,2,3,3,3,3,4,4,4,4,4,4,4,4,5,5,5,5,5,5,5,5,5,5,5,5,5,5,5,5,6,6,6,6,6,6,6,6,6,6,6,6,6,6,6,6,6,6,6,6,6,6,6,6,6,6,6,6,6,6,6,6,7,7,7,7,7,7,7,7,7,7,7,7,7,7,7,7,7,7,7,7,7,7,7,7,7,7,7,7,7,7,7,7,7,7,7,7,7,7,7,7,7,7,7,7,7,7,7,7,7,7,7,7,7,7,7,7,7,7,7,7,7,7,7,7,8,8,8,8,8,8,8,8,8,8,8,8,8,8,8,8,8,8,8,8,8,8,8,8,8,8,8,8,8,8,8,8,8,8,8,8,8,8,8,8,8,8,8,8,8,8,8,8,8,8,8,8,8,8,8,8,8,8,8,8,8,8,8,8,8,8,8,8,8,8,8,8,8,8,8,8,8,8,8,8,8,8,8,8,8,8,8,8,8,8,8,8,8,8,8,8,8,8,8,8,8,8,8,8,8,8,8,8,8,8,8,8,8,8,8,8,8,8,8,8,8,8,8,8,8,8,8,8]⟩
noncomputable section
abbrev Kt167:K:=(.sl 3 (.int .i64))
abbrev Dt167:Type:=(List Int)
abbrev zt167:Dt167:=([]:List Int)
abbrev Kt38:K:=(.sl 114 (.int .u32))
abbrev Dt38:Type:=Dt167
abbrev zt38:Dt38:=zt167
abbrev Kt83:K:=(.prod (.int .i64) (.int .i64))
abbrev Dt83:Type:=(Int×Int)
abbrev zt83:Dt83:=((0:Int),(0:Int))
abbrev Kt40:K:=(.prod .bool Kt38)
abbrev Dt40:Type:=(Bool×Dt38)
abbrev zt40:Dt40:=(false,zt38)
abbrev Kt42:K:=(.prod Kt40 Kt38)
abbrev Dt42:Type:=(Dt40×Dt38)
abbrev zt42:Dt42:=(zt40,zt38)
abbrev Kt44:K:=(.prod Kt42 Kt42)
abbrev Dt44:Type:=(Dt42×Dt42)
abbrev zt44:Dt44:=(zt42,zt42)
abbrev Kt45:K:=(.sl 44 Kt44)
abbrev Dt45:Type:=(List Dt44)
abbrev Kt66:K:=(.prod .bool (.prod Kt44 (.int .i64)))
abbrev Dt66:Type:=(Bool×(Dt44×Int))
abbrev zt66:Dt66:=(false,(zt44,(0:Int)))
abbrev Kt70:K:=(.prod (.int .i64) (.prod .bool (.prod (.int .i64) Kt66)))
abbrev Dt70:Type:=(Int×(Bool×(Int×Dt66)))
abbrev zt70:Dt70:=((0:Int),(false,((0:Int),zt66)))
abbrev Kt30:K:=(.sl 70 Kt70)
abbrev Dt30:Type:=(List Dt70)
abbrev zt30:Dt30:=([]:List (Int×(Bool×(Int×(Bool×((((Bool×(List Int))×(List Int))×((Bool×(List Int))×(List Int)))×Int))))))
abbrev Kt79:K:=(.prod (.int .i64) Kt30)
abbrev Dt79:Type:=(Int×Dt30)
abbrev zt79:Dt79:=((0:Int),zt30)
abbrev Kt68:K:=(.prod Kt66 Kt66)
abbrev Dt68:Type:=(Dt66×Dt66)
abbrev zt68:Dt68:=(zt66,zt66)
abbrev Kt47:K:=(.prod (.int .i64) (.prod (.int .i64) (.prod Kt44 (.prod (.int .i64) Kt45))))
abbrev Dt47:Type:=(Int×(Int×(Dt44×(Int×Dt45))))
abbrev Kt29:K:=(.sl 68 Kt68)
abbrev Dt29:Type:=(List Dt68)
abbrev zt29:Dt29:=([]:List ((Bool×((((Bool×(List Int))×(List Int))×((Bool×(List Int))×(List Int)))×Int))×(Bool×((((Bool×(List Int))×(List Int))×((Bool×(List Int))×(List Int)))×Int))))
abbrev Kt32:K:=(.prod Kt29 Kt79)
abbrev Dt32:Type:=(Dt29×Dt79)
abbrev zt32:Dt32:=(zt29,zt79)
abbrev Kt81:K:=(.prod Kt79 (.prod .bool Kt29))
abbrev Dt81:Type:=(Dt79×(Bool×Dt29))
namespace nat_trim
def spec:Spec:=⟨[(false,Kt38)],[(false,Kt38)],.shared,fun j=>match j with|2=>[(0,.lf (.z 114 (.int .u32) true)),(3,.lf (.v true))]|_=>[]⟩
def cals:Cals:=(Cals.base tabs)
def sig:Sig:=spec.sig cals T Tryz.f104
def F (x:Dt38×Unit):Option (Dt38×Unit):=limF spec cals T Tryz.f104 x
theorem ck:CalsOk Tryz.prog cals:=(CalsOk.base tabsOk)
theorem cal:CalOk Tryz.prog tabs 104 sig:=calOk_lim' tabOk ck mix Tryz.func104 (by kernel_rfl) (by kernel_rfl) (by kernel_rfl) (by kernel_rfl)
def m2 (x0:Dt38)(x3:Int):S:=⟨[(0,.one (.lf (.val true Kt38 x0))),(3,.one (.lf (.val true (.int .i64) x3)))],⟨[],[]⟩⟩
def b2 (f2:Dt38→Int→Option (Dt38×Unit))(x0:Dt38)(x3:Int):Option (Dt38×Unit):=
 let v1:=decide (x3>(0:Int))
 bif v1 then(let v2:=IntKind.i64.wrap (x3-(1:Int))
 bif decide (0≤v2)&&decide (v2<(List.length x0:Int))then(let v3:=List.getD x0 (Int.toNat v2) (0:Int)
 let v4:=(v3==(0:Int))
 bif v4 then(let v5:=IntKind.i64.wrap (x3-(1:Int))
 f2 x0 v5)
 else(bif decide (0≤x3)&&decide (x3≤(List.length x0:Int))then(let v6:=List.take (Int.toNat x3) x0
 some (v6,()))
 else none))
 else none)
 else(bif decide (0≤x3)&&decide (x3≤(List.length x0:Int))then(let v7:=List.take (Int.toNat x3) x0
 some (v7,()))
 else none)
def e (f2:Dt38→Int→Option (Dt38×Unit))(a0:Dt38):Option (Dt38×Unit):=
 let v1:=(List.length a0:Int)
 f2 a0 v1
def L2 (k:Nat)(x0:Dt38)(x3:Int):Option (Dt38×Unit):=heads (spec.env cals T Tryz.f104) (Func.pts Tryz.f104) k 2 (m2 x0 x3)
theorem L2_succ (k:Nat)(x0:Dt38)(x3:Int):L2 (k+1) x0 x3=b2 (L2 k) x0 x3:=by kernel_rfl
theorem eval (k:Nat)(a0:Dt38):evalF spec cals T Tryz.f104 k (a0,())=e (L2 k) a0:=by kernel_rfl
theorem of (k:Nat)(a0:Dt38){y:Dt38×Unit}(h:e (L2 k) a0=some y):F (a0,())=some y:=limF_of k ((eval k a0).trans h)
end nat_trim
namespace bits_Len32
def spec:Spec:=⟨[(false,(.int .u32))],[(false,(.int .i64))],.own,fun j=>match j with|_=>[]⟩
def cals:Cals:=(Cals.base tabs)
def sig:Sig:=spec.sig cals T Tryz.f105
def F (x:Int×Unit):Option (Int×Unit):=limF spec cals T Tryz.f105 x
theorem ck:CalsOk Tryz.prog cals:=(CalsOk.base tabsOk)
theorem cal:CalOk Tryz.prog tabs 105 sig:=calOk_lim' tabOk ck mix Tryz.func105 (by kernel_rfl) (by kernel_rfl) (by kernel_rfl) (by kernel_rfl)
def e (a0:Int):Option (Int×Unit):=
 let v1:=decide (a0≥(65536:Int))
 bif v1 then(bif decide ((16:Int)<0)then none
 else(let v2:=shrI .u32 a0 (16:Int)
 let v3:=decide (v2≥(256:Int))
 bif v3 then(bif decide ((8:Int)<0)then none
 else(let v4:=shrI .u32 v2 (8:Int)
 let v5:=IntKind.i64.wrap ((16:Int)+(8:Int))
 let v6:=IntKind.u8.wrap v4
 bif decide (0≤v6)&&decide (v6<(ByteArray.size t8:Int))then(let v7:=btI t8 v6
 let v8:=IntKind.i64.wrap v7
 let v9:=IntKind.i64.wrap (v5+v8)
 some (v9,()))
 else none))
 else(let v10:=IntKind.u8.wrap v2
 bif decide (0≤v10)&&decide (v10<(ByteArray.size t8:Int))then(let v11:=btI t8 v10
 let v12:=IntKind.i64.wrap v11
 let v13:=IntKind.i64.wrap ((16:Int)+v12)
 some (v13,()))
 else none)))
 else(let v14:=decide (a0≥(256:Int))
 bif v14 then(bif decide ((8:Int)<0)then none
 else(let v15:=shrI .u32 a0 (8:Int)
 let v16:=IntKind.i64.wrap ((0:Int)+(8:Int))
 let v17:=IntKind.u8.wrap v15
 bif decide (0≤v17)&&decide (v17<(ByteArray.size t8:Int))then(let v18:=btI t8 v17
 let v19:=IntKind.i64.wrap v18
 let v20:=IntKind.i64.wrap (v16+v19)
 some (v20,()))
 else none))
 else(let v21:=IntKind.u8.wrap a0
 bif decide (0≤v21)&&decide (v21<(ByteArray.size t8:Int))then(let v22:=btI t8 v21
 let v23:=IntKind.i64.wrap v22
 let v24:=IntKind.i64.wrap ((0:Int)+v23)
 some (v24,()))
 else none))
theorem eval (k:Nat)(a0:Int):evalF spec cals T Tryz.f105 k (a0,())=e a0:=by kernel_rfl
theorem of (k:Nat)(a0:Int){y:Int×Unit}(h:e a0=some y):F (a0,())=some y:=limF_of k ((eval k a0).trans h)
end bits_Len32
namespace nat_Bits
def spec:Spec:=⟨[(false,Kt38)],[(false,(.int .i64))],.own,fun j=>match j with|_=>[]⟩
def cals:Cals:=(Cals.cons 104 nat_trim.sig (Cals.cons 105 bits_Len32.sig (Cals.base tabs)))
def sig:Sig:=spec.sig cals T Tryz.f98
def F (x:Dt38×Unit):Option (Int×Unit):=limF spec cals T Tryz.f98 x
theorem ck:CalsOk Tryz.prog cals:=(CalsOk.cons nat_trim.cal (CalsOk.cons bits_Len32.cal (CalsOk.base tabsOk)))
theorem cal:CalOk Tryz.prog tabs 98 sig:=calOk_lim' tabOk ck mix Tryz.func98 (by kernel_rfl) (by kernel_rfl) (by kernel_rfl) (by kernel_rfl)
def e (a0:Dt38):Option (Int×Unit):=
 (nat_trim.F (a0,())).bind fun y1=>
 let v2:=(List.length y1.1:Int)
 let v3:=(v2==(0:Int))
 bif v3 then(some ((0:Int),()))
 else(let v4:=(List.length y1.1:Int)
 let v5:=IntKind.i64.wrap (v4-(1:Int))
 let v6:=IntKind.i64.wrap ((32:Int)*v5)
 let v7:=(List.length y1.1:Int)
 let v8:=IntKind.i64.wrap (v7-(1:Int))
 bif decide (0≤v8)&&decide (v8<(List.length y1.1:Int))then(let v9:=List.getD y1.1 (Int.toNat v8) (0:Int)
 (bits_Len32.F (v9,())).bind fun y10=>
 let v11:=IntKind.i64.wrap (v6+y10.1)
 some (v11,()))
 else none)
theorem eval (k:Nat)(a0:Dt38):evalF spec cals T Tryz.f98 k (a0,())=e a0:=by kernel_rfl
theorem of (k:Nat)(a0:Dt38){y:Int×Unit}(h:e a0=some y):F (a0,())=some y:=limF_of k ((eval k a0).trans h)
end nat_Bits
namespace nat_own
def spec:Spec:=⟨[(false,Kt38)],[(false,Kt38)],.own,fun j=>match j with|_=>[]⟩
def cals:Cals:=(Cals.cons 104 nat_trim.sig (Cals.base tabs))
def sig:Sig:=spec.sig cals T Tryz.f115
def F (x:Dt38×Unit):Option (Dt38×Unit):=limF spec cals T Tryz.f115 x
theorem ck:CalsOk Tryz.prog cals:=(CalsOk.cons nat_trim.cal (CalsOk.base tabsOk))
theorem cal:CalOk Tryz.prog tabs 115 sig:=calOk_lim' tabOk ck mix Tryz.func115 (by kernel_rfl) (by kernel_rfl) (by kernel_rfl) (by kernel_rfl)
def e (a0:Dt38):Option (Dt38×Unit):=
 (nat_trim.F (a0,())).bind fun y1=>
 let v2:=(List.length y1.1:Int)
 let v3:=(v2==(0:Int))
 bif v3 then(some (zt38,()))
 else(let v4:=(List.length y1.1:Int)
 bif decide (0≤v4)&&(decide (v4≤v4)&&(decide (Int.toNat v4*4≤281474976710656)&&Nat.blt 0 4))then(let v5:=List.replicate (Int.toNat v4) (0:Int)
 let v6:=List.take (List.length v5) y1.1++List.drop (List.length y1.1) v5
 let v7:=((Nat.min (List.length y1.1) (List.length v5):Nat):Int)
 some (v6,()))
 else none)
theorem eval (k:Nat)(a0:Dt38):evalF spec cals T Tryz.f115 k (a0,())=e a0:=by kernel_rfl
theorem of (k:Nat)(a0:Dt38){y:Dt38×Unit}(h:e a0=some y):F (a0,())=some y:=limF_of k ((eval k a0).trans h)
end nat_own
namespace nat_Cmp
def spec:Spec:=⟨[(false,Kt38),(false,Kt38)],[(false,(.int .i64))],.own,fun j=>match j with|7=>[(0,.lf (.z 114 (.int .u32) false)),(1,.lf (.z 114 (.int .u32) false)),(5,.lf (.v true))]|_=>[]⟩
def cals:Cals:=(Cals.cons 104 nat_trim.sig (Cals.base tabs))
def sig:Sig:=spec.sig cals T Tryz.f116
def F (x:Dt38×Dt38×Unit):Option (Int×Unit):=limF spec cals T Tryz.f116 x
theorem ck:CalsOk Tryz.prog cals:=(CalsOk.cons nat_trim.cal (CalsOk.base tabsOk))
theorem cal:CalOk Tryz.prog tabs 116 sig:=calOk_lim' tabOk ck mix Tryz.func116 (by kernel_rfl) (by kernel_rfl) (by kernel_rfl) (by kernel_rfl)
def m7 (x0:Dt38)(x1:Dt38)(x5:Int):S:=⟨[(0,.one (.lf (.val false Kt38 x0))),(1,.one (.lf (.val false Kt38 x1))),(5,.one (.lf (.val true (.int .i64) x5)))],⟨[],[]⟩⟩
def b7 (f7:Dt38→Dt38→Int→Option (Int×Unit))(x0:Dt38)(x1:Dt38)(x5:Int):Option (Int×Unit):=
 let v1:=decide (x5≥(0:Int))
 bif v1 then(bif decide (0≤x5)&&decide (x5<(List.length x0:Int))then(let v2:=List.getD x0 (Int.toNat x5) (0:Int)
 bif decide (0≤x5)&&decide (x5<(List.length x1:Int))then(let v3:=List.getD x1 (Int.toNat x5) (0:Int)
 let v4:=(v2 != v3)
 bif v4 then(bif decide (0≤x5)&&decide (x5<(List.length x0:Int))then(let v5:=List.getD x0 (Int.toNat x5) (0:Int)
 bif decide (0≤x5)&&decide (x5<(List.length x1:Int))then(let v6:=List.getD x1 (Int.toNat x5) (0:Int)
 let v7:=decide (v5<v6)
 bif v7 then(some ((-1:Int),()))
 else(some ((1:Int),())))
 else none)
 else none)
 else(let v8:=IntKind.i64.wrap (x5-(1:Int))
 f7 x0 x1 v8))
 else none)
 else none)
 else(some ((0:Int),()))
def e (f7:Dt38→Dt38→Int→Option (Int×Unit))(a0:Dt38)(a1:Dt38):Option (Int×Unit):=
 (nat_trim.F (a0,())).bind fun y1=>
 (nat_trim.F (a1,())).bind fun y2=>
 let v3:=(List.length y1.1:Int)
 let v4:=(List.length y2.1:Int)
 let v5:=(v3 != v4)
 bif v5 then(let v6:=(List.length y1.1:Int)
 let v7:=(List.length y2.1:Int)
 let v8:=decide (v6<v7)
 bif v8 then(some ((-1:Int),()))
 else(some ((1:Int),())))
 else(let v9:=(List.length y1.1:Int)
 let v10:=IntKind.i64.wrap (v9-(1:Int))
 f7 y1.1 y2.1 v10)
def L7 (k:Nat)(x0:Dt38)(x1:Dt38)(x5:Int):Option (Int×Unit):=heads (spec.env cals T Tryz.f116) (Func.pts Tryz.f116) k 7 (m7 x0 x1 x5)
theorem L7_succ (k:Nat)(x0:Dt38)(x1:Dt38)(x5:Int):L7 (k+1) x0 x1 x5=b7 (L7 k) x0 x1 x5:=by kernel_rfl
theorem eval (k:Nat)(a0:Dt38)(a1:Dt38):evalF spec cals T Tryz.f116 k (a0,a1,())=e (L7 k) a0 a1:=by kernel_rfl
theorem of (k:Nat)(a0:Dt38)(a1:Dt38){y:Int×Unit}(h:e (L7 k) a0 a1=some y):F (a0,a1,())=some y:=limF_of k ((eval k a0 a1).trans h)
end nat_Cmp
namespace bits_Div32
def spec:Spec:=⟨[(false,(.int .u32)),(false,(.int .u32)),(false,(.int .u32))],[(false,(.int .u32)),(false,(.int .u32))],.own,fun j=>match j with|_=>[]⟩
def cals:Cals:=(Cals.base tabs)
def sig:Sig:=spec.sig cals T Tryz.f128
def F (x:Int×Int×Int×Unit):Option (Int×Int×Unit):=limF spec cals T Tryz.f128 x
theorem ck:CalsOk Tryz.prog cals:=(CalsOk.base tabsOk)
theorem cal:CalOk Tryz.prog tabs 128 sig:=calOk_lim' tabOk ck mix Tryz.func128 (by kernel_rfl) (by kernel_rfl) (by kernel_rfl) (by kernel_rfl)
def e (a0:Int)(a1:Int)(a2:Int):Option (Int×Int×Unit):=
 let v1:=(a2 != (0:Int))
 bif v1 then(let v2:=decide (a2≤a0)
 bif v2 then(none)
 else(let v3:=IntKind.u64.wrap a0
 bif decide ((32:Int)<0)then none
 else(let v4:=shlI .u64 v3 (32:Int)
 let v5:=IntKind.u64.wrap a1
 let v6:=bitsOp .or .u64 v4 v5
 let v7:=IntKind.u64.wrap a2
 bif decide (v7=0)then none
 else(let v8:=IntKind.u64.wrap (Int.tdiv v6 v7)
 let v9:=IntKind.u32.wrap v8
 let v10:=IntKind.u64.wrap a2
 bif decide (v10=0)then none
 else(let v11:=Int.tmod v6 v10
 let v12:=IntKind.u32.wrap v11
 some (v9,v12,()))))))
 else(let v13:=IntKind.u64.wrap a0
 bif decide ((32:Int)<0)then none
 else(let v14:=shlI .u64 v13 (32:Int)
 let v15:=IntKind.u64.wrap a1
 let v16:=bitsOp .or .u64 v14 v15
 let v17:=IntKind.u64.wrap a2
 bif decide (v17=0)then none
 else(let v18:=IntKind.u64.wrap (Int.tdiv v16 v17)
 let v19:=IntKind.u32.wrap v18
 let v20:=IntKind.u64.wrap a2
 bif decide (v20=0)then none
 else(let v21:=Int.tmod v16 v20
 let v22:=IntKind.u32.wrap v21
 some (v19,v22,())))))
theorem eval (k:Nat)(a0:Int)(a1:Int)(a2:Int):evalF spec cals T Tryz.f128 k (a0,a1,a2,())=e a0 a1 a2:=by kernel_rfl
theorem of (k:Nat)(a0:Int)(a1:Int)(a2:Int){y:Int×Int×Unit}(h:e a0 a1 a2=some y):F (a0,a1,a2,())=some y:=limF_of k ((eval k a0 a1 a2).trans h)
end bits_Div32
namespace nat_short
def spec:Spec:=⟨[(false,Kt38),(false,(.int .u32))],[(false,Kt38),(false,(.int .u32))],.own,fun j=>match j with|4=>[(0,.lf (.z 114 (.int .u32) false)),(1,.lf (.v false)),(6,.lf (.o 114 (.int .u32) true)),(7,.lf (.v true)),(8,.lf (.v true))]|_=>[]⟩
def cals:Cals:=(Cals.cons 128 bits_Div32.sig (Cals.base tabs))
def sig:Sig:=spec.sig cals T Tryz.f117
def F (x:Dt38×Int×Unit):Option (Dt38×Int×Unit):=limF spec cals T Tryz.f117 x
theorem ck:CalsOk Tryz.prog cals:=(CalsOk.cons bits_Div32.cal (CalsOk.base tabsOk))
theorem cal:CalOk Tryz.prog tabs 117 sig:=calOk_lim' tabOk ck mix Tryz.func117 (by kernel_rfl) (by kernel_rfl) (by kernel_rfl) (by kernel_rfl)
def m4 (x0:Dt38)(x1:Int)(x6:Dt38)(x7:Int)(x8:Int):S:=⟨[(0,.one (.lf (.val false Kt38 x0))),(1,.one (.lf (.val false (.int .u32) x1))),(6,.one (.lf (.own 0))),(7,.one (.lf (.val true (.int .u32) x7))),(8,.one (.lf (.val true (.int .i64) x8)))],⟨[some ⟨114,(.int .u32),true,true,x6⟩],[]⟩⟩
def b4 (f4:Dt38→Int→Dt38→Int→Int→Option (Dt38×Int×Unit))(x0:Dt38)(x1:Int)(x6:Dt38)(x7:Int)(x8:Int):Option (Dt38×Int×Unit):=
 let v1:=decide (x8≥(0:Int))
 bif v1 then(bif decide (0≤x8)&&decide (x8<(List.length x0:Int))then(let v2:=List.getD x0 (Int.toNat x8) (0:Int)
 (bits_Div32.F (x7,v2,x1,())).bind fun y3=>
 bif decide (0≤x8)&&decide (x8<(List.length x6:Int))then(let v4:=List.set x6 (Int.toNat x8) y3.1
 let v5:=IntKind.i64.wrap (x8-(1:Int))
 f4 x0 x1 v4 y3.2.1 v5)
 else none)
 else none)
 else(some (x6,x7,()))
def e (f4:Dt38→Int→Dt38→Int→Int→Option (Dt38×Int×Unit))(a0:Dt38)(a1:Int):Option (Dt38×Int×Unit):=
 let v1:=(List.length a0:Int)
 bif decide (0≤v1)&&(decide (v1≤v1)&&(decide (Int.toNat v1*4≤281474976710656)&&Nat.blt 0 4))then(let v2:=List.replicate (Int.toNat v1) (0:Int)
 let v3:=(List.length a0:Int)
 let v4:=IntKind.i64.wrap (v3-(1:Int))
 f4 a0 a1 v2 (0:Int) v4)
 else none
def L4 (k:Nat)(x0:Dt38)(x1:Int)(x6:Dt38)(x7:Int)(x8:Int):Option (Dt38×Int×Unit):=heads (spec.env cals T Tryz.f117) (Func.pts Tryz.f117) k 4 (m4 x0 x1 x6 x7 x8)
theorem L4_succ (k:Nat)(x0:Dt38)(x1:Int)(x6:Dt38)(x7:Int)(x8:Int):L4 (k+1) x0 x1 x6 x7 x8=b4 (L4 k) x0 x1 x6 x7 x8:=by kernel_rfl
theorem eval (k:Nat)(a0:Dt38)(a1:Int):evalF spec cals T Tryz.f117 k (a0,a1,())=e (L4 k) a0 a1:=by kernel_rfl
theorem of (k:Nat)(a0:Dt38)(a1:Int){y:Dt38×Int×Unit}(h:e (L4 k) a0 a1=some y):F (a0,a1,())=some y:=limF_of k ((eval k a0 a1).trans h)
end nat_short
namespace bits_LeadingZeros32
def spec:Spec:=⟨[(false,(.int .u32))],[(false,(.int .i64))],.own,fun j=>match j with|_=>[]⟩
def cals:Cals:=(Cals.cons 105 bits_Len32.sig (Cals.base tabs))
def sig:Sig:=spec.sig cals T Tryz.f129
def F (x:Int×Unit):Option (Int×Unit):=limF spec cals T Tryz.f129 x
theorem ck:CalsOk Tryz.prog cals:=(CalsOk.cons bits_Len32.cal (CalsOk.base tabsOk))
theorem cal:CalOk Tryz.prog tabs 129 sig:=calOk_lim' tabOk ck mix Tryz.func129 (by kernel_rfl) (by kernel_rfl) (by kernel_rfl) (by kernel_rfl)
def e (a0:Int):Option (Int×Unit):=
 (bits_Len32.F (a0,())).bind fun y1=>
 let v2:=IntKind.i64.wrap ((32:Int)-y1.1)
 some (v2,())
theorem eval (k:Nat)(a0:Int):evalF spec cals T Tryz.f129 k (a0,())=e a0:=by kernel_rfl
theorem of (k:Nat)(a0:Int){y:Int×Unit}(h:e a0=some y):F (a0,())=some y:=limF_of k ((eval k a0).trans h)
end bits_LeadingZeros32
namespace nat_moved
def spec:Spec:=⟨[(false,Kt38),(false,(.int .i64))],[(false,Kt38)],.own,fun j=>match j with|3=>[(0,.lf (.z 114 (.int .u32) false)),(1,.lf (.v false)),(5,.lf (.o 114 (.int .u32) true)),(12,.lf (.v true)),(13,.lf (.v true))]|_=>[]⟩
def cals:Cals:=(Cals.base tabs)
def sig:Sig:=spec.sig cals T Tryz.f130
def F (x:Dt38×Int×Unit):Option (Dt38×Unit):=limF spec cals T Tryz.f130 x
theorem ck:CalsOk Tryz.prog cals:=(CalsOk.base tabsOk)
theorem cal:CalOk Tryz.prog tabs 130 sig:=calOk_lim' tabOk ck mix Tryz.func130 (by kernel_rfl) (by kernel_rfl) (by kernel_rfl) (by kernel_rfl)
def m3 (x0:Dt38)(x1:Int)(x5:Dt38)(x12:Int)(x13:Int):S:=⟨[(0,.one (.lf (.val false Kt38 x0))),(1,.one (.lf (.val false (.int .i64) x1))),(5,.one (.lf (.own 0))),(12,.one (.lf (.val true (.int .i64) x12))),(13,.one (.lf (.val true (.int .i64) x13)))],⟨[some ⟨114,(.int .u32),true,true,x5⟩],[]⟩⟩
def b3 (f3:Dt38→Int→Dt38→Int→Int→Option (Dt38×Unit))(x0:Dt38)(x1:Int)(x5:Dt38)(x12:Int)(x13:Int):Option (Dt38×Unit):=
 let v1:=decide (x13<x12)
 bif v1 then(bif decide (0≤x13)&&decide (x13<(List.length x5:Int))then(let v2:=List.getD x5 (Int.toNat x13) (0:Int)
 bif decide (0≤x13)&&decide (x13<(List.length x0:Int))then(let v3:=List.getD x0 (Int.toNat x13) (0:Int)
 bif decide (x1<0)then none
 else(let v4:=shlI .u32 v3 x1
 let v5:=bitsOp .or .u32 v2 v4
 bif decide (0≤x13)&&decide (x13<(List.length x5:Int))then(let v6:=List.set x5 (Int.toNat x13) v5
 let v7:=IntKind.i64.wrap (x13+(1:Int))
 bif decide (0≤x13)&&decide (x13<(List.length x0:Int))then(let v8:=List.getD x0 (Int.toNat x13) (0:Int)
 let v9:=IntKind.u64.wrap v8
 let v10:=IntKind.i64.wrap ((32:Int)-x1)
 bif decide (v10<0)then none
 else(let v11:=shrI .u64 v9 v10
 let v12:=IntKind.u32.wrap v11
 bif decide (0≤v7)&&decide (v7<(List.length v6:Int))then(let v13:=List.set v6 (Int.toNat v7) v12
 let v14:=IntKind.i64.wrap (x13+(1:Int))
 f3 x0 x1 v13 x12 v14)
 else none))
 else none)
 else none))
 else none)
 else none)
 else(some (x5,()))
def e (f3:Dt38→Int→Dt38→Int→Int→Option (Dt38×Unit))(a0:Dt38)(a1:Int):Option (Dt38×Unit):=
 let v1:=(List.length a0:Int)
 let v2:=IntKind.i64.wrap (v1+(1:Int))
 bif decide (0≤v2)&&(decide (v2≤v2)&&(decide (Int.toNat v2*4≤281474976710656)&&Nat.blt 0 4))then(let v3:=List.replicate (Int.toNat v2) (0:Int)
 let v4:=(List.length a0:Int)
 f3 a0 a1 v3 v4 (0:Int))
 else none
def L3 (k:Nat)(x0:Dt38)(x1:Int)(x5:Dt38)(x12:Int)(x13:Int):Option (Dt38×Unit):=heads (spec.env cals T Tryz.f130) (Func.pts Tryz.f130) k 3 (m3 x0 x1 x5 x12 x13)
theorem L3_succ (k:Nat)(x0:Dt38)(x1:Int)(x5:Dt38)(x12:Int)(x13:Int):L3 (k+1) x0 x1 x5 x12 x13=b3 (L3 k) x0 x1 x5 x12 x13:=by kernel_rfl
theorem eval (k:Nat)(a0:Dt38)(a1:Int):evalF spec cals T Tryz.f130 k (a0,a1,())=e (L3 k) a0 a1:=by kernel_rfl
theorem of (k:Nat)(a0:Dt38)(a1:Int){y:Dt38×Unit}(h:e (L3 k) a0 a1=some y):F (a0,a1,())=some y:=limF_of k ((eval k a0 a1).trans h)
end nat_moved
namespace bits_Sub32
def spec:Spec:=⟨[(false,(.int .u32)),(false,(.int .u32)),(false,(.int .u32))],[(false,(.int .u32)),(false,(.int .u32))],.own,fun j=>match j with|_=>[]⟩
def cals:Cals:=(Cals.base tabs)
def sig:Sig:=spec.sig cals T Tryz.f135
def F (x:Int×Int×Int×Unit):Option (Int×Int×Unit):=limF spec cals T Tryz.f135 x
theorem ck:CalsOk Tryz.prog cals:=(CalsOk.base tabsOk)
theorem cal:CalOk Tryz.prog tabs 135 sig:=calOk_lim' tabOk ck mix Tryz.func135 (by kernel_rfl) (by kernel_rfl) (by kernel_rfl) (by kernel_rfl)
def e (a0:Int)(a1:Int)(a2:Int):Option (Int×Int×Unit):=
 let v1:=IntKind.u32.wrap (a0-a1)
 let v2:=IntKind.u32.wrap (v1-a2)
 let v3:=bitsOp .xor .u32 (if IntKind.u32.signed then -1 else IntKind.u32.max) a0
 let v4:=bitsOp .and .u32 v3 a1
 let v5:=bitsOp .xor .u32 a0 a1
 let v6:=bitsOp .xor .u32 (if IntKind.u32.signed then -1 else IntKind.u32.max) v5
 let v7:=bitsOp .and .u32 v6 v2
 let v8:=bitsOp .or .u32 v4 v7
 bif decide ((31:Int)<0)then none
 else(let v9:=shrI .u32 v8 (31:Int)
 some (v2,v9,()))
theorem eval (k:Nat)(a0:Int)(a1:Int)(a2:Int):evalF spec cals T Tryz.f135 k (a0,a1,a2,())=e a0 a1 a2:=by kernel_rfl
theorem of (k:Nat)(a0:Int)(a1:Int)(a2:Int){y:Int×Int×Unit}(h:e a0 a1 a2=some y):F (a0,a1,a2,())=some y:=limF_of k ((eval k a0 a1 a2).trans h)
end bits_Sub32
namespace bits_Add32
def spec:Spec:=⟨[(false,(.int .u32)),(false,(.int .u32)),(false,(.int .u32))],[(false,(.int .u32)),(false,(.int .u32))],.own,fun j=>match j with|_=>[]⟩
def cals:Cals:=(Cals.base tabs)
def sig:Sig:=spec.sig cals T Tryz.f136
def F (x:Int×Int×Int×Unit):Option (Int×Int×Unit):=limF spec cals T Tryz.f136 x
theorem ck:CalsOk Tryz.prog cals:=(CalsOk.base tabsOk)
theorem cal:CalOk Tryz.prog tabs 136 sig:=calOk_lim' tabOk ck mix Tryz.func136 (by kernel_rfl) (by kernel_rfl) (by kernel_rfl) (by kernel_rfl)
def e (a0:Int)(a1:Int)(a2:Int):Option (Int×Int×Unit):=
 let v1:=IntKind.u64.wrap a0
 let v2:=IntKind.u64.wrap a1
 let v3:=IntKind.u64.wrap (v1+v2)
 let v4:=IntKind.u64.wrap a2
 let v5:=IntKind.u64.wrap (v3+v4)
 let v6:=IntKind.u32.wrap v5
 bif decide ((32:Int)<0)then none
 else(let v7:=shrI .u64 v5 (32:Int)
 let v8:=IntKind.u32.wrap v7
 some (v6,v8,()))
theorem eval (k:Nat)(a0:Int)(a1:Int)(a2:Int):evalF spec cals T Tryz.f136 k (a0,a1,a2,())=e a0 a1 a2:=by kernel_rfl
theorem of (k:Nat)(a0:Int)(a1:Int)(a2:Int){y:Int×Int×Unit}(h:e a0 a1 a2=some y):F (a0,a1,a2,())=some y:=limF_of k ((eval k a0 a1 a2).trans h)
end bits_Add32
namespace nat_digit
def spec:IoSpec:=⟨114,(.int .u32),[(false,Kt38)],[(false,(.int .u32))],fun j=>match j with|4=>[(0,.sub true),(1,.lf (.z 114 (.int .u32) false)),(5,.lf (.v true)),(7,.lf (.v true)),(8,.lf (.v true))]|10=>[(0,.sub true),(1,.lf (.z 114 (.int .u32) false)),(5,.lf (.v true)),(7,.lf (.v true)),(9,.lf (.v true)),(10,.lf (.v true)),(82,.lf (.v true)),(83,.lf (.v true))]|21=>[(0,.sub true),(1,.lf (.z 114 (.int .u32) false)),(5,.lf (.v true)),(7,.lf (.v true)),(13,.lf (.v true)),(130,.lf (.v true)),(131,.lf (.v true))]|_=>[]⟩
def cals:Cals:=(Cals.cons 135 bits_Sub32.sig (Cals.cons 136 bits_Add32.sig (Cals.base tabs)))
def sig:IoSig:=spec.sig cals T Tryz.f131
def F (zs:List Int)(o n:Nat)(x:Dt38×Unit):Option ((Int×Unit)×List Int):=limIO spec cals T Tryz.f131 zs o n x
theorem ck:CalsOk Tryz.prog cals:=(CalsOk.cons bits_Sub32.cal (CalsOk.cons bits_Add32.cal (CalsOk.base tabsOk)))
theorem cal:IoOk Tryz.prog 131 sig:=io_of' tabOk ck mix Tryz.func131 (by kernel_rfl) (by kernel_rfl) (by kernel_rfl) (by kernel_rfl) rfl
def m4 (x0:Dt38)(x0_o:Nat)(x0_n:Nat)(x0_g:(Nat×Nat))(x1:Dt38)(x5:Int)(x7:Int)(x8:Int):S:=⟨[(0,.sub 0 x0_o x0_n (some x0_g)),(1,.one (.lf (.val false Kt38 x1))),(5,.one (.lf (.val true (.int .i64) x5))),(7,.one (.lf (.val true (.int .u64) x7))),(8,.one (.lf (.val true (.int .u64) x8)))],⟨[some ⟨114,(.int .u32),true,true,x0⟩],[]⟩⟩
def m10 (x0:Dt38)(x0_o:Nat)(x0_n:Nat)(x0_g:(Nat×Nat))(x1:Dt38)(x5:Int)(x7:Int)(x9:Int)(x10:Int)(x82:Int)(x83:Int):S:=⟨[(0,.sub 0 x0_o x0_n (some x0_g)),(1,.one (.lf (.val false Kt38 x1))),(5,.one (.lf (.val true (.int .i64) x5))),(7,.one (.lf (.val true (.int .u64) x7))),(9,.one (.lf (.val true (.int .u32) x9))),(10,.one (.lf (.val true (.int .u64) x10))),(82,.one (.lf (.val true (.int .i64) x82))),(83,.one (.lf (.val true (.int .i64) x83)))],⟨[some ⟨114,(.int .u32),true,true,x0⟩],[]⟩⟩
def m21 (x0:Dt38)(x0_o:Nat)(x0_n:Nat)(x0_g:(Nat×Nat))(x1:Dt38)(x5:Int)(x7:Int)(x13:Int)(x130:Int)(x131:Int):S:=⟨[(0,.sub 0 x0_o x0_n (some x0_g)),(1,.one (.lf (.val false Kt38 x1))),(5,.one (.lf (.val true (.int .i64) x5))),(7,.one (.lf (.val true (.int .u64) x7))),(13,.one (.lf (.val true (.int .u32) x13))),(130,.one (.lf (.val true (.int .i64) x130))),(131,.one (.lf (.val true (.int .i64) x131)))],⟨[some ⟨114,(.int .u32),true,true,x0⟩],[]⟩⟩
def b4 (f4:Dt38→Nat→Nat→(Nat×Nat)→Dt38→Int→Int→Int→Option ((Int×Unit)×List Int×(Nat×Nat)))(f10:Dt38→Nat→Nat→(Nat×Nat)→Dt38→Int→Int→Int→Int→Int→Int→Option ((Int×Unit)×List Int×(Nat×Nat)))(f21:Dt38→Nat→Nat→(Nat×Nat)→Dt38→Int→Int→Int→Int→Int→Option ((Int×Unit)×List Int×(Nat×Nat)))(x0:Dt38)(x0_o:Nat)(x0_n:Nat)(x0_g:(Nat×Nat))(x1:Dt38)(x5:Int)(x7:Int)(x8:Int):Option ((Int×Unit)×List Int×(Nat×Nat)):=
 bif decide ((32:Int)<0)then none
 else(let v1:=shrI .u64 x7 (32:Int)
 let v2:=(v1 != (0:Int))
 bif v2 then(let v3:=IntKind.u64.wrap (x7-(1:Int))
 let v4:=IntKind.i64.wrap (x5-(1:Int))
 bif decide (0≤v4)&&decide (v4<(List.length x1:Int))then(let v5:=List.getD x1 (Int.toNat v4) (0:Int)
 let v6:=IntKind.u64.wrap v5
 let v7:=IntKind.u64.wrap (x8+v6)
 bif decide ((32:Int)<0)then none
 else(let v8:=shrI .u64 v7 (32:Int)
 let v9:=(v8 != (0:Int))
 bif v9 then(f10 x0 x0_o x0_n x0_g x1 x5 v3 (0:Int) (0:Int) x5 (0:Int))
 else(f4 x0 x0_o x0_n x0_g x1 x5 v3 v7)))
 else none)
 else(let v10:=IntKind.i64.wrap (x5-(2:Int))
 bif decide (0≤v10)&&decide (v10<(List.length x1:Int))then(let v11:=List.getD x1 (Int.toNat v10) (0:Int)
 let v12:=IntKind.u64.wrap v11
 let v13:=IntKind.u64.wrap (x7*v12)
 bif decide ((32:Int)<0)then none
 else(let v14:=shlI .u64 x8 (32:Int)
 let v15:=IntKind.i64.wrap (x5-(2:Int))
 bif decide (0≤v15)&&decide (v15<((x0_n:Nat):Int))then(let v16:=List.getD x0 (x0_o+Int.toNat v15) (0:Int)
 let v17:=IntKind.u64.wrap v16
 let v18:=bitsOp .or .u64 v14 v17
 let v19:=decide (v13>v18)
 bif v19 then(let v20:=IntKind.u64.wrap (x7-(1:Int))
 let v21:=IntKind.i64.wrap (x5-(1:Int))
 bif decide (0≤v21)&&decide (v21<(List.length x1:Int))then(let v22:=List.getD x1 (Int.toNat v21) (0:Int)
 let v23:=IntKind.u64.wrap v22
 let v24:=IntKind.u64.wrap (x8+v23)
 bif decide ((32:Int)<0)then none
 else(let v25:=shrI .u64 v24 (32:Int)
 let v26:=(v25 != (0:Int))
 bif v26 then(f10 x0 x0_o x0_n x0_g x1 x5 v20 (0:Int) (0:Int) x5 (0:Int))
 else(f4 x0 x0_o x0_n x0_g x1 x5 v20 v24)))
 else none)
 else(f10 x0 x0_o x0_n x0_g x1 x5 x7 (0:Int) (0:Int) x5 (0:Int)))
 else none))
 else none))
def b10 (f4:Dt38→Nat→Nat→(Nat×Nat)→Dt38→Int→Int→Int→Option ((Int×Unit)×List Int×(Nat×Nat)))(f10:Dt38→Nat→Nat→(Nat×Nat)→Dt38→Int→Int→Int→Int→Int→Int→Option ((Int×Unit)×List Int×(Nat×Nat)))(f21:Dt38→Nat→Nat→(Nat×Nat)→Dt38→Int→Int→Int→Int→Int→Option ((Int×Unit)×List Int×(Nat×Nat)))(x0:Dt38)(x0_o:Nat)(x0_n:Nat)(x0_g:(Nat×Nat))(x1:Dt38)(x5:Int)(x7:Int)(x9:Int)(x10:Int)(x82:Int)(x83:Int):Option ((Int×Unit)×List Int×(Nat×Nat)):=
 let v1:=decide (x83<x82)
 bif v1 then(bif decide (0≤x83)&&decide (x83<(List.length x1:Int))then(let v2:=List.getD x1 (Int.toNat x83) (0:Int)
 let v3:=IntKind.u64.wrap v2
 let v4:=IntKind.u64.wrap (x7*v3)
 let v5:=IntKind.u64.wrap (v4+x10)
 bif decide ((32:Int)<0)then none
 else(let v6:=shrI .u64 v5 (32:Int)
 bif decide (0≤x83)&&decide (x83<((x0_n:Nat):Int))then(let v7:=List.getD x0 (x0_o+Int.toNat x83) (0:Int)
 let v8:=IntKind.u32.wrap v5
 (bits_Sub32.F (v7,v8,x9,())).bind fun y9=>
 bif decide (0≤x83)&&decide (x83<((x0_n:Nat):Int))then(let v10:=List.set x0 (x0_o+Int.toNat x83) y9.1
 let v11:=IntKind.i64.wrap (x83+(1:Int))
 f10 v10 x0_o x0_n x0_g x1 x5 x7 y9.2.1 v6 x82 v11)
 else none)
 else none))
 else none)
 else(bif decide (0≤x5)&&decide (x5<((x0_n:Nat):Int))then(let v12:=List.getD x0 (x0_o+Int.toNat x5) (0:Int)
 let v13:=IntKind.u32.wrap x10
 (bits_Sub32.F (v12,v13,x9,())).bind fun y14=>
 bif decide (0≤x5)&&decide (x5<((x0_n:Nat):Int))then(let v15:=List.set x0 (x0_o+Int.toNat x5) y14.1
 let v16:=(y14.2.1==(1:Int))
 bif v16 then(let v17:=IntKind.u64.wrap (x7-(1:Int))
 f21 v15 x0_o x0_n x0_g x1 x5 v17 (0:Int) x5 (0:Int))
 else(let v18:=IntKind.u32.wrap x7
 bif Nat.blt 0 x0_n&&true then(some ((v18,()),v15,x0_g))
 else none))
 else none)
 else none)
def b21 (f4:Dt38→Nat→Nat→(Nat×Nat)→Dt38→Int→Int→Int→Option ((Int×Unit)×List Int×(Nat×Nat)))(f10:Dt38→Nat→Nat→(Nat×Nat)→Dt38→Int→Int→Int→Int→Int→Int→Option ((Int×Unit)×List Int×(Nat×Nat)))(f21:Dt38→Nat→Nat→(Nat×Nat)→Dt38→Int→Int→Int→Int→Int→Option ((Int×Unit)×List Int×(Nat×Nat)))(x0:Dt38)(x0_o:Nat)(x0_n:Nat)(x0_g:(Nat×Nat))(x1:Dt38)(x5:Int)(x7:Int)(x13:Int)(x130:Int)(x131:Int):Option ((Int×Unit)×List Int×(Nat×Nat)):=
 let v1:=decide (x131<x130)
 bif v1 then(bif decide (0≤x131)&&decide (x131<((x0_n:Nat):Int))then(let v2:=List.getD x0 (x0_o+Int.toNat x131) (0:Int)
 bif decide (0≤x131)&&decide (x131<(List.length x1:Int))then(let v3:=List.getD x1 (Int.toNat x131) (0:Int)
 (bits_Add32.F (v2,v3,x13,())).bind fun y4=>
 bif decide (0≤x131)&&decide (x131<((x0_n:Nat):Int))then(let v5:=List.set x0 (x0_o+Int.toNat x131) y4.1
 let v6:=IntKind.i64.wrap (x131+(1:Int))
 f21 v5 x0_o x0_n x0_g x1 x5 x7 y4.2.1 x130 v6)
 else none)
 else none)
 else none)
 else(bif decide (0≤x5)&&decide (x5<((x0_n:Nat):Int))then(let v7:=List.getD x0 (x0_o+Int.toNat x5) (0:Int)
 let v8:=IntKind.u32.wrap (v7+x13)
 bif decide (0≤x5)&&decide (x5<((x0_n:Nat):Int))then(let v9:=List.set x0 (x0_o+Int.toNat x5) v8
 let v10:=IntKind.u32.wrap x7
 bif Nat.blt 0 x0_n&&true then(some ((v10,()),v9,x0_g))
 else none)
 else none)
 else none)
def e (f4:Dt38→Nat→Nat→(Nat×Nat)→Dt38→Int→Int→Int→Option ((Int×Unit)×List Int×(Nat×Nat)))(f10:Dt38→Nat→Nat→(Nat×Nat)→Dt38→Int→Int→Int→Int→Int→Int→Option ((Int×Unit)×List Int×(Nat×Nat)))(f21:Dt38→Nat→Nat→(Nat×Nat)→Dt38→Int→Int→Int→Int→Int→Option ((Int×Unit)×List Int×(Nat×Nat)))(zs:List Int)(o n:Nat)(g:Nat×Nat)(a1:Dt38):Option ((Int×Unit)×List Int×(Nat×Nat)):=
 let v1:=(List.length a1:Int)
 bif decide (0≤v1)&&decide (v1<((n:Nat):Int))then(let v2:=List.getD zs (o+Int.toNat v1) (0:Int)
 let v3:=IntKind.u64.wrap v2
 bif decide ((32:Int)<0)then none
 else(let v4:=shlI .u64 v3 (32:Int)
 let v5:=IntKind.i64.wrap (v1-(1:Int))
 bif decide (0≤v5)&&decide (v5<((n:Nat):Int))then(let v6:=List.getD zs (o+Int.toNat v5) (0:Int)
 let v7:=IntKind.u64.wrap v6
 let v8:=bitsOp .or .u64 v4 v7
 let v9:=IntKind.i64.wrap (v1-(1:Int))
 bif decide (0≤v9)&&decide (v9<(List.length a1:Int))then(let v10:=List.getD a1 (Int.toNat v9) (0:Int)
 let v11:=IntKind.u64.wrap v10
 bif decide (v11=0)then none
 else(let v12:=IntKind.u64.wrap (Int.tdiv v8 v11)
 let v13:=IntKind.i64.wrap (v1-(1:Int))
 bif decide (0≤v13)&&decide (v13<(List.length a1:Int))then(let v14:=List.getD a1 (Int.toNat v13) (0:Int)
 let v15:=IntKind.u64.wrap v14
 bif decide (v15=0)then none
 else(let v16:=Int.tmod v8 v15
 f4 zs o n g a1 v1 v12 v16))
 else none))
 else none)
 else none))
 else none
def L4 (k:Nat)(x0:Dt38)(x0_o:Nat)(x0_n:Nat)(x0_g:(Nat×Nat))(x1:Dt38)(x5:Int)(x7:Int)(x8:Int):Option ((Int×Unit)×List Int×(Nat×Nat)):=heads (spec.env cals T Tryz.f131) (Func.pts Tryz.f131) k 4 (m4 x0 x0_o x0_n x0_g x1 x5 x7 x8)
def L10 (k:Nat)(x0:Dt38)(x0_o:Nat)(x0_n:Nat)(x0_g:(Nat×Nat))(x1:Dt38)(x5:Int)(x7:Int)(x9:Int)(x10:Int)(x82:Int)(x83:Int):Option ((Int×Unit)×List Int×(Nat×Nat)):=heads (spec.env cals T Tryz.f131) (Func.pts Tryz.f131) k 10 (m10 x0 x0_o x0_n x0_g x1 x5 x7 x9 x10 x82 x83)
def L21 (k:Nat)(x0:Dt38)(x0_o:Nat)(x0_n:Nat)(x0_g:(Nat×Nat))(x1:Dt38)(x5:Int)(x7:Int)(x13:Int)(x130:Int)(x131:Int):Option ((Int×Unit)×List Int×(Nat×Nat)):=heads (spec.env cals T Tryz.f131) (Func.pts Tryz.f131) k 21 (m21 x0 x0_o x0_n x0_g x1 x5 x7 x13 x130 x131)
theorem L4_succ (k:Nat)(x0:Dt38)(x0_o:Nat)(x0_n:Nat)(x0_g:(Nat×Nat))(x1:Dt38)(x5:Int)(x7:Int)(x8:Int):L4 (k+1) x0 x0_o x0_n x0_g x1 x5 x7 x8=b4 (L4 k) (L10 k) (L21 k) x0 x0_o x0_n x0_g x1 x5 x7 x8:=by kernel_rfl
theorem L10_succ (k:Nat)(x0:Dt38)(x0_o:Nat)(x0_n:Nat)(x0_g:(Nat×Nat))(x1:Dt38)(x5:Int)(x7:Int)(x9:Int)(x10:Int)(x82:Int)(x83:Int):L10 (k+1) x0 x0_o x0_n x0_g x1 x5 x7 x9 x10 x82 x83=b10 (L4 k) (L10 k) (L21 k) x0 x0_o x0_n x0_g x1 x5 x7 x9 x10 x82 x83:=by kernel_rfl
theorem L21_succ (k:Nat)(x0:Dt38)(x0_o:Nat)(x0_n:Nat)(x0_g:(Nat×Nat))(x1:Dt38)(x5:Int)(x7:Int)(x13:Int)(x130:Int)(x131:Int):L21 (k+1) x0 x0_o x0_n x0_g x1 x5 x7 x13 x130 x131=b21 (L4 k) (L10 k) (L21 k) x0 x0_o x0_n x0_g x1 x5 x7 x13 x130 x131:=by kernel_rfl
theorem eval (k:Nat)(zs:List Int)(o n:Nat)(g:Nat×Nat)(a1:Dt38):evalIO spec cals T Tryz.f131 k zs o n g (a1,())=e (L4 k) (L10 k) (L21 k) zs o n g a1:=by kernel_rfl
theorem of (zs:List Int)(o n:Nat)(a1:Dt38)(y:(Int×Unit))(ws:List Int)(h:∀g,∃k,e (L4 k) (L10 k) (L21 k) zs o n g a1=some (y,ws,g)):F zs o n (a1,())=some (y,ws):=limIO_of (q:=spec) (C:=cals) (T:=T) (f:=Tryz.f131) (x:=(a1,())) y ws fun g=>(h g).imp fun k hk=>(eval k zs o n g a1).trans hk
end nat_digit
namespace nat_long
def spec:Spec:=⟨[(false,Kt38),(false,Kt38)],[(false,Kt38),(false,Kt38)],.own,fun j=>match j with|7=>[(6,.lf (.v true)),(7,.lf (.z 114 (.int .u32) true)),(8,.lf (.o 114 (.int .u32) true)),(9,.lf (.v true)),(10,.lf (.o 114 (.int .u32) true)),(11,.lf (.v true))]|12=>[(6,.lf (.v true)),(8,.lf (.o 114 (.int .u32) true)),(10,.lf (.o 114 (.int .u32) true)),(12,.lf (.o 114 (.int .u32) true)),(60,.lf (.v true)),(61,.lf (.v true))]|_=>[]⟩
def cals:Cals:=(Cals.withSubs [54] (Cals.consIo 131 nat_digit.sig (Cals.cons 129 bits_LeadingZeros32.sig (Cals.cons 130 nat_moved.sig (Cals.cons 115 nat_own.sig (Cals.base tabs))))))
def sig:Sig:=spec.sig cals T Tryz.f118
def F (x:Dt38×Dt38×Unit):Option (Dt38×Dt38×Unit):=limF spec cals T Tryz.f118 x
theorem ck:CalsOk Tryz.prog cals:=(CalsOk.withSubs [54] (CalsOk.consIo nat_digit.cal (CalsOk.cons bits_LeadingZeros32.cal (CalsOk.cons nat_moved.cal (CalsOk.cons nat_own.cal (CalsOk.base tabsOk))))))
theorem cal:CalOk Tryz.prog tabs 118 sig:=calOk_lim' tabOk ck mix Tryz.func118 (by kernel_rfl) (by kernel_rfl) (by kernel_rfl) (by kernel_rfl)
def m7 (x6:Int)(x7:Dt38)(x8:Dt38)(x9:Int)(x10:Dt38)(x11:Int):S:=⟨[(6,.one (.lf (.val true (.int .i64) x6))),(7,.one (.lf (.val true Kt38 x7))),(8,.one (.lf (.own 0))),(9,.one (.lf (.val true (.int .i64) x9))),(10,.one (.lf (.own 1))),(11,.one (.lf (.val true (.int .i64) x11)))],⟨[some ⟨114,(.int .u32),true,true,x8⟩,some ⟨114,(.int .u32),true,true,x10⟩],[]⟩⟩
def m12 (x6:Int)(x8:Dt38)(x10:Dt38)(x12:Dt38)(x60:Int)(x61:Int):S:=⟨[(6,.one (.lf (.val true (.int .i64) x6))),(8,.one (.lf (.own 0))),(10,.one (.lf (.own 1))),(12,.one (.lf (.own 2))),(60,.one (.lf (.val true (.int .i64) x60))),(61,.one (.lf (.val true (.int .i64) x61)))],⟨[some ⟨114,(.int .u32),true,true,x8⟩,some ⟨114,(.int .u32),true,true,x10⟩,some ⟨114,(.int .u32),true,true,x12⟩],[]⟩⟩
def b7 (f7:Int→Dt38→Dt38→Int→Dt38→Int→Option (Dt38×Dt38×Unit))(f12:Int→Dt38→Dt38→Dt38→Int→Int→Option (Dt38×Dt38×Unit))(x6:Int)(x7:Dt38)(x8:Dt38)(x9:Int)(x10:Dt38)(x11:Int):Option (Dt38×Dt38×Unit):=
 let v1:=decide (x11≥(0:Int))
 bif v1 then(let v2:=IntKind.i64.wrap (x11+x9)
 let v3:=IntKind.i64.wrap (v2+(1:Int))
 bif decide (0≤x11)&&(decide (x11≤v3)&&decide (v3≤(List.length x8:Int)))then(bif Nat.blt 0 (Int.toNat (v3-x11))&&true then((nat_digit.F x8 (Int.toNat x11) (Int.toNat (v3-x11)) (x7,())).bind fun y4=>
 bif Nat.beq (List.length y4.2) (List.length x8)then(bif decide (0≤x11)&&decide (x11<(List.length x10:Int))then(let v5:=List.set x10 (Int.toNat x11) y4.1.1
 let v6:=IntKind.i64.wrap (x11-(1:Int))
 f7 x6 x7 y4.2 x9 v5 v6)
 else none)
 else none)
 else none)
 else none)
 else(bif decide (0≤x9)&&(decide (x9≤x9)&&(decide (Int.toNat x9*4≤281474976710656)&&Nat.blt 0 4))then(let v7:=List.replicate (Int.toNat x9) (0:Int)
 f12 x6 x8 x10 v7 x9 (0:Int))
 else none)
def b12 (f7:Int→Dt38→Dt38→Int→Dt38→Int→Option (Dt38×Dt38×Unit))(f12:Int→Dt38→Dt38→Dt38→Int→Int→Option (Dt38×Dt38×Unit))(x6:Int)(x8:Dt38)(x10:Dt38)(x12:Dt38)(x60:Int)(x61:Int):Option (Dt38×Dt38×Unit):=
 let v1:=decide (x61<x60)
 bif v1 then(bif decide (0≤x61)&&decide (x61<(List.length x8:Int))then(let v2:=List.getD x8 (Int.toNat x61) (0:Int)
 bif decide (x6<0)then none
 else(let v3:=shrI .u32 v2 x6
 let v4:=IntKind.i64.wrap (x61+(1:Int))
 bif decide (0≤v4)&&decide (v4<(List.length x8:Int))then(let v5:=List.getD x8 (Int.toNat v4) (0:Int)
 let v6:=IntKind.u64.wrap v5
 let v7:=IntKind.i64.wrap ((32:Int)-x6)
 bif decide (v7<0)then none
 else(let v8:=shlI .u64 v6 v7
 let v9:=IntKind.u32.wrap v8
 let v10:=bitsOp .or .u32 v3 v9
 bif decide (0≤x61)&&decide (x61<(List.length x12:Int))then(let v11:=List.set x12 (Int.toNat x61) v10
 let v12:=IntKind.i64.wrap (x61+(1:Int))
 f12 x6 x8 x10 v11 x60 v12)
 else none))
 else none))
 else none)
 else((nat_own.F (x10,())).bind fun y13=>
 (nat_own.F (x12,())).bind fun y14=>
 some (y13.1,y14.1,()))
def e (f7:Int→Dt38→Dt38→Int→Dt38→Int→Option (Dt38×Dt38×Unit))(f12:Int→Dt38→Dt38→Dt38→Int→Int→Option (Dt38×Dt38×Unit))(a0:Dt38)(a1:Dt38):Option (Dt38×Dt38×Unit):=
 let v1:=(List.length a1:Int)
 let v2:=IntKind.i64.wrap (v1-(1:Int))
 bif decide (0≤v2)&&decide (v2<(List.length a1:Int))then(let v3:=List.getD a1 (Int.toNat v2) (0:Int)
 (bits_LeadingZeros32.F (v3,())).bind fun y4=>
 (nat_moved.F (a1,y4.1,())).bind fun y5=>
 let v6:=(List.length a1:Int)
 bif decide (0≤v6)&&decide (v6≤(List.length y5.1:Int))then(let v7:=List.take (Int.toNat v6) y5.1
 (nat_moved.F (a0,y4.1,())).bind fun y8=>
 let v9:=(List.length v7:Int)
 let v10:=(List.length y8.1:Int)
 let v11:=IntKind.i64.wrap (v10-v9)
 bif decide (0≤v11)&&(decide (v11≤v11)&&(decide (Int.toNat v11*4≤281474976710656)&&Nat.blt 0 4))then(let v12:=List.replicate (Int.toNat v11) (0:Int)
 let v13:=(List.length y8.1:Int)
 let v14:=IntKind.i64.wrap (v13-v9)
 let v15:=IntKind.i64.wrap (v14-(1:Int))
 f7 y4.1 v7 y8.1 v9 v12 v15)
 else none)
 else none)
 else none
def L7 (k:Nat)(x6:Int)(x7:Dt38)(x8:Dt38)(x9:Int)(x10:Dt38)(x11:Int):Option (Dt38×Dt38×Unit):=heads (spec.env cals T Tryz.f118) (Func.pts Tryz.f118) k 7 (m7 x6 x7 x8 x9 x10 x11)
def L12 (k:Nat)(x6:Int)(x8:Dt38)(x10:Dt38)(x12:Dt38)(x60:Int)(x61:Int):Option (Dt38×Dt38×Unit):=heads (spec.env cals T Tryz.f118) (Func.pts Tryz.f118) k 12 (m12 x6 x8 x10 x12 x60 x61)
theorem L7_succ (k:Nat)(x6:Int)(x7:Dt38)(x8:Dt38)(x9:Int)(x10:Dt38)(x11:Int):L7 (k+1) x6 x7 x8 x9 x10 x11=b7 (L7 k) (L12 k) x6 x7 x8 x9 x10 x11:=by kernel_rfl
theorem L12_succ (k:Nat)(x6:Int)(x8:Dt38)(x10:Dt38)(x12:Dt38)(x60:Int)(x61:Int):L12 (k+1) x6 x8 x10 x12 x60 x61=b12 (L7 k) (L12 k) x6 x8 x10 x12 x60 x61:=by kernel_rfl
theorem eval (k:Nat)(a0:Dt38)(a1:Dt38):evalF spec cals T Tryz.f118 k (a0,a1,())=e (L7 k) (L12 k) a0 a1:=by kernel_rfl
theorem of (k:Nat)(a0:Dt38)(a1:Dt38){y:Dt38×Dt38×Unit}(h:e (L7 k) (L12 k) a0 a1=some y):F (a0,a1,())=some y:=limF_of k ((eval k a0 a1).trans h)
end nat_long
namespace nat_Div
def spec:Spec:=⟨[(false,Kt38),(false,Kt38)],[(false,Kt38),(false,Kt38),(false,(.int .i64))],.own,fun j=>match j with|_=>[]⟩
def cals:Cals:=(Cals.cons 104 nat_trim.sig (Cals.cons 116 nat_Cmp.sig (Cals.cons 115 nat_own.sig (Cals.cons 117 nat_short.sig (Cals.cons 118 nat_long.sig (Cals.base tabs))))))
def sig:Sig:=spec.sig cals T Tryz.f107
def F (x:Dt38×Dt38×Unit):Option (Dt38×Dt38×Int×Unit):=limF spec cals T Tryz.f107 x
theorem ck:CalsOk Tryz.prog cals:=(CalsOk.cons nat_trim.cal (CalsOk.cons nat_Cmp.cal (CalsOk.cons nat_own.cal (CalsOk.cons nat_short.cal (CalsOk.cons nat_long.cal (CalsOk.base tabsOk))))))
theorem cal:CalOk Tryz.prog tabs 107 sig:=calOk_lim' tabOk ck mix Tryz.func107 (by kernel_rfl) (by kernel_rfl) (by kernel_rfl) (by kernel_rfl)
def e (a0:Dt38)(a1:Dt38):Option (Dt38×Dt38×Int×Unit):=
 (nat_trim.F (a0,())).bind fun y1=>
 (nat_trim.F (a1,())).bind fun y2=>
 let v3:=(List.length y2.1:Int)
 let v4:=(v3==(0:Int))
 bif v4 then(some (zt38,zt38,(11:Int),()))
 else((nat_Cmp.F (y1.1,y2.1,())).bind fun y5=>
 let v6:=decide (y5.1<(0:Int))
 bif v6 then((nat_own.F (y1.1,())).bind fun y7=>
 some (zt38,y7.1,(0:Int),()))
 else(let v8:=(List.length y2.1:Int)
 let v9:=(v8==(1:Int))
 bif v9 then(bif decide (0≤(0:Int))&&decide ((0:Int)<(List.length y2.1:Int))then(let v10:=List.getD y2.1 (Int.toNat (0:Int)) (0:Int)
 (nat_short.F (y1.1,v10,())).bind fun y11=>
 (nat_own.F (y11.1,())).bind fun y12=>
 let v13:=([y11.2.1]:List Int)
 (nat_own.F (v13,())).bind fun y14=>
 some (y12.1,y14.1,(0:Int),()))
 else none)
 else((nat_long.F (y1.1,y2.1,())).bind fun y15=>
 some (y15.1,y15.2.1,(0:Int),()))))
theorem eval (k:Nat)(a0:Dt38)(a1:Dt38):evalF spec cals T Tryz.f107 k (a0,a1,())=e a0 a1:=by kernel_rfl
theorem of (k:Nat)(a0:Dt38)(a1:Dt38){y:Dt38×Dt38×Int×Unit}(h:e a0 a1=some y):F (a0,a1,())=some y:=limF_of k ((eval k a0 a1).trans h)
end nat_Div
namespace nat_Gcd
def spec:Spec:=⟨[(false,Kt38),(false,Kt38)],[(false,Kt38)],.own,fun j=>match j with|2=>[(0,.lf (.o 114 (.int .u32) true)),(1,.lf (.o 114 (.int .u32) true))]|_=>[]⟩
def cals:Cals:=(Cals.cons 115 nat_own.sig (Cals.cons 107 nat_Div.sig (Cals.base tabs)))
def sig:Sig:=spec.sig cals T Tryz.f106
def F (x:Dt38×Dt38×Unit):Option (Dt38×Unit):=limF spec cals T Tryz.f106 x
theorem ck:CalsOk Tryz.prog cals:=(CalsOk.cons nat_own.cal (CalsOk.cons nat_Div.cal (CalsOk.base tabsOk)))
theorem cal:CalOk Tryz.prog tabs 106 sig:=calOk_lim' tabOk ck mix Tryz.func106 (by kernel_rfl) (by kernel_rfl) (by kernel_rfl) (by kernel_rfl)
def m2 (x0:Dt38)(x1:Dt38):S:=⟨[(0,.one (.lf (.own 0))),(1,.one (.lf (.own 1)))],⟨[some ⟨114,(.int .u32),true,true,x0⟩,some ⟨114,(.int .u32),true,true,x1⟩],[]⟩⟩
def b2 (f2:Dt38→Dt38→Option (Dt38×Unit))(x0:Dt38)(x1:Dt38):Option (Dt38×Unit):=
 let v1:=(List.length x1:Int)
 let v2:=decide (v1>(0:Int))
 bif v2 then((nat_Div.F (x0,x1,())).bind fun y3=>
 f2 x1 y3.2.1)
 else(some (x0,()))
def e (f2:Dt38→Dt38→Option (Dt38×Unit))(a0:Dt38)(a1:Dt38):Option (Dt38×Unit):=
 (nat_own.F (a0,())).bind fun y1=>
 (nat_own.F (a1,())).bind fun y2=>
 f2 y1.1 y2.1
def L2 (k:Nat)(x0:Dt38)(x1:Dt38):Option (Dt38×Unit):=heads (spec.env cals T Tryz.f106) (Func.pts Tryz.f106) k 2 (m2 x0 x1)
theorem L2_succ (k:Nat)(x0:Dt38)(x1:Dt38):L2 (k+1) x0 x1=b2 (L2 k) x0 x1:=by kernel_rfl
theorem eval (k:Nat)(a0:Dt38)(a1:Dt38):evalF spec cals T Tryz.f106 k (a0,a1,())=e (L2 k) a0 a1:=by kernel_rfl
theorem of (k:Nat)(a0:Dt38)(a1:Dt38){y:Dt38×Unit}(h:e (L2 k) a0 a1=some y):F (a0,a1,())=some y:=limF_of k ((eval k a0 a1).trans h)
end nat_Gcd
namespace whole_core
def spec:Spec:=⟨[(false,Kt38)],[(false,Kt38)],.shared,fun j=>match j with|2=>[(0,.lf (.z 114 (.int .u32) true)),(3,.lf (.v true))]|_=>[]⟩
def cals:Cals:=(Cals.base tabs)
def sig:Sig:=spec.sig cals T Tryz.f119
def F (x:Dt38×Unit):Option (Dt38×Unit):=limF spec cals T Tryz.f119 x
theorem ck:CalsOk Tryz.prog cals:=(CalsOk.base tabsOk)
theorem cal:CalOk Tryz.prog tabs 119 sig:=calOk_lim' tabOk ck mix Tryz.func119 (by kernel_rfl) (by kernel_rfl) (by kernel_rfl) (by kernel_rfl)
def m2 (x0:Dt38)(x3:Int):S:=⟨[(0,.one (.lf (.val true Kt38 x0))),(3,.one (.lf (.val true (.int .i64) x3)))],⟨[],[]⟩⟩
def b2 (f2:Dt38→Int→Option (Dt38×Unit))(x0:Dt38)(x3:Int):Option (Dt38×Unit):=
 let v1:=decide (x3>(0:Int))
 bif v1 then(let v2:=IntKind.i64.wrap (x3-(1:Int))
 bif decide (0≤v2)&&decide (v2<(List.length x0:Int))then(let v3:=List.getD x0 (Int.toNat v2) (0:Int)
 let v4:=(v3==(0:Int))
 bif v4 then(let v5:=IntKind.i64.wrap (x3-(1:Int))
 f2 x0 v5)
 else(bif decide (0≤x3)&&(decide (x3≤x3)&&decide (x3≤(List.length x0:Int)))then(let v6:=List.take (Int.toNat x3) x0
 some (v6,()))
 else none))
 else none)
 else(bif decide (0≤x3)&&(decide (x3≤x3)&&decide (x3≤(List.length x0:Int)))then(let v7:=List.take (Int.toNat x3) x0
 some (v7,()))
 else none)
def e (f2:Dt38→Int→Option (Dt38×Unit))(a0:Dt38):Option (Dt38×Unit):=
 let v1:=(List.length a0:Int)
 f2 a0 v1
def L2 (k:Nat)(x0:Dt38)(x3:Int):Option (Dt38×Unit):=heads (spec.env cals T Tryz.f119) (Func.pts Tryz.f119) k 2 (m2 x0 x3)
theorem L2_succ (k:Nat)(x0:Dt38)(x3:Int):L2 (k+1) x0 x3=b2 (L2 k) x0 x3:=by kernel_rfl
theorem eval (k:Nat)(a0:Dt38):evalF spec cals T Tryz.f119 k (a0,())=e (L2 k) a0:=by kernel_rfl
theorem of (k:Nat)(a0:Dt38){y:Dt38×Unit}(h:e (L2 k) a0=some y):F (a0,())=some y:=limF_of k ((eval k a0).trans h)
end whole_core
namespace whole_Sign
def spec:Spec:=⟨[(true,Kt40)],[(false,(.int .i64))],.own,fun j=>match j with|_=>[]⟩
def cals:Cals:=(Cals.cons 119 whole_core.sig (Cals.base tabs))
def sig:Sig:=spec.sig cals T Tryz.f109
def F (x:Dt40×Unit):Option (Int×Unit):=limF spec cals T Tryz.f109 x
theorem ck:CalsOk Tryz.prog cals:=(CalsOk.cons whole_core.cal (CalsOk.base tabsOk))
theorem cal:CalOk Tryz.prog tabs 109 sig:=calOk_lim' tabOk ck mix Tryz.func109 (by kernel_rfl) (by kernel_rfl) (by kernel_rfl) (by kernel_rfl)
def e (a0:Dt40):Option (Int×Unit):=
 (whole_core.F (a0.2,())).bind fun y1=>
 let v2:=(List.length y1.1:Int)
 let v3:=(v2==(0:Int))
 bif v3 then(some ((0:Int),()))
 else(bif a0.1 then(some ((-1:Int),()))
 else(some ((1:Int),())))
theorem eval (k:Nat)(a0:Dt40):evalF spec cals T Tryz.f109 k (a0,())=e a0:=by kernel_rfl
theorem of (k:Nat)(a0:Dt40){y:Int×Unit}(h:e a0=some y):F (a0,())=some y:=limF_of k ((eval k a0).trans h)
end whole_Sign
namespace nat_Norm
def spec:Spec:=⟨[(false,Kt38)],[(false,Kt38)],.own,fun j=>match j with|_=>[]⟩
def cals:Cals:=(Cals.cons 115 nat_own.sig (Cals.base tabs))
def sig:Sig:=spec.sig cals T Tryz.f122
def F (x:Dt38×Unit):Option (Dt38×Unit):=limF spec cals T Tryz.f122 x
theorem ck:CalsOk Tryz.prog cals:=(CalsOk.cons nat_own.cal (CalsOk.base tabsOk))
theorem cal:CalOk Tryz.prog tabs 122 sig:=calOk_lim' tabOk ck mix Tryz.func122 (by kernel_rfl) (by kernel_rfl) (by kernel_rfl) (by kernel_rfl)
def e (a0:Dt38):Option (Dt38×Unit):=
 (nat_own.F (a0,())).bind fun y1=>
 some (y1.1,())
theorem eval (k:Nat)(a0:Dt38):evalF spec cals T Tryz.f122 k (a0,())=e a0:=by kernel_rfl
theorem of (k:Nat)(a0:Dt38){y:Dt38×Unit}(h:e a0=some y):F (a0,())=some y:=limF_of k ((eval k a0).trans h)
end nat_Norm
namespace whole_signed
def spec:Spec:=⟨[(false,Kt38),(false,Kt167)],[(true,Kt40)],.own,fun j=>match j with|4=>[(0,.lf (.o 114 (.int .u32) true)),(4,.box 40 [.v true,.v true]),(5,.lf (.v true)),(10,.lf (.z 3 (.int .i64) false)),(11,.lf (.v true)),(12,.lf (.v true))]|_=>[]⟩
def cals:Cals:=(Cals.cons 122 nat_Norm.sig (Cals.base tabs))
def sig:Sig:=spec.sig cals T Tryz.f111
def F (x:Dt38×Dt38×Unit):Option (Dt40×Unit):=limF spec cals T Tryz.f111 x
theorem ck:CalsOk Tryz.prog cals:=(CalsOk.cons nat_Norm.cal (CalsOk.base tabsOk))
theorem cal:CalOk Tryz.prog tabs 111 sig:=calOk_lim' tabOk ck mix Tryz.func111 (by kernel_rfl) (by kernel_rfl) (by kernel_rfl) (by kernel_rfl)
def m4 (x0:Dt38)(x4_0:Bool)(x5:Int)(x10:Dt38)(x11:Int)(x12:Int):S:=⟨[(0,.one (.lf (.own 0))),(4,.box 0 0),(5,.one (.lf (.val true (.int .i64) x5))),(10,.one (.lf (.val false Kt167 x10))),(11,.one (.lf (.val true (.int .i64) x11))),(12,.one (.lf (.val true (.int .i64) x12)))],⟨[some ⟨114,(.int .u32),true,true,x0⟩],[some ⟨40,[.val true .bool x4_0,.nil]⟩]⟩⟩
def b4 (f4:Dt38→Bool→Int→Dt38→Int→Int→Option (Dt40×Unit))(x0:Dt38)(x4_0:Bool)(x5:Int)(x10:Dt38)(x11:Int)(x12:Int):Option (Dt40×Unit):=
 let v1:=decide (x12<x11)
 bif v1 then(bif decide (0≤x12)&&decide (x12<(List.length x10:Int))then(let v2:=List.getD x10 (Int.toNat x12) (0:Int)
 let v3:=IntKind.i64.wrap (x5*v2)
 let v4:=IntKind.i64.wrap (x12+(1:Int))
 f4 x0 x4_0 v3 x10 x11 v4)
 else none)
 else(let v5:=decide (x5<(0:Int))
 bif v5 then(let v6:=(List.length x0:Int)
 let v7:=decide (v6>(0:Int))
 some ((v7,x0),()))
 else(some ((false,x0),())))
def e (f4:Dt38→Bool→Int→Dt38→Int→Int→Option (Dt40×Unit))(a0:Dt38)(a1:Dt38):Option (Dt40×Unit):=
 (nat_Norm.F (a0,())).bind fun y1=>
 let v2:=(List.length a1:Int)
 f4 y1.1 false (1:Int) a1 v2 (0:Int)
def L4 (k:Nat)(x0:Dt38)(x4_0:Bool)(x5:Int)(x10:Dt38)(x11:Int)(x12:Int):Option (Dt40×Unit):=heads (spec.env cals T Tryz.f111) (Func.pts Tryz.f111) k 4 (m4 x0 x4_0 x5 x10 x11 x12)
theorem L4_succ (k:Nat)(x0:Dt38)(x4_0:Bool)(x5:Int)(x10:Dt38)(x11:Int)(x12:Int):L4 (k+1) x0 x4_0 x5 x10 x11 x12=b4 (L4 k) x0 x4_0 x5 x10 x11 x12:=by kernel_rfl
theorem eval (k:Nat)(a0:Dt38)(a1:Dt38):evalF spec cals T Tryz.f111 k (a0,a1,())=e (L4 k) a0 a1:=by kernel_rfl
theorem of (k:Nat)(a0:Dt38)(a1:Dt38){y:Dt40×Unit}(h:e (L4 k) a0 a1=some y):F (a0,a1,())=some y:=limF_of k ((eval k a0 a1).trans h)
end whole_signed
namespace whole_Norm
def spec:Spec:=⟨[(true,Kt40)],[(true,Kt40)],.own,fun j=>match j with|_=>[]⟩
def cals:Cals:=(Cals.cons 109 whole_Sign.sig (Cals.cons 111 whole_signed.sig (Cals.base tabs)))
def sig:Sig:=spec.sig cals T Tryz.f108
def F (x:Dt40×Unit):Option (Dt40×Unit):=limF spec cals T Tryz.f108 x
theorem ck:CalsOk Tryz.prog cals:=(CalsOk.cons whole_Sign.cal (CalsOk.cons whole_signed.cal (CalsOk.base tabsOk)))
theorem cal:CalOk Tryz.prog tabs 108 sig:=calOk_lim' tabOk ck mix Tryz.func108 (by kernel_rfl) (by kernel_rfl) (by kernel_rfl) (by kernel_rfl)
def e (a0:Dt40):Option (Dt40×Unit):=
 (whole_Sign.F ((a0.1,a0.2),())).bind fun y1=>
 let v2:=([y1.1]:List Int)
 (whole_signed.F (a0.2,v2,())).bind fun y3=>
 some ((y3.1.1,y3.1.2),())
theorem eval (k:Nat)(a0:Dt40):evalF spec cals T Tryz.f108 k (a0,())=e a0:=by kernel_rfl
theorem of (k:Nat)(a0:Dt40){y:Dt40×Unit}(h:e a0=some y):F (a0,())=some y:=limF_of k ((eval k a0).trans h)
end whole_Norm
namespace ratio_made
def spec:Spec:=⟨[(true,Kt40),(false,Kt38)],[(true,Kt42)],.own,fun j=>match j with|_=>[]⟩
def cals:Cals:=(Cals.cons 106 nat_Gcd.sig (Cals.cons 107 nat_Div.sig (Cals.cons 108 whole_Norm.sig (Cals.base tabs))))
def sig:Sig:=spec.sig cals T Tryz.f99
def F (x:Dt40×Dt38×Unit):Option (Dt42×Unit):=limF spec cals T Tryz.f99 x
theorem ck:CalsOk Tryz.prog cals:=(CalsOk.cons nat_Gcd.cal (CalsOk.cons nat_Div.cal (CalsOk.cons whole_Norm.cal (CalsOk.base tabsOk))))
theorem cal:CalOk Tryz.prog tabs 99 sig:=calOk_lim' tabOk ck mix Tryz.func99 (by kernel_rfl) (by kernel_rfl) (by kernel_rfl) (by kernel_rfl)
def e (a0:Dt40)(a1:Dt38):Option (Dt42×Unit):=
 (nat_Gcd.F (a0.2,a1,())).bind fun y1=>
 (nat_Div.F (a0.2,y1.1,())).bind fun y2=>
 (nat_Div.F (a1,y1.1,())).bind fun y3=>
 (whole_Norm.F ((a0.1,y2.1),())).bind fun y4=>
 some (((y4.1.1,y4.1.2),y3.1),())
theorem eval (k:Nat)(a0:Dt40)(a1:Dt38):evalF spec cals T Tryz.f99 k (a0,a1,())=e a0 a1:=by kernel_rfl
theorem of (k:Nat)(a0:Dt40)(a1:Dt38){y:Dt42×Unit}(h:e a0 a1=some y):F (a0,a1,())=some y:=limF_of k ((eval k a0 a1).trans h)
end ratio_made
namespace ratio_Norm
def spec:Spec:=⟨[(true,Kt42)],[(true,Kt42)],.own,fun j=>match j with|_=>[]⟩
def cals:Cals:=(Cals.cons 98 nat_Bits.sig (Cals.cons 99 ratio_made.sig (Cals.base tabs)))
def sig:Sig:=spec.sig cals T Tryz.f88
def F (x:Dt42×Unit):Option (Dt42×Unit):=limF spec cals T Tryz.f88 x
theorem ck:CalsOk Tryz.prog cals:=(CalsOk.cons nat_Bits.cal (CalsOk.cons ratio_made.cal (CalsOk.base tabsOk)))
theorem cal:CalOk Tryz.prog tabs 88 sig:=calOk_lim' tabOk ck mix Tryz.func88 (by kernel_rfl) (by kernel_rfl) (by kernel_rfl) (by kernel_rfl)
def e (a0:Dt42):Option (Dt42×Unit):=
 (nat_Bits.F (a0.2,())).bind fun y1=>
 let v2:=(y1.1==(0:Int))
 bif v2 then(let v3:=([(1:Int)]:List Int)
 some ((zt40,v3),()))
 else((ratio_made.F ((a0.1.1,a0.1.2),a0.2,())).bind fun y4=>
 some (((y4.1.1.1,y4.1.1.2),y4.1.2),()))
theorem eval (k:Nat)(a0:Dt42):evalF spec cals T Tryz.f88 k (a0,())=e a0:=by kernel_rfl
theorem of (k:Nat)(a0:Dt42){y:Dt42×Unit}(h:e a0=some y):F (a0,())=some y:=limF_of k ((eval k a0).trans h)
end ratio_Norm
namespace nat_Add
def spec:Spec:=⟨[(false,Kt38),(false,Kt38)],[(false,Kt38)],.own,fun j=>match j with|6=>[(0,.lf (.z 114 (.int .u32) false)),(1,.lf (.z 114 (.int .u32) false)),(5,.lf (.o 114 (.int .u32) true)),(6,.lf (.v true)),(21,.lf (.v true)),(22,.lf (.v true))]|_=>[]⟩
def cals:Cals:=(Cals.cons 136 bits_Add32.sig (Cals.cons 115 nat_own.sig (Cals.base tabs)))
def sig:Sig:=spec.sig cals T Tryz.f132
def F (x:Dt38×Dt38×Unit):Option (Dt38×Unit):=limF spec cals T Tryz.f132 x
theorem ck:CalsOk Tryz.prog cals:=(CalsOk.cons bits_Add32.cal (CalsOk.cons nat_own.cal (CalsOk.base tabsOk)))
theorem cal:CalOk Tryz.prog tabs 132 sig:=calOk_lim' tabOk ck mix Tryz.func132 (by kernel_rfl) (by kernel_rfl) (by kernel_rfl) (by kernel_rfl)
def m6 (x0:Dt38)(x1:Dt38)(x5:Dt38)(x6:Int)(x21:Int)(x22:Int):S:=⟨[(0,.one (.lf (.val false Kt38 x0))),(1,.one (.lf (.val false Kt38 x1))),(5,.one (.lf (.own 0))),(6,.one (.lf (.val true (.int .u32) x6))),(21,.one (.lf (.val true (.int .i64) x21))),(22,.one (.lf (.val true (.int .i64) x22)))],⟨[some ⟨114,(.int .u32),true,true,x5⟩],[]⟩⟩
def b6 (f6:Dt38→Dt38→Dt38→Int→Int→Int→Option (Dt38×Unit))(x0:Dt38)(x1:Dt38)(x5:Dt38)(x6:Int)(x21:Int)(x22:Int):Option (Dt38×Unit):=
 let v1:=decide (x22<x21)
 bif v1 then(let v2:=(List.length x1:Int)
 let v3:=decide (x22<v2)
 bif v3 then(bif decide (0≤x22)&&decide (x22<(List.length x1:Int))then(let v4:=List.getD x1 (Int.toNat x22) (0:Int)
 bif decide (0≤x22)&&decide (x22<(List.length x0:Int))then(let v5:=List.getD x0 (Int.toNat x22) (0:Int)
 (bits_Add32.F (v5,v4,x6,())).bind fun y6=>
 bif decide (0≤x22)&&decide (x22<(List.length x5:Int))then(let v7:=List.set x5 (Int.toNat x22) y6.1
 let v8:=IntKind.i64.wrap (x22+(1:Int))
 f6 x0 x1 v7 y6.2.1 x21 v8)
 else none)
 else none)
 else none)
 else(bif decide (0≤x22)&&decide (x22<(List.length x0:Int))then(let v9:=List.getD x0 (Int.toNat x22) (0:Int)
 (bits_Add32.F (v9,(0:Int),x6,())).bind fun y10=>
 bif decide (0≤x22)&&decide (x22<(List.length x5:Int))then(let v11:=List.set x5 (Int.toNat x22) y10.1
 let v12:=IntKind.i64.wrap (x22+(1:Int))
 f6 x0 x1 v11 y10.2.1 x21 v12)
 else none)
 else none))
 else(let v13:=(List.length x0:Int)
 bif decide (0≤v13)&&decide (v13<(List.length x5:Int))then(let v14:=List.set x5 (Int.toNat v13) x6
 (nat_own.F (v14,())).bind fun y15=>
 some (y15.1,()))
 else none)
def e (f6:Dt38→Dt38→Dt38→Int→Int→Int→Option (Dt38×Unit))(a0:Dt38)(a1:Dt38):Option (Dt38×Unit):=
 let v1:=(List.length a0:Int)
 let v2:=(List.length a1:Int)
 let v3:=decide (v1<v2)
 bif v3 then(let v4:=(List.length a1:Int)
 let v5:=IntKind.i64.wrap (v4+(1:Int))
 bif decide (0≤v5)&&(decide (v5≤v5)&&(decide (Int.toNat v5*4≤281474976710656)&&Nat.blt 0 4))then(let v6:=List.replicate (Int.toNat v5) (0:Int)
 let v7:=(List.length a1:Int)
 f6 a1 a0 v6 (0:Int) v7 (0:Int))
 else none)
 else(let v8:=(List.length a0:Int)
 let v9:=IntKind.i64.wrap (v8+(1:Int))
 bif decide (0≤v9)&&(decide (v9≤v9)&&(decide (Int.toNat v9*4≤281474976710656)&&Nat.blt 0 4))then(let v10:=List.replicate (Int.toNat v9) (0:Int)
 let v11:=(List.length a0:Int)
 f6 a0 a1 v10 (0:Int) v11 (0:Int))
 else none)
def L6 (k:Nat)(x0:Dt38)(x1:Dt38)(x5:Dt38)(x6:Int)(x21:Int)(x22:Int):Option (Dt38×Unit):=heads (spec.env cals T Tryz.f132) (Func.pts Tryz.f132) k 6 (m6 x0 x1 x5 x6 x21 x22)
theorem L6_succ (k:Nat)(x0:Dt38)(x1:Dt38)(x5:Dt38)(x6:Int)(x21:Int)(x22:Int):L6 (k+1) x0 x1 x5 x6 x21 x22=b6 (L6 k) x0 x1 x5 x6 x21 x22:=by kernel_rfl
theorem eval (k:Nat)(a0:Dt38)(a1:Dt38):evalF spec cals T Tryz.f132 k (a0,a1,())=e (L6 k) a0 a1:=by kernel_rfl
theorem of (k:Nat)(a0:Dt38)(a1:Dt38){y:Dt38×Unit}(h:e (L6 k) a0 a1=some y):F (a0,a1,())=some y:=limF_of k ((eval k a0 a1).trans h)
end nat_Add
namespace nat_Sub
def spec:Spec:=⟨[(false,Kt38),(false,Kt38)],[(false,Kt38),(false,(.int .i64))],.own,fun j=>match j with|7=>[(0,.lf (.z 114 (.int .u32) false)),(1,.lf (.z 114 (.int .u32) false)),(6,.lf (.o 114 (.int .u32) true)),(7,.lf (.v true)),(20,.lf (.v true)),(21,.lf (.v true))]|_=>[]⟩
def cals:Cals:=(Cals.cons 116 nat_Cmp.sig (Cals.cons 104 nat_trim.sig (Cals.cons 135 bits_Sub32.sig (Cals.cons 115 nat_own.sig (Cals.base tabs)))))
def sig:Sig:=spec.sig cals T Tryz.f133
def F (x:Dt38×Dt38×Unit):Option (Dt38×Int×Unit):=limF spec cals T Tryz.f133 x
theorem ck:CalsOk Tryz.prog cals:=(CalsOk.cons nat_Cmp.cal (CalsOk.cons nat_trim.cal (CalsOk.cons bits_Sub32.cal (CalsOk.cons nat_own.cal (CalsOk.base tabsOk)))))
theorem cal:CalOk Tryz.prog tabs 133 sig:=calOk_lim' tabOk ck mix Tryz.func133 (by kernel_rfl) (by kernel_rfl) (by kernel_rfl) (by kernel_rfl)
def m7 (x0:Dt38)(x1:Dt38)(x6:Dt38)(x7:Int)(x20:Int)(x21:Int):S:=⟨[(0,.one (.lf (.val false Kt38 x0))),(1,.one (.lf (.val false Kt38 x1))),(6,.one (.lf (.own 0))),(7,.one (.lf (.val true (.int .u32) x7))),(20,.one (.lf (.val true (.int .i64) x20))),(21,.one (.lf (.val true (.int .i64) x21)))],⟨[some ⟨114,(.int .u32),true,true,x6⟩],[]⟩⟩
def b7 (f7:Dt38→Dt38→Dt38→Int→Int→Int→Option (Dt38×Int×Unit))(x0:Dt38)(x1:Dt38)(x6:Dt38)(x7:Int)(x20:Int)(x21:Int):Option (Dt38×Int×Unit):=
 let v1:=decide (x21<x20)
 bif v1 then(let v2:=(List.length x1:Int)
 let v3:=decide (x21<v2)
 bif v3 then(bif decide (0≤x21)&&decide (x21<(List.length x1:Int))then(let v4:=List.getD x1 (Int.toNat x21) (0:Int)
 bif decide (0≤x21)&&decide (x21<(List.length x0:Int))then(let v5:=List.getD x0 (Int.toNat x21) (0:Int)
 (bits_Sub32.F (v5,v4,x7,())).bind fun y6=>
 bif decide (0≤x21)&&decide (x21<(List.length x6:Int))then(let v7:=List.set x6 (Int.toNat x21) y6.1
 let v8:=IntKind.i64.wrap (x21+(1:Int))
 f7 x0 x1 v7 y6.2.1 x20 v8)
 else none)
 else none)
 else none)
 else(bif decide (0≤x21)&&decide (x21<(List.length x0:Int))then(let v9:=List.getD x0 (Int.toNat x21) (0:Int)
 (bits_Sub32.F (v9,(0:Int),x7,())).bind fun y10=>
 bif decide (0≤x21)&&decide (x21<(List.length x6:Int))then(let v11:=List.set x6 (Int.toNat x21) y10.1
 let v12:=IntKind.i64.wrap (x21+(1:Int))
 f7 x0 x1 v11 y10.2.1 x20 v12)
 else none)
 else none))
 else((nat_own.F (x6,())).bind fun y13=>
 some (y13.1,(0:Int),()))
def e (f7:Dt38→Dt38→Dt38→Int→Int→Int→Option (Dt38×Int×Unit))(a0:Dt38)(a1:Dt38):Option (Dt38×Int×Unit):=
 (nat_Cmp.F (a0,a1,())).bind fun y1=>
 let v2:=decide (y1.1<(0:Int))
 bif v2 then(some (zt38,(10:Int),()))
 else((nat_trim.F (a1,())).bind fun y3=>
 let v4:=(List.length a0:Int)
 bif decide (0≤v4)&&(decide (v4≤v4)&&(decide (Int.toNat v4*4≤281474976710656)&&Nat.blt 0 4))then(let v5:=List.replicate (Int.toNat v4) (0:Int)
 let v6:=(List.length a0:Int)
 f7 a0 y3.1 v5 (0:Int) v6 (0:Int))
 else none)
def L7 (k:Nat)(x0:Dt38)(x1:Dt38)(x6:Dt38)(x7:Int)(x20:Int)(x21:Int):Option (Dt38×Int×Unit):=heads (spec.env cals T Tryz.f133) (Func.pts Tryz.f133) k 7 (m7 x0 x1 x6 x7 x20 x21)
theorem L7_succ (k:Nat)(x0:Dt38)(x1:Dt38)(x6:Dt38)(x7:Int)(x20:Int)(x21:Int):L7 (k+1) x0 x1 x6 x7 x20 x21=b7 (L7 k) x0 x1 x6 x7 x20 x21:=by kernel_rfl
theorem eval (k:Nat)(a0:Dt38)(a1:Dt38):evalF spec cals T Tryz.f133 k (a0,a1,())=e (L7 k) a0 a1:=by kernel_rfl
theorem of (k:Nat)(a0:Dt38)(a1:Dt38){y:Dt38×Int×Unit}(h:e (L7 k) a0 a1=some y):F (a0,a1,())=some y:=limF_of k ((eval k a0 a1).trans h)
end nat_Sub
namespace whole_Add
def spec:Spec:=⟨[(true,Kt40),(true,Kt40)],[(true,Kt40)],.own,fun j=>match j with|_=>[]⟩
def cals:Cals:=(Cals.cons 109 whole_Sign.sig (Cals.cons 132 nat_Add.sig (Cals.cons 111 whole_signed.sig (Cals.cons 116 nat_Cmp.sig (Cals.cons 133 nat_Sub.sig (Cals.base tabs))))))
def sig:Sig:=spec.sig cals T Tryz.f120
def F (x:Dt40×Dt40×Unit):Option (Dt40×Unit):=limF spec cals T Tryz.f120 x
theorem ck:CalsOk Tryz.prog cals:=(CalsOk.cons whole_Sign.cal (CalsOk.cons nat_Add.cal (CalsOk.cons whole_signed.cal (CalsOk.cons nat_Cmp.cal (CalsOk.cons nat_Sub.cal (CalsOk.base tabsOk))))))
theorem cal:CalOk Tryz.prog tabs 120 sig:=calOk_lim' tabOk ck mix Tryz.func120 (by kernel_rfl) (by kernel_rfl) (by kernel_rfl) (by kernel_rfl)
def e (a0:Dt40)(a1:Dt40):Option (Dt40×Unit):=
 (whole_Sign.F ((a0.1,a0.2),())).bind fun y1=>
 (whole_Sign.F ((a1.1,a1.2),())).bind fun y2=>
 let v3:=IntKind.i64.wrap (y1.1*y2.1)
 let v4:=decide (v3≥(0:Int))
 bif v4 then((nat_Add.F (a0.2,a1.2,())).bind fun y5=>
 let v6:=bitsOp .or .i64 y1.1 y2.1
 let v7:=bitsOp .or .i64 v6 (1:Int)
 let v8:=([v7]:List Int)
 (whole_signed.F (y5.1,v8,())).bind fun y9=>
 some ((y9.1.1,y9.1.2),()))
 else((nat_Cmp.F (a0.2,a1.2,())).bind fun y10=>
 let v11:=decide (y10.1≥(0:Int))
 bif v11 then((nat_Sub.F (a0.2,a1.2,())).bind fun y12=>
 let v13:=([y1.1]:List Int)
 (whole_signed.F (y12.1,v13,())).bind fun y14=>
 some ((y14.1.1,y14.1.2),()))
 else((nat_Sub.F (a1.2,a0.2,())).bind fun y15=>
 let v16:=([y2.1]:List Int)
 (whole_signed.F (y15.1,v16,())).bind fun y17=>
 some ((y17.1.1,y17.1.2),())))
theorem eval (k:Nat)(a0:Dt40)(a1:Dt40):evalF spec cals T Tryz.f120 k (a0,a1,())=e a0 a1:=by kernel_rfl
theorem of (k:Nat)(a0:Dt40)(a1:Dt40){y:Dt40×Unit}(h:e a0 a1=some y):F (a0,a1,())=some y:=limF_of k ((eval k a0 a1).trans h)
end whole_Add
namespace whole_Neg
def spec:Spec:=⟨[(true,Kt40)],[(true,Kt40)],.own,fun j=>match j with|_=>[]⟩
def cals:Cals:=(Cals.cons 109 whole_Sign.sig (Cals.cons 111 whole_signed.sig (Cals.base tabs)))
def sig:Sig:=spec.sig cals T Tryz.f121
def F (x:Dt40×Unit):Option (Dt40×Unit):=limF spec cals T Tryz.f121 x
theorem ck:CalsOk Tryz.prog cals:=(CalsOk.cons whole_Sign.cal (CalsOk.cons whole_signed.cal (CalsOk.base tabsOk)))
theorem cal:CalOk Tryz.prog tabs 121 sig:=calOk_lim' tabOk ck mix Tryz.func121 (by kernel_rfl) (by kernel_rfl) (by kernel_rfl) (by kernel_rfl)
def e (a0:Dt40):Option (Dt40×Unit):=
 (whole_Sign.F ((a0.1,a0.2),())).bind fun y1=>
 let v2:=([(-1:Int),y1.1]:List Int)
 (whole_signed.F (a0.2,v2,())).bind fun y3=>
 some ((y3.1.1,y3.1.2),())
theorem eval (k:Nat)(a0:Dt40):evalF spec cals T Tryz.f121 k (a0,())=e a0:=by kernel_rfl
theorem of (k:Nat)(a0:Dt40){y:Dt40×Unit}(h:e a0=some y):F (a0,())=some y:=limF_of k ((eval k a0).trans h)
end whole_Neg
namespace whole_Sub
def spec:Spec:=⟨[(true,Kt40),(true,Kt40)],[(true,Kt40)],.own,fun j=>match j with|_=>[]⟩
def cals:Cals:=(Cals.cons 121 whole_Neg.sig (Cals.cons 120 whole_Add.sig (Cals.base tabs)))
def sig:Sig:=spec.sig cals T Tryz.f110
def F (x:Dt40×Dt40×Unit):Option (Dt40×Unit):=limF spec cals T Tryz.f110 x
theorem ck:CalsOk Tryz.prog cals:=(CalsOk.cons whole_Neg.cal (CalsOk.cons whole_Add.cal (CalsOk.base tabsOk)))
theorem cal:CalOk Tryz.prog tabs 110 sig:=calOk_lim' tabOk ck mix Tryz.func110 (by kernel_rfl) (by kernel_rfl) (by kernel_rfl) (by kernel_rfl)
def e (a0:Dt40)(a1:Dt40):Option (Dt40×Unit):=
 (whole_Neg.F ((a1.1,a1.2),())).bind fun y1=>
 (whole_Add.F ((a0.1,a0.2),(y1.1.1,y1.1.2),())).bind fun y2=>
 some ((y2.1.1,y2.1.2),())
theorem eval (k:Nat)(a0:Dt40)(a1:Dt40):evalF spec cals T Tryz.f110 k (a0,a1,())=e a0 a1:=by kernel_rfl
theorem of (k:Nat)(a0:Dt40)(a1:Dt40){y:Dt40×Unit}(h:e a0 a1=some y):F (a0,a1,())=some y:=limF_of k ((eval k a0 a1).trans h)
end whole_Sub
namespace whole_Cmp
def spec:Spec:=⟨[(true,Kt40),(true,Kt40)],[(false,(.int .i64))],.own,fun j=>match j with|_=>[]⟩
def cals:Cals:=(Cals.cons 110 whole_Sub.sig (Cals.cons 109 whole_Sign.sig (Cals.base tabs)))
def sig:Sig:=spec.sig cals T Tryz.f100
def F (x:Dt40×Dt40×Unit):Option (Int×Unit):=limF spec cals T Tryz.f100 x
theorem ck:CalsOk Tryz.prog cals:=(CalsOk.cons whole_Sub.cal (CalsOk.cons whole_Sign.cal (CalsOk.base tabsOk)))
theorem cal:CalOk Tryz.prog tabs 100 sig:=calOk_lim' tabOk ck mix Tryz.func100 (by kernel_rfl) (by kernel_rfl) (by kernel_rfl) (by kernel_rfl)
def e (a0:Dt40)(a1:Dt40):Option (Int×Unit):=
 (whole_Sub.F ((a0.1,a0.2),(a1.1,a1.2),())).bind fun y1=>
 (whole_Sign.F ((y1.1.1,y1.1.2),())).bind fun y2=>
 some (y2.1,())
theorem eval (k:Nat)(a0:Dt40)(a1:Dt40):evalF spec cals T Tryz.f100 k (a0,a1,())=e a0 a1:=by kernel_rfl
theorem of (k:Nat)(a0:Dt40)(a1:Dt40){y:Int×Unit}(h:e a0 a1=some y):F (a0,a1,())=some y:=limF_of k ((eval k a0 a1).trans h)
end whole_Cmp
namespace nat_Mul
def spec:Spec:=⟨[(false,Kt38),(false,Kt38)],[(false,Kt38)],.own,fun j=>match j with|4=>[(0,.lf (.z 114 (.int .u32) false)),(1,.lf (.z 114 (.int .u32) false)),(5,.lf (.o 114 (.int .u32) true)),(21,.lf (.v true)),(22,.lf (.v true))]|8=>[(0,.lf (.z 114 (.int .u32) false)),(1,.lf (.z 114 (.int .u32) false)),(5,.lf (.o 114 (.int .u32) true)),(6,.lf (.v true)),(7,.lf (.v true)),(21,.lf (.v true)),(22,.lf (.v true)),(26,.lf (.v true)),(27,.lf (.v true))]|_=>[]⟩
def cals:Cals:=(Cals.cons 104 nat_trim.sig (Cals.cons 115 nat_own.sig (Cals.base tabs)))
def sig:Sig:=spec.sig cals T Tryz.f112
def F (x:Dt38×Dt38×Unit):Option (Dt38×Unit):=limF spec cals T Tryz.f112 x
theorem ck:CalsOk Tryz.prog cals:=(CalsOk.cons nat_trim.cal (CalsOk.cons nat_own.cal (CalsOk.base tabsOk)))
theorem cal:CalOk Tryz.prog tabs 112 sig:=calOk_lim' tabOk ck mix Tryz.func112 (by kernel_rfl) (by kernel_rfl) (by kernel_rfl) (by kernel_rfl)
def m4 (x0:Dt38)(x1:Dt38)(x5:Dt38)(x21:Int)(x22:Int):S:=⟨[(0,.one (.lf (.val false Kt38 x0))),(1,.one (.lf (.val false Kt38 x1))),(5,.one (.lf (.own 0))),(21,.one (.lf (.val true (.int .i64) x21))),(22,.one (.lf (.val true (.int .i64) x22)))],⟨[some ⟨114,(.int .u32),true,true,x5⟩],[]⟩⟩
def m8 (x0:Dt38)(x1:Dt38)(x5:Dt38)(x6:Int)(x7:Int)(x21:Int)(x22:Int)(x26:Int)(x27:Int):S:=⟨[(0,.one (.lf (.val false Kt38 x0))),(1,.one (.lf (.val false Kt38 x1))),(5,.one (.lf (.own 0))),(6,.one (.lf (.val true (.int .i64) x6))),(7,.one (.lf (.val true (.int .u64) x7))),(21,.one (.lf (.val true (.int .i64) x21))),(22,.one (.lf (.val true (.int .i64) x22))),(26,.one (.lf (.val true (.int .i64) x26))),(27,.one (.lf (.val true (.int .i64) x27)))],⟨[some ⟨114,(.int .u32),true,true,x5⟩],[]⟩⟩
def b4 (f4:Dt38→Dt38→Dt38→Int→Int→Option (Dt38×Unit))(f8:Dt38→Dt38→Dt38→Int→Int→Int→Int→Int→Int→Option (Dt38×Unit))(x0:Dt38)(x1:Dt38)(x5:Dt38)(x21:Int)(x22:Int):Option (Dt38×Unit):=
 let v1:=decide (x22<x21)
 bif v1 then(let v2:=(List.length x1:Int)
 f8 x0 x1 x5 x22 (0:Int) x21 x22 v2 (0:Int))
 else((nat_own.F (x5,())).bind fun y3=>
 some (y3.1,()))
def b8 (f4:Dt38→Dt38→Dt38→Int→Int→Option (Dt38×Unit))(f8:Dt38→Dt38→Dt38→Int→Int→Int→Int→Int→Int→Option (Dt38×Unit))(x0:Dt38)(x1:Dt38)(x5:Dt38)(x6:Int)(x7:Int)(x21:Int)(x22:Int)(x26:Int)(x27:Int):Option (Dt38×Unit):=
 let v1:=decide (x27<x26)
 bif v1 then(bif decide (0≤x6)&&decide (x6<(List.length x0:Int))then(let v2:=List.getD x0 (Int.toNat x6) (0:Int)
 let v3:=IntKind.u64.wrap v2
 bif decide (0≤x27)&&decide (x27<(List.length x1:Int))then(let v4:=List.getD x1 (Int.toNat x27) (0:Int)
 let v5:=IntKind.u64.wrap v4
 let v6:=IntKind.u64.wrap (v3*v5)
 let v7:=IntKind.i64.wrap (x6+x27)
 bif decide (0≤v7)&&decide (v7<(List.length x5:Int))then(let v8:=List.getD x5 (Int.toNat v7) (0:Int)
 let v9:=IntKind.u64.wrap v8
 let v10:=IntKind.u64.wrap (v6+v9)
 let v11:=IntKind.u64.wrap (v10+x7)
 let v12:=IntKind.i64.wrap (x6+x27)
 let v13:=IntKind.u32.wrap v11
 bif decide (0≤v12)&&decide (v12<(List.length x5:Int))then(let v14:=List.set x5 (Int.toNat v12) v13
 bif decide ((32:Int)<0)then none
 else(let v15:=shrI .u64 v11 (32:Int)
 let v16:=IntKind.i64.wrap (x27+(1:Int))
 f8 x0 x1 v14 x6 v15 x21 x22 x26 v16))
 else none)
 else none)
 else none)
 else none)
 else(let v17:=(List.length x1:Int)
 let v18:=IntKind.i64.wrap (x6+v17)
 let v19:=IntKind.u32.wrap x7
 bif decide (0≤v18)&&decide (v18<(List.length x5:Int))then(let v20:=List.set x5 (Int.toNat v18) v19
 let v21:=IntKind.i64.wrap (x22+(1:Int))
 f4 x0 x1 v20 x21 v21)
 else none)
def e (f4:Dt38→Dt38→Dt38→Int→Int→Option (Dt38×Unit))(f8:Dt38→Dt38→Dt38→Int→Int→Int→Int→Int→Int→Option (Dt38×Unit))(a0:Dt38)(a1:Dt38):Option (Dt38×Unit):=
 (nat_trim.F (a0,())).bind fun y1=>
 (nat_trim.F (a1,())).bind fun y2=>
 let v3:=(List.length y1.1:Int)
 let v4:=(List.length y2.1:Int)
 let v5:=IntKind.i64.wrap (v3+v4)
 bif decide (0≤v5)&&(decide (v5≤v5)&&(decide (Int.toNat v5*4≤281474976710656)&&Nat.blt 0 4))then(let v6:=List.replicate (Int.toNat v5) (0:Int)
 let v7:=(List.length y1.1:Int)
 f4 y1.1 y2.1 v6 v7 (0:Int))
 else none
def L4 (k:Nat)(x0:Dt38)(x1:Dt38)(x5:Dt38)(x21:Int)(x22:Int):Option (Dt38×Unit):=heads (spec.env cals T Tryz.f112) (Func.pts Tryz.f112) k 4 (m4 x0 x1 x5 x21 x22)
def L8 (k:Nat)(x0:Dt38)(x1:Dt38)(x5:Dt38)(x6:Int)(x7:Int)(x21:Int)(x22:Int)(x26:Int)(x27:Int):Option (Dt38×Unit):=heads (spec.env cals T Tryz.f112) (Func.pts Tryz.f112) k 8 (m8 x0 x1 x5 x6 x7 x21 x22 x26 x27)
theorem L4_succ (k:Nat)(x0:Dt38)(x1:Dt38)(x5:Dt38)(x21:Int)(x22:Int):L4 (k+1) x0 x1 x5 x21 x22=b4 (L4 k) (L8 k) x0 x1 x5 x21 x22:=by kernel_rfl
theorem L8_succ (k:Nat)(x0:Dt38)(x1:Dt38)(x5:Dt38)(x6:Int)(x7:Int)(x21:Int)(x22:Int)(x26:Int)(x27:Int):L8 (k+1) x0 x1 x5 x6 x7 x21 x22 x26 x27=b8 (L4 k) (L8 k) x0 x1 x5 x6 x7 x21 x22 x26 x27:=by kernel_rfl
theorem eval (k:Nat)(a0:Dt38)(a1:Dt38):evalF spec cals T Tryz.f112 k (a0,a1,())=e (L4 k) (L8 k) a0 a1:=by kernel_rfl
theorem of (k:Nat)(a0:Dt38)(a1:Dt38){y:Dt38×Unit}(h:e (L4 k) (L8 k) a0 a1=some y):F (a0,a1,())=some y:=limF_of k ((eval k a0 a1).trans h)
end nat_Mul
namespace whole_Mul
def spec:Spec:=⟨[(true,Kt40),(true,Kt40)],[(true,Kt40)],.own,fun j=>match j with|_=>[]⟩
def cals:Cals:=(Cals.cons 112 nat_Mul.sig (Cals.cons 109 whole_Sign.sig (Cals.cons 111 whole_signed.sig (Cals.base tabs))))
def sig:Sig:=spec.sig cals T Tryz.f101
def F (x:Dt40×Dt40×Unit):Option (Dt40×Unit):=limF spec cals T Tryz.f101 x
theorem ck:CalsOk Tryz.prog cals:=(CalsOk.cons nat_Mul.cal (CalsOk.cons whole_Sign.cal (CalsOk.cons whole_signed.cal (CalsOk.base tabsOk))))
theorem cal:CalOk Tryz.prog tabs 101 sig:=calOk_lim' tabOk ck mix Tryz.func101 (by kernel_rfl) (by kernel_rfl) (by kernel_rfl) (by kernel_rfl)
def e (a0:Dt40)(a1:Dt40):Option (Dt40×Unit):=
 (nat_Mul.F (a0.2,a1.2,())).bind fun y1=>
 (whole_Sign.F ((a0.1,a0.2),())).bind fun y2=>
 (whole_Sign.F ((a1.1,a1.2),())).bind fun y3=>
 let v4:=([y2.1,y3.1]:List Int)
 (whole_signed.F (y1.1,v4,())).bind fun y5=>
 some ((y5.1.1,y5.1.2),())
theorem eval (k:Nat)(a0:Dt40)(a1:Dt40):evalF spec cals T Tryz.f101 k (a0,a1,())=e a0 a1:=by kernel_rfl
theorem of (k:Nat)(a0:Dt40)(a1:Dt40){y:Dt40×Unit}(h:e a0 a1=some y):F (a0,a1,())=some y:=limF_of k ((eval k a0 a1).trans h)
end whole_Mul
namespace ratio_Cmp
def spec:Spec:=⟨[(true,Kt42),(true,Kt42)],[(false,(.int .i64))],.own,fun j=>match j with|_=>[]⟩
def cals:Cals:=(Cals.cons 88 ratio_Norm.sig (Cals.cons 101 whole_Mul.sig (Cals.cons 100 whole_Cmp.sig (Cals.base tabs))))
def sig:Sig:=spec.sig cals T Tryz.f89
def F (x:Dt42×Dt42×Unit):Option (Int×Unit):=limF spec cals T Tryz.f89 x
theorem ck:CalsOk Tryz.prog cals:=(CalsOk.cons ratio_Norm.cal (CalsOk.cons whole_Mul.cal (CalsOk.cons whole_Cmp.cal (CalsOk.base tabsOk))))
theorem cal:CalOk Tryz.prog tabs 89 sig:=calOk_lim' tabOk ck mix Tryz.func89 (by kernel_rfl) (by kernel_rfl) (by kernel_rfl) (by kernel_rfl)
def e (a0:Dt42)(a1:Dt42):Option (Int×Unit):=
 (ratio_Norm.F (((a0.1.1,a0.1.2),a0.2),())).bind fun y1=>
 (ratio_Norm.F (((a1.1.1,a1.1.2),a1.2),())).bind fun y2=>
 (whole_Mul.F ((y1.1.1.1,y1.1.1.2),(false,y2.1.2),())).bind fun y3=>
 (whole_Mul.F ((y2.1.1.1,y2.1.1.2),(false,y1.1.2),())).bind fun y4=>
 (whole_Cmp.F ((y3.1.1,y3.1.2),(y4.1.1,y4.1.2),())).bind fun y5=>
 some (y5.1,())
theorem eval (k:Nat)(a0:Dt42)(a1:Dt42):evalF spec cals T Tryz.f89 k (a0,a1,())=e a0 a1:=by kernel_rfl
theorem of (k:Nat)(a0:Dt42)(a1:Dt42){y:Int×Unit}(h:e a0 a1=some y):F (a0,a1,())=some y:=limF_of k ((eval k a0 a1).trans h)
end ratio_Cmp
namespace delta_Cmp
def spec:Spec:=⟨[(true,Kt44),(true,Kt44)],[(false,(.int .i64))],.own,fun j=>match j with|_=>[]⟩
def cals:Cals:=(Cals.cons 89 ratio_Cmp.sig (Cals.base tabs))
def sig:Sig:=spec.sig cals T Tryz.f68
def F (x:Dt44×Dt44×Unit):Option (Int×Unit):=limF spec cals T Tryz.f68 x
theorem ck:CalsOk Tryz.prog cals:=(CalsOk.cons ratio_Cmp.cal (CalsOk.base tabsOk))
theorem cal:CalOk Tryz.prog tabs 68 sig:=calOk_lim' tabOk ck mix Tryz.func68 (by kernel_rfl) (by kernel_rfl) (by kernel_rfl) (by kernel_rfl)
def e (a0:Dt44)(a1:Dt44):Option (Int×Unit):=
 (ratio_Cmp.F (((a0.1.1.1,a0.1.1.2),a0.1.2),((a1.1.1.1,a1.1.1.2),a1.1.2),())).bind fun y1=>
 let v2:=(y1.1 != (0:Int))
 bif v2 then(some (y1.1,()))
 else((ratio_Cmp.F (((a0.2.1.1,a0.2.1.2),a0.2.2),((a1.2.1.1,a1.2.1.2),a1.2.2),())).bind fun y3=>
 some (y3.1,()))
theorem eval (k:Nat)(a0:Dt44)(a1:Dt44):evalF spec cals T Tryz.f68 k (a0,a1,())=e a0 a1:=by kernel_rfl
theorem of (k:Nat)(a0:Dt44)(a1:Dt44){y:Int×Unit}(h:e a0 a1=some y):F (a0,a1,())=some y:=limF_of k ((eval k a0 a1).trans h)
end delta_Cmp
namespace bounds_below
def spec:Spec:=⟨[(true,Kt66),(true,Kt44)],[(false,.bool)],.own,fun j=>match j with|_=>[]⟩
def cals:Cals:=(Cals.cons 68 delta_Cmp.sig (Cals.base tabs))
def sig:Sig:=spec.sig cals T Tryz.f49
def F (x:Dt66×Dt44×Unit):Option (Bool×Unit):=limF spec cals T Tryz.f49 x
theorem ck:CalsOk Tryz.prog cals:=(CalsOk.cons delta_Cmp.cal (CalsOk.base tabsOk))
theorem cal:CalOk Tryz.prog tabs 49 sig:=calOk_lim' tabOk ck mix Tryz.func49 (by kernel_rfl) (by kernel_rfl) (by kernel_rfl) (by kernel_rfl)
def e (a0:Dt66)(a1:Dt44):Option (Bool×Unit):=
 bif a0.1 then((delta_Cmp.F ((((a0.2.1.1.1.1,a0.2.1.1.1.2),a0.2.1.1.2),((a0.2.1.2.1.1,a0.2.1.2.1.2),a0.2.1.2.2)),(((a1.1.1.1,a1.1.1.2),a1.1.2),((a1.2.1.1,a1.2.1.2),a1.2.2)),())).bind fun y1=>
 let v2:=decide (y1.1<(0:Int))
 some (v2,()))
 else(some (false,()))
theorem eval (k:Nat)(a0:Dt66)(a1:Dt44):evalF spec cals T Tryz.f49 k (a0,a1,())=e a0 a1:=by kernel_rfl
theorem of (k:Nat)(a0:Dt66)(a1:Dt44){y:Bool×Unit}(h:e a0 a1=some y):F (a0,a1,())=some y:=limF_of k ((eval k a0 a1).trans h)
end bounds_below
namespace bounds_Store_is
def spec:XSpec:=⟨some ⟨81,0,Kt81,0⟩,false,[],false,none,[(false,.bool)],false,fun j=>match j with|_=>[]⟩
def cals:Cals:=(Cals.base tabs)
def sig:XSig:=spec.sig cals T Tryz.f36
def F (d:Dt81)(x:Unit):Option (Unit×(Bool×Unit)×Dt81):=limX spec cals T Tryz.f36 d x
theorem ck:CalsOk Tryz.prog cals:=(CalsOk.base tabsOk)
theorem cal:XOk Tryz.prog tabs 36 sig:=xok_of tabOk ck mix Tryz.func36 (by kernel_rfl) (by kernel_rfl) (by kernel_rfl) (by kernel_rfl)
def e (G:Gh)(d:Dt81):Option ((Unit×(Bool×Unit)×Dt81)×Nat×List Value):=
 some (((),(d.2.1,()),((d.1.1,d.1.2),(d.2.1,d.2.2))),G.b,[])
theorem eval (k:Nat)(G:Gh)(d:Dt81):evalX spec cals T Tryz.f36 k G d ()=e G d:=by kernel_rfl
theorem of (d:Dt81)(y:(Unit×(Bool×Unit)×Dt81))(h:∀G:Gh,∃k:Nat,e G d=some (y,(G.b,[]))):F d ()=some y:=limX_of (q:=spec) (C:=cals) (T:=T) (f:=Tryz.f36) (d:=d) (x:=()) y fun G=>(h G).imp fun k hk=>(eval k G d).trans hk
end bounds_Store_is
namespace bounds_Store_wrong
def spec:XSpec:=⟨some ⟨81,0,Kt81,0⟩,false,[(false,(.int .i64))],false,none,[(false,(.int .i64))],false,fun j=>match j with|_=>[]⟩
def cals:Cals:=(Cals.consX 36 false bounds_Store_is.sig (Cals.base tabs))
def sig:XSig:=spec.sig cals T Tryz.f55
def F (d:Dt81)(x:Int×Unit):Option (Unit×(Int×Unit)×Dt81):=limX spec cals T Tryz.f55 d x
theorem ck:CalsOk Tryz.prog cals:=(CalsOk.consX bounds_Store_is.cal (CalsOk.base tabsOk))
theorem cal:XOk Tryz.prog tabs 55 sig:=xok_of tabOk ck mix Tryz.func55 (by kernel_rfl) (by kernel_rfl) (by kernel_rfl) (by kernel_rfl)
def e (G:Gh)(d:Dt81)(a0:Int):Option ((Unit×(Int×Unit)×Dt81)×Nat×List Value):=
 (bounds_Store_is.F ((d.1.1,d.1.2),(d.2.1,d.2.2)) ()).bind fun y1=>
 let v2:=not y1.2.1.1
 bif v2 then(some (((),((1:Int),()),((y1.2.2.1.1,y1.2.2.1.2),(y1.2.2.2.1,y1.2.2.2.2))),G.b,[]))
 else(let v3:=decide (a0<(0:Int))
 bif v3 then(some (((),((61:Int),()),((y1.2.2.1.1,y1.2.2.1.2),(y1.2.2.2.1,y1.2.2.2.2))),G.b,[]))
 else(let v4:=(List.length y1.2.2.2.2:Int)
 let v5:=decide (a0≥v4)
 bif v5 then(some (((),((61:Int),()),((y1.2.2.1.1,y1.2.2.1.2),(y1.2.2.2.1,y1.2.2.2.2))),G.b,[]))
 else(some (((),((0:Int),()),((y1.2.2.1.1,y1.2.2.1.2),(y1.2.2.2.1,y1.2.2.2.2))),G.b,[]))))
theorem eval (k:Nat)(G:Gh)(d:Dt81)(a0:Int):evalX spec cals T Tryz.f55 k G d (a0,())=e G d a0:=by kernel_rfl
theorem of (d:Dt81)(a0:Int)(y:(Unit×(Int×Unit)×Dt81))(h:∀G:Gh,∃k:Nat,e G d a0=some (y,(G.b,[]))):F d (a0,())=some y:=limX_of (q:=spec) (C:=cals) (T:=T) (f:=Tryz.f55) (d:=d) (x:=(a0,())) y fun G=>(h G).imp fun k hk=>(eval k G d a0).trans hk
end bounds_Store_wrong
namespace delta_Norm
def spec:Spec:=⟨[(true,Kt44)],[(true,Kt44)],.own,fun j=>match j with|_=>[]⟩
def cals:Cals:=(Cals.cons 88 ratio_Norm.sig (Cals.base tabs))
def sig:Sig:=spec.sig cals T Tryz.f62
def F (x:Dt44×Unit):Option (Dt44×Unit):=limF spec cals T Tryz.f62 x
theorem ck:CalsOk Tryz.prog cals:=(CalsOk.cons ratio_Norm.cal (CalsOk.base tabsOk))
theorem cal:CalOk Tryz.prog tabs 62 sig:=calOk_lim' tabOk ck mix Tryz.func62 (by kernel_rfl) (by kernel_rfl) (by kernel_rfl) (by kernel_rfl)
def e (a0:Dt44):Option (Dt44×Unit):=
 (ratio_Norm.F (((a0.1.1.1,a0.1.1.2),a0.1.2),())).bind fun y1=>
 (ratio_Norm.F (((a0.2.1.1,a0.2.1.2),a0.2.2),())).bind fun y2=>
 some ((((y1.1.1.1,y1.1.1.2),y1.1.2),((y2.1.1.1,y2.1.1.2),y2.1.2)),())
theorem eval (k:Nat)(a0:Dt44):evalF spec cals T Tryz.f62 k (a0,())=e a0:=by kernel_rfl
theorem of (k:Nat)(a0:Dt44){y:Dt44×Unit}(h:e a0=some y):F (a0,())=some y:=limF_of k ((eval k a0).trans h)
end delta_Norm
namespace bounds_trail_note
def spec:XSpec:=⟨some ⟨81,0,Kt79,2⟩,false,[(false,(.int .i64)),(false,.bool),(true,Kt66)],false,none,[],false,fun j=>match j with|_=>[]⟩
def cals:Cals:=(Cals.withSubs [21] (Cals.base tabs))
def sig:XSig:=spec.sig cals T Tryz.f61
def F (d:Dt79)(x:Int×Bool×Dt66×Unit):Option (Unit×(Unit)×Dt79):=limX spec cals T Tryz.f61 d x
theorem ck:CalsOk Tryz.prog cals:=(CalsOk.withSubs [21] (CalsOk.base tabsOk))
theorem cal:XOk Tryz.prog tabs 61 sig:=xok_of tabOk ck mix Tryz.func61 (by kernel_rfl) (by kernel_rfl) (by kernel_rfl) (by kernel_rfl)
def e (G:Gh)(d:Dt79)(a0:Int)(a1:Bool)(a2:Dt66):Option ((Unit×(Unit)×Dt79)×Nat×List Value):=
 let v1:=([(a0,(a1,(d.1,(a2.1,((((a2.2.1.1.1.1,a2.2.1.1.1.2),a2.2.1.1.2),((a2.2.1.2.1.1,a2.2.1.2.1.2),a2.2.1.2.2)),a2.2.2)))))]:List Dt70)
 bif decide (List.length d.2+List.length v1<925904528653)then(let v2:=List.append d.2 v1
 some (((),(),(d.1,v2)),G.b,[G.v 0,G.v 1]))
 else none
theorem eval (k:Nat)(G:Gh)(d:Dt79)(a0:Int)(a1:Bool)(a2:Dt66):evalX spec cals T Tryz.f61 k G d (a0,a1,a2,())=e G d a0 a1 a2:=by kernel_rfl
theorem of (d:Dt79)(a0:Int)(a1:Bool)(a2:Dt66)(y:(Unit×(Unit)×Dt79))(h:∀G:Gh,∃k:Nat,e G d a0 a1 a2=some (y,(G.b,[G.v 0,G.v 1]))):F d (a0,a1,a2,())=some y:=limX_of (q:=spec) (C:=cals) (T:=T) (f:=Tryz.f61) (d:=d) (x:=(a0,a1,a2,())) y fun G=>(h G).imp fun k hk=>(eval k G d a0 a1 a2).trans hk
end bounds_trail_note
namespace bounds_Store_Lift
def spec:XSpec:=⟨some ⟨81,0,Kt81,0⟩,false,[(false,(.int .i64)),(true,Kt44),(false,(.int .i64))],false,none,[(true,Kt83),(false,(.int .i64))],false,fun j=>match j with|_=>[]⟩
def cals:Cals:=(Cals.consX 55 false bounds_Store_wrong.sig (Cals.consX 61 false bounds_trail_note.sig (Cals.cons 49 bounds_below.sig (Cals.cons 62 delta_Norm.sig (Cals.base tabs)))))
def sig:XSig:=spec.sig cals T Tryz.f27
def F (d:Dt81)(x:Int×Dt44×Int×Unit):Option (Unit×(Dt83×Int×Unit)×Dt81):=limX spec cals T Tryz.f27 d x
theorem ck:CalsOk Tryz.prog cals:=(CalsOk.consX bounds_Store_wrong.cal (CalsOk.consX bounds_trail_note.cal (CalsOk.cons bounds_below.cal (CalsOk.cons delta_Norm.cal (CalsOk.base tabsOk)))))
theorem cal:XOk Tryz.prog tabs 27 sig:=xok_of tabOk ck mix Tryz.func27 (by kernel_rfl) (by kernel_rfl) (by kernel_rfl) (by kernel_rfl)
def e (G:Gh)(d:Dt81)(a0:Int)(a1:Dt44)(a2:Int):Option ((Unit×(Dt83×Int×Unit)×Dt81)×Nat×List Value):=
 (bounds_Store_wrong.F ((d.1.1,d.1.2),(d.2.1,d.2.2)) (a0,())).bind fun y1=>
 let v2:=(y1.2.1.1 != (0:Int))
 bif v2 then(some (((),(zt83,y1.2.1.1,()),((y1.2.2.1.1,y1.2.2.1.2),(y1.2.2.2.1,y1.2.2.2.2))),G.b,[]))
 else(bif decide (0≤a0)&&decide (a0<(List.length y1.2.2.2.2:Int))then(let v3:=((List.getD y1.2.2.2.2 (Int.toNat a0) zt68).1).1
 bif v3 then(let v4:=((List.getD y1.2.2.2.2 (Int.toNat a0) zt68).1).1
 let v5:=((((((List.getD y1.2.2.2.2 (Int.toNat a0) zt68).1).2).1).1).1).1
 let v6:=((((((List.getD y1.2.2.2.2 (Int.toNat a0) zt68).1).2).1).1).1).2
 let v7:=(((((List.getD y1.2.2.2.2 (Int.toNat a0) zt68).1).2).1).1).2
 let v8:=((((((List.getD y1.2.2.2.2 (Int.toNat a0) zt68).1).2).1).2).1).1
 let v9:=((((((List.getD y1.2.2.2.2 (Int.toNat a0) zt68).1).2).1).2).1).2
 let v10:=(((((List.getD y1.2.2.2.2 (Int.toNat a0) zt68).1).2).1).2).2
 let v11:=(((List.getD y1.2.2.2.2 (Int.toNat a0) zt68).1).2).2
 (bounds_below.F ((v4,((((v5,v6),v7),((v8,v9),v10)),v11)),(((a1.1.1.1,a1.1.1.2),a1.1.2),((a1.2.1.1,a1.2.1.2),a1.2.2)),())).bind fun y12=>
 let v13:=not y12.1
 bif v13 then(some (((),(zt83,(0:Int),()),((y1.2.2.1.1,y1.2.2.1.2),(y1.2.2.2.1,y1.2.2.2.2))),G.b,[]))
 else(let v14:=((List.getD y1.2.2.2.2 (Int.toNat a0) zt68).2).1
 let v15:=((((((List.getD y1.2.2.2.2 (Int.toNat a0) zt68).2).2).1).1).1).1
 let v16:=((((((List.getD y1.2.2.2.2 (Int.toNat a0) zt68).2).2).1).1).1).2
 let v17:=(((((List.getD y1.2.2.2.2 (Int.toNat a0) zt68).2).2).1).1).2
 let v18:=((((((List.getD y1.2.2.2.2 (Int.toNat a0) zt68).2).2).1).2).1).1
 let v19:=((((((List.getD y1.2.2.2.2 (Int.toNat a0) zt68).2).2).1).2).1).2
 let v20:=(((((List.getD y1.2.2.2.2 (Int.toNat a0) zt68).2).2).1).2).2
 let v21:=(((List.getD y1.2.2.2.2 (Int.toNat a0) zt68).2).2).2
 (bounds_below.F ((v14,((((v15,v16),v17),((v18,v19),v20)),v21)),(((a1.1.1.1,a1.1.1.2),a1.1.2),((a1.2.1.1,a1.2.1.2),a1.2.2)),())).bind fun y22=>
 bif y22.1 then(let v23:=(((List.getD y1.2.2.2.2 (Int.toNat a0) zt68).2).2).2
 some (((),(((2:Int),v23),(0:Int),()),((y1.2.2.1.1,y1.2.2.1.2),(y1.2.2.2.1,y1.2.2.2.2))),G.b,[]))
 else(let v24:=((List.getD y1.2.2.2.2 (Int.toNat a0) zt68).1).1
 let v25:=((((((List.getD y1.2.2.2.2 (Int.toNat a0) zt68).1).2).1).1).1).1
 let v26:=((((((List.getD y1.2.2.2.2 (Int.toNat a0) zt68).1).2).1).1).1).2
 let v27:=(((((List.getD y1.2.2.2.2 (Int.toNat a0) zt68).1).2).1).1).2
 let v28:=((((((List.getD y1.2.2.2.2 (Int.toNat a0) zt68).1).2).1).2).1).1
 let v29:=((((((List.getD y1.2.2.2.2 (Int.toNat a0) zt68).1).2).1).2).1).2
 let v30:=(((((List.getD y1.2.2.2.2 (Int.toNat a0) zt68).1).2).1).2).2
 let v31:=(((List.getD y1.2.2.2.2 (Int.toNat a0) zt68).1).2).2
 (bounds_trail_note.F (y1.2.2.1.1,y1.2.2.1.2) (a0,false,(v24,((((v25,v26),v27),((v28,v29),v30)),v31)),())).bind fun y32=>
 (delta_Norm.F ((((a1.1.1.1,a1.1.1.2),a1.1.2),((a1.2.1.1,a1.2.1.2),a1.2.2)),())).bind fun y33=>
 let v34:=List.set y1.2.2.2.2 (Int.toNat a0) ((true,((((y33.1.1.1.1,y33.1.1.1.2),y33.1.1.2),((y33.1.2.1.1,y33.1.2.1.2),y33.1.2.2)),a2)),(((List.getD y1.2.2.2.2 (Int.toNat a0) zt68).2).1,((((((((((List.getD y1.2.2.2.2 (Int.toNat a0) zt68).2).2).1).1).1).1,((((((List.getD y1.2.2.2.2 (Int.toNat a0) zt68).2).2).1).1).1).2),(((((List.getD y1.2.2.2.2 (Int.toNat a0) zt68).2).2).1).1).2),((((((((List.getD y1.2.2.2.2 (Int.toNat a0) zt68).2).2).1).2).1).1,((((((List.getD y1.2.2.2.2 (Int.toNat a0) zt68).2).2).1).2).1).2),(((((List.getD y1.2.2.2.2 (Int.toNat a0) zt68).2).2).1).2).2)),(((List.getD y1.2.2.2.2 (Int.toNat a0) zt68).2).2).2)))
 some (((),(((1:Int),(0:Int)),(0:Int),()),((y32.2.2.1,y32.2.2.2),(y1.2.2.2.1,v34))),G.b,[]))))
 else(let v35:=((List.getD y1.2.2.2.2 (Int.toNat a0) zt68).2).1
 let v36:=((((((List.getD y1.2.2.2.2 (Int.toNat a0) zt68).2).2).1).1).1).1
 let v37:=((((((List.getD y1.2.2.2.2 (Int.toNat a0) zt68).2).2).1).1).1).2
 let v38:=(((((List.getD y1.2.2.2.2 (Int.toNat a0) zt68).2).2).1).1).2
 let v39:=((((((List.getD y1.2.2.2.2 (Int.toNat a0) zt68).2).2).1).2).1).1
 let v40:=((((((List.getD y1.2.2.2.2 (Int.toNat a0) zt68).2).2).1).2).1).2
 let v41:=(((((List.getD y1.2.2.2.2 (Int.toNat a0) zt68).2).2).1).2).2
 let v42:=(((List.getD y1.2.2.2.2 (Int.toNat a0) zt68).2).2).2
 (bounds_below.F ((v35,((((v36,v37),v38),((v39,v40),v41)),v42)),(((a1.1.1.1,a1.1.1.2),a1.1.2),((a1.2.1.1,a1.2.1.2),a1.2.2)),())).bind fun y43=>
 bif y43.1 then(let v44:=(((List.getD y1.2.2.2.2 (Int.toNat a0) zt68).2).2).2
 some (((),(((2:Int),v44),(0:Int),()),((y1.2.2.1.1,y1.2.2.1.2),(y1.2.2.2.1,y1.2.2.2.2))),G.b,[]))
 else(let v45:=((List.getD y1.2.2.2.2 (Int.toNat a0) zt68).1).1
 let v46:=((((((List.getD y1.2.2.2.2 (Int.toNat a0) zt68).1).2).1).1).1).1
 let v47:=((((((List.getD y1.2.2.2.2 (Int.toNat a0) zt68).1).2).1).1).1).2
 let v48:=(((((List.getD y1.2.2.2.2 (Int.toNat a0) zt68).1).2).1).1).2
 let v49:=((((((List.getD y1.2.2.2.2 (Int.toNat a0) zt68).1).2).1).2).1).1
 let v50:=((((((List.getD y1.2.2.2.2 (Int.toNat a0) zt68).1).2).1).2).1).2
 let v51:=(((((List.getD y1.2.2.2.2 (Int.toNat a0) zt68).1).2).1).2).2
 let v52:=(((List.getD y1.2.2.2.2 (Int.toNat a0) zt68).1).2).2
 (bounds_trail_note.F (y1.2.2.1.1,y1.2.2.1.2) (a0,false,(v45,((((v46,v47),v48),((v49,v50),v51)),v52)),())).bind fun y53=>
 (delta_Norm.F ((((a1.1.1.1,a1.1.1.2),a1.1.2),((a1.2.1.1,a1.2.1.2),a1.2.2)),())).bind fun y54=>
 let v55:=List.set y1.2.2.2.2 (Int.toNat a0) ((true,((((y54.1.1.1.1,y54.1.1.1.2),y54.1.1.2),((y54.1.2.1.1,y54.1.2.1.2),y54.1.2.2)),a2)),(((List.getD y1.2.2.2.2 (Int.toNat a0) zt68).2).1,((((((((((List.getD y1.2.2.2.2 (Int.toNat a0) zt68).2).2).1).1).1).1,((((((List.getD y1.2.2.2.2 (Int.toNat a0) zt68).2).2).1).1).1).2),(((((List.getD y1.2.2.2.2 (Int.toNat a0) zt68).2).2).1).1).2),((((((((List.getD y1.2.2.2.2 (Int.toNat a0) zt68).2).2).1).2).1).1,((((((List.getD y1.2.2.2.2 (Int.toNat a0) zt68).2).2).1).2).1).2),(((((List.getD y1.2.2.2.2 (Int.toNat a0) zt68).2).2).1).2).2)),(((List.getD y1.2.2.2.2 (Int.toNat a0) zt68).2).2).2)))
 some (((),(((1:Int),(0:Int)),(0:Int),()),((y53.2.2.1,y53.2.2.2),(y1.2.2.2.1,v55))),G.b,[]))))
 else none)
theorem eval (k:Nat)(G:Gh)(d:Dt81)(a0:Int)(a1:Dt44)(a2:Int):evalX spec cals T Tryz.f27 k G d (a0,a1,a2,())=e G d a0 a1 a2:=by kernel_rfl
theorem of (d:Dt81)(a0:Int)(a1:Dt44)(a2:Int)(y:(Unit×(Dt83×Int×Unit)×Dt81))(h:∀G:Gh,∃k:Nat,e G d a0 a1 a2=some (y,(G.b,[]))):F d (a0,a1,a2,())=some y:=limX_of (q:=spec) (C:=cals) (T:=T) (f:=Tryz.f27) (d:=d) (x:=(a0,a1,a2,())) y fun G=>(h G).imp fun k hk=>(eval k G d a0 a1 a2).trans hk
end bounds_Store_Lift
namespace bounds_above
def spec:Spec:=⟨[(true,Kt66),(true,Kt44)],[(false,.bool)],.own,fun j=>match j with|_=>[]⟩
def cals:Cals:=(Cals.cons 68 delta_Cmp.sig (Cals.base tabs))
def sig:Sig:=spec.sig cals T Tryz.f63
def F (x:Dt66×Dt44×Unit):Option (Bool×Unit):=limF spec cals T Tryz.f63 x
theorem ck:CalsOk Tryz.prog cals:=(CalsOk.cons delta_Cmp.cal (CalsOk.base tabsOk))
theorem cal:CalOk Tryz.prog tabs 63 sig:=calOk_lim' tabOk ck mix Tryz.func63 (by kernel_rfl) (by kernel_rfl) (by kernel_rfl) (by kernel_rfl)
def e (a0:Dt66)(a1:Dt44):Option (Bool×Unit):=
 bif a0.1 then((delta_Cmp.F ((((a0.2.1.1.1.1,a0.2.1.1.1.2),a0.2.1.1.2),((a0.2.1.2.1.1,a0.2.1.2.1.2),a0.2.1.2.2)),(((a1.1.1.1,a1.1.1.2),a1.1.2),((a1.2.1.1,a1.2.1.2),a1.2.2)),())).bind fun y1=>
 let v2:=decide (y1.1>(0:Int))
 some (v2,()))
 else(some (false,()))
theorem eval (k:Nat)(a0:Dt66)(a1:Dt44):evalF spec cals T Tryz.f63 k (a0,a1,())=e a0 a1:=by kernel_rfl
theorem of (k:Nat)(a0:Dt66)(a1:Dt44){y:Bool×Unit}(h:e a0 a1=some y):F (a0,a1,())=some y:=limF_of k ((eval k a0 a1).trans h)
end bounds_above
namespace bounds_Store_Press
def spec:XSpec:=⟨some ⟨81,0,Kt81,0⟩,false,[(false,(.int .i64)),(true,Kt44),(false,(.int .i64))],false,none,[(true,Kt83),(false,(.int .i64))],false,fun j=>match j with|_=>[]⟩
def cals:Cals:=(Cals.consX 55 false bounds_Store_wrong.sig (Cals.consX 61 false bounds_trail_note.sig (Cals.cons 63 bounds_above.sig (Cals.cons 62 delta_Norm.sig (Cals.base tabs)))))
def sig:XSig:=spec.sig cals T Tryz.f28
def F (d:Dt81)(x:Int×Dt44×Int×Unit):Option (Unit×(Dt83×Int×Unit)×Dt81):=limX spec cals T Tryz.f28 d x
theorem ck:CalsOk Tryz.prog cals:=(CalsOk.consX bounds_Store_wrong.cal (CalsOk.consX bounds_trail_note.cal (CalsOk.cons bounds_above.cal (CalsOk.cons delta_Norm.cal (CalsOk.base tabsOk)))))
theorem cal:XOk Tryz.prog tabs 28 sig:=xok_of tabOk ck mix Tryz.func28 (by kernel_rfl) (by kernel_rfl) (by kernel_rfl) (by kernel_rfl)
def e (G:Gh)(d:Dt81)(a0:Int)(a1:Dt44)(a2:Int):Option ((Unit×(Dt83×Int×Unit)×Dt81)×Nat×List Value):=
 (bounds_Store_wrong.F ((d.1.1,d.1.2),(d.2.1,d.2.2)) (a0,())).bind fun y1=>
 let v2:=(y1.2.1.1 != (0:Int))
 bif v2 then(some (((),(zt83,y1.2.1.1,()),((y1.2.2.1.1,y1.2.2.1.2),(y1.2.2.2.1,y1.2.2.2.2))),G.b,[]))
 else(bif decide (0≤a0)&&decide (a0<(List.length y1.2.2.2.2:Int))then(let v3:=((List.getD y1.2.2.2.2 (Int.toNat a0) zt68).2).1
 bif v3 then(let v4:=((List.getD y1.2.2.2.2 (Int.toNat a0) zt68).2).1
 let v5:=((((((List.getD y1.2.2.2.2 (Int.toNat a0) zt68).2).2).1).1).1).1
 let v6:=((((((List.getD y1.2.2.2.2 (Int.toNat a0) zt68).2).2).1).1).1).2
 let v7:=(((((List.getD y1.2.2.2.2 (Int.toNat a0) zt68).2).2).1).1).2
 let v8:=((((((List.getD y1.2.2.2.2 (Int.toNat a0) zt68).2).2).1).2).1).1
 let v9:=((((((List.getD y1.2.2.2.2 (Int.toNat a0) zt68).2).2).1).2).1).2
 let v10:=(((((List.getD y1.2.2.2.2 (Int.toNat a0) zt68).2).2).1).2).2
 let v11:=(((List.getD y1.2.2.2.2 (Int.toNat a0) zt68).2).2).2
 (bounds_above.F ((v4,((((v5,v6),v7),((v8,v9),v10)),v11)),(((a1.1.1.1,a1.1.1.2),a1.1.2),((a1.2.1.1,a1.2.1.2),a1.2.2)),())).bind fun y12=>
 let v13:=not y12.1
 bif v13 then(some (((),(zt83,(0:Int),()),((y1.2.2.1.1,y1.2.2.1.2),(y1.2.2.2.1,y1.2.2.2.2))),G.b,[]))
 else(let v14:=((List.getD y1.2.2.2.2 (Int.toNat a0) zt68).1).1
 let v15:=((((((List.getD y1.2.2.2.2 (Int.toNat a0) zt68).1).2).1).1).1).1
 let v16:=((((((List.getD y1.2.2.2.2 (Int.toNat a0) zt68).1).2).1).1).1).2
 let v17:=(((((List.getD y1.2.2.2.2 (Int.toNat a0) zt68).1).2).1).1).2
 let v18:=((((((List.getD y1.2.2.2.2 (Int.toNat a0) zt68).1).2).1).2).1).1
 let v19:=((((((List.getD y1.2.2.2.2 (Int.toNat a0) zt68).1).2).1).2).1).2
 let v20:=(((((List.getD y1.2.2.2.2 (Int.toNat a0) zt68).1).2).1).2).2
 let v21:=(((List.getD y1.2.2.2.2 (Int.toNat a0) zt68).1).2).2
 (bounds_above.F ((v14,((((v15,v16),v17),((v18,v19),v20)),v21)),(((a1.1.1.1,a1.1.1.2),a1.1.2),((a1.2.1.1,a1.2.1.2),a1.2.2)),())).bind fun y22=>
 bif y22.1 then(let v23:=(((List.getD y1.2.2.2.2 (Int.toNat a0) zt68).1).2).2
 some (((),(((2:Int),v23),(0:Int),()),((y1.2.2.1.1,y1.2.2.1.2),(y1.2.2.2.1,y1.2.2.2.2))),G.b,[]))
 else(let v24:=((List.getD y1.2.2.2.2 (Int.toNat a0) zt68).2).1
 let v25:=((((((List.getD y1.2.2.2.2 (Int.toNat a0) zt68).2).2).1).1).1).1
 let v26:=((((((List.getD y1.2.2.2.2 (Int.toNat a0) zt68).2).2).1).1).1).2
 let v27:=(((((List.getD y1.2.2.2.2 (Int.toNat a0) zt68).2).2).1).1).2
 let v28:=((((((List.getD y1.2.2.2.2 (Int.toNat a0) zt68).2).2).1).2).1).1
 let v29:=((((((List.getD y1.2.2.2.2 (Int.toNat a0) zt68).2).2).1).2).1).2
 let v30:=(((((List.getD y1.2.2.2.2 (Int.toNat a0) zt68).2).2).1).2).2
 let v31:=(((List.getD y1.2.2.2.2 (Int.toNat a0) zt68).2).2).2
 (bounds_trail_note.F (y1.2.2.1.1,y1.2.2.1.2) (a0,true,(v24,((((v25,v26),v27),((v28,v29),v30)),v31)),())).bind fun y32=>
 (delta_Norm.F ((((a1.1.1.1,a1.1.1.2),a1.1.2),((a1.2.1.1,a1.2.1.2),a1.2.2)),())).bind fun y33=>
 let v34:=List.set y1.2.2.2.2 (Int.toNat a0) ((((List.getD y1.2.2.2.2 (Int.toNat a0) zt68).1).1,((((((((((List.getD y1.2.2.2.2 (Int.toNat a0) zt68).1).2).1).1).1).1,((((((List.getD y1.2.2.2.2 (Int.toNat a0) zt68).1).2).1).1).1).2),(((((List.getD y1.2.2.2.2 (Int.toNat a0) zt68).1).2).1).1).2),((((((((List.getD y1.2.2.2.2 (Int.toNat a0) zt68).1).2).1).2).1).1,((((((List.getD y1.2.2.2.2 (Int.toNat a0) zt68).1).2).1).2).1).2),(((((List.getD y1.2.2.2.2 (Int.toNat a0) zt68).1).2).1).2).2)),(((List.getD y1.2.2.2.2 (Int.toNat a0) zt68).1).2).2)),(true,((((y33.1.1.1.1,y33.1.1.1.2),y33.1.1.2),((y33.1.2.1.1,y33.1.2.1.2),y33.1.2.2)),a2)))
 some (((),(((1:Int),(0:Int)),(0:Int),()),((y32.2.2.1,y32.2.2.2),(y1.2.2.2.1,v34))),G.b,[]))))
 else(let v35:=((List.getD y1.2.2.2.2 (Int.toNat a0) zt68).1).1
 let v36:=((((((List.getD y1.2.2.2.2 (Int.toNat a0) zt68).1).2).1).1).1).1
 let v37:=((((((List.getD y1.2.2.2.2 (Int.toNat a0) zt68).1).2).1).1).1).2
 let v38:=(((((List.getD y1.2.2.2.2 (Int.toNat a0) zt68).1).2).1).1).2
 let v39:=((((((List.getD y1.2.2.2.2 (Int.toNat a0) zt68).1).2).1).2).1).1
 let v40:=((((((List.getD y1.2.2.2.2 (Int.toNat a0) zt68).1).2).1).2).1).2
 let v41:=(((((List.getD y1.2.2.2.2 (Int.toNat a0) zt68).1).2).1).2).2
 let v42:=(((List.getD y1.2.2.2.2 (Int.toNat a0) zt68).1).2).2
 (bounds_above.F ((v35,((((v36,v37),v38),((v39,v40),v41)),v42)),(((a1.1.1.1,a1.1.1.2),a1.1.2),((a1.2.1.1,a1.2.1.2),a1.2.2)),())).bind fun y43=>
 bif y43.1 then(let v44:=(((List.getD y1.2.2.2.2 (Int.toNat a0) zt68).1).2).2
 some (((),(((2:Int),v44),(0:Int),()),((y1.2.2.1.1,y1.2.2.1.2),(y1.2.2.2.1,y1.2.2.2.2))),G.b,[]))
 else(let v45:=((List.getD y1.2.2.2.2 (Int.toNat a0) zt68).2).1
 let v46:=((((((List.getD y1.2.2.2.2 (Int.toNat a0) zt68).2).2).1).1).1).1
 let v47:=((((((List.getD y1.2.2.2.2 (Int.toNat a0) zt68).2).2).1).1).1).2
 let v48:=(((((List.getD y1.2.2.2.2 (Int.toNat a0) zt68).2).2).1).1).2
 let v49:=((((((List.getD y1.2.2.2.2 (Int.toNat a0) zt68).2).2).1).2).1).1
 let v50:=((((((List.getD y1.2.2.2.2 (Int.toNat a0) zt68).2).2).1).2).1).2
 let v51:=(((((List.getD y1.2.2.2.2 (Int.toNat a0) zt68).2).2).1).2).2
 let v52:=(((List.getD y1.2.2.2.2 (Int.toNat a0) zt68).2).2).2
 (bounds_trail_note.F (y1.2.2.1.1,y1.2.2.1.2) (a0,true,(v45,((((v46,v47),v48),((v49,v50),v51)),v52)),())).bind fun y53=>
 (delta_Norm.F ((((a1.1.1.1,a1.1.1.2),a1.1.2),((a1.2.1.1,a1.2.1.2),a1.2.2)),())).bind fun y54=>
 let v55:=List.set y1.2.2.2.2 (Int.toNat a0) ((((List.getD y1.2.2.2.2 (Int.toNat a0) zt68).1).1,((((((((((List.getD y1.2.2.2.2 (Int.toNat a0) zt68).1).2).1).1).1).1,((((((List.getD y1.2.2.2.2 (Int.toNat a0) zt68).1).2).1).1).1).2),(((((List.getD y1.2.2.2.2 (Int.toNat a0) zt68).1).2).1).1).2),((((((((List.getD y1.2.2.2.2 (Int.toNat a0) zt68).1).2).1).2).1).1,((((((List.getD y1.2.2.2.2 (Int.toNat a0) zt68).1).2).1).2).1).2),(((((List.getD y1.2.2.2.2 (Int.toNat a0) zt68).1).2).1).2).2)),(((List.getD y1.2.2.2.2 (Int.toNat a0) zt68).1).2).2)),(true,((((y54.1.1.1.1,y54.1.1.1.2),y54.1.1.2),((y54.1.2.1.1,y54.1.2.1.2),y54.1.2.2)),a2)))
 some (((),(((1:Int),(0:Int)),(0:Int),()),((y53.2.2.1,y53.2.2.2),(y1.2.2.2.1,v55))),G.b,[]))))
 else none)
theorem eval (k:Nat)(G:Gh)(d:Dt81)(a0:Int)(a1:Dt44)(a2:Int):evalX spec cals T Tryz.f28 k G d (a0,a1,a2,())=e G d a0 a1 a2:=by kernel_rfl
theorem of (d:Dt81)(a0:Int)(a1:Dt44)(a2:Int)(y:(Unit×(Dt83×Int×Unit)×Dt81))(h:∀G:Gh,∃k:Nat,e G d a0 a1 a2=some (y,(G.b,[]))):F d (a0,a1,a2,())=some y:=limX_of (q:=spec) (C:=cals) (T:=T) (f:=Tryz.f28) (d:=d) (x:=(a0,a1,a2,())) y fun G=>(h G).imp fun k hk=>(eval k G d a0 a1 a2).trans hk
end bounds_Store_Press
namespace r08_Is
def spec:Spec:=⟨[(true,Kt32),(false,(.int .i64))],[(false,.bool)],.own,fun j=>match j with|_=>[]⟩
def cals:Cals:=(Cals.base tabs)
def sig:Sig:=spec.sig cals T Tryz.f37
def F (x:Dt32×Int×Unit):Option (Bool×Unit):=limF spec cals T Tryz.f37 x
theorem ck:CalsOk Tryz.prog cals:=(CalsOk.base tabsOk)
theorem cal:CalOk Tryz.prog tabs 37 sig:=calOk_lim' tabOk ck mix Tryz.func37 (by kernel_rfl) (by kernel_rfl) (by kernel_rfl) (by kernel_rfl)
def e (a0:Dt32)(a1:Int):Option (Bool×Unit):=
 let v1:=decide (a1≥(0:Int))
 bif v1 then(let v2:=(List.length a0.1:Int)
 let v3:=decide (a1<v2)
 some (v3,()))
 else(some (false,()))
theorem eval (k:Nat)(a0:Dt32)(a1:Int):evalF spec cals T Tryz.f37 k (a0,a1,())=e a0 a1:=by kernel_rfl
theorem of (k:Nat)(a0:Dt32)(a1:Int){y:Bool×Unit}(h:e a0 a1=some y):F (a0,a1,())=some y:=limF_of k ((eval k a0 a1).trans h)
end r08_Is
namespace r01_Norm
def spec:Spec:=⟨[(false,Kt38)],[(false,Kt38)],.own,fun j=>match j with|2=>[(0,.lf (.z 114 (.int .u32) false)),(3,.lf (.v true))]|6=>[(0,.lf (.z 114 (.int .u32) false)),(3,.lf (.v true)),(4,.lf (.o 114 (.int .u32) true)),(5,.lf (.v true))]|_=>[]⟩
def cals:Cals:=(Cals.base tabs)
def sig:Sig:=spec.sig cals T Tryz.f80
def F (x:Dt38×Unit):Option (Dt38×Unit):=limF spec cals T Tryz.f80 x
theorem ck:CalsOk Tryz.prog cals:=(CalsOk.base tabsOk)
theorem cal:CalOk Tryz.prog tabs 80 sig:=calOk_lim' tabOk ck mix Tryz.func80 (by kernel_rfl) (by kernel_rfl) (by kernel_rfl) (by kernel_rfl)
def m2 (x0:Dt38)(x3:Int):S:=⟨[(0,.one (.lf (.val false Kt38 x0))),(3,.one (.lf (.val true (.int .i64) x3)))],⟨[],[]⟩⟩
def m6 (x0:Dt38)(x3:Int)(x4:Dt38)(x5:Int):S:=⟨[(0,.one (.lf (.val false Kt38 x0))),(3,.one (.lf (.val true (.int .i64) x3))),(4,.one (.lf (.own 0))),(5,.one (.lf (.val true (.int .i64) x5)))],⟨[some ⟨114,(.int .u32),true,true,x4⟩],[]⟩⟩
def b2 (f2:Dt38→Int→Option (Dt38×Unit))(f6:Dt38→Int→Dt38→Int→Option (Dt38×Unit))(x0:Dt38)(x3:Int):Option (Dt38×Unit):=
 let v1:=decide (x3>(0:Int))
 bif v1 then(let v2:=IntKind.i64.wrap (x3-(1:Int))
 bif decide (0≤v2)&&decide (v2<(List.length x0:Int))then(let v3:=List.getD x0 (Int.toNat v2) (0:Int)
 let v4:=(v3==(0:Int))
 bif v4 then(let v5:=IntKind.i64.wrap (x3-(1:Int))
 f2 x0 v5)
 else(bif decide (0≤x3)&&(decide (x3≤x3)&&(decide (Int.toNat x3*4≤281474976710656)&&Nat.blt 0 4))then(let v6:=List.replicate (Int.toNat x3) (0:Int)
 f6 x0 x3 v6 (0:Int))
 else none))
 else none)
 else(bif decide (0≤x3)&&(decide (x3≤x3)&&(decide (Int.toNat x3*4≤281474976710656)&&Nat.blt 0 4))then(let v7:=List.replicate (Int.toNat x3) (0:Int)
 f6 x0 x3 v7 (0:Int))
 else none)
def b6 (f2:Dt38→Int→Option (Dt38×Unit))(f6:Dt38→Int→Dt38→Int→Option (Dt38×Unit))(x0:Dt38)(x3:Int)(x4:Dt38)(x5:Int):Option (Dt38×Unit):=
 let v1:=decide (x5<x3)
 bif v1 then(bif decide (0≤x5)&&decide (x5<(List.length x0:Int))then(let v2:=List.getD x0 (Int.toNat x5) (0:Int)
 bif decide (0≤x5)&&decide (x5<(List.length x4:Int))then(let v3:=List.set x4 (Int.toNat x5) v2
 let v4:=IntKind.i64.wrap (x5+(1:Int))
 f6 x0 x3 v3 v4)
 else none)
 else none)
 else(some (x4,()))
def e (f2:Dt38→Int→Option (Dt38×Unit))(f6:Dt38→Int→Dt38→Int→Option (Dt38×Unit))(a0:Dt38):Option (Dt38×Unit):=
 let v1:=(List.length a0:Int)
 f2 a0 v1
def L2 (k:Nat)(x0:Dt38)(x3:Int):Option (Dt38×Unit):=heads (spec.env cals T Tryz.f80) (Func.pts Tryz.f80) k 2 (m2 x0 x3)
def L6 (k:Nat)(x0:Dt38)(x3:Int)(x4:Dt38)(x5:Int):Option (Dt38×Unit):=heads (spec.env cals T Tryz.f80) (Func.pts Tryz.f80) k 6 (m6 x0 x3 x4 x5)
theorem L2_succ (k:Nat)(x0:Dt38)(x3:Int):L2 (k+1) x0 x3=b2 (L2 k) (L6 k) x0 x3:=by kernel_rfl
theorem L6_succ (k:Nat)(x0:Dt38)(x3:Int)(x4:Dt38)(x5:Int):L6 (k+1) x0 x3 x4 x5=b6 (L2 k) (L6 k) x0 x3 x4 x5:=by kernel_rfl
theorem eval (k:Nat)(a0:Dt38):evalF spec cals T Tryz.f80 k (a0,())=e (L2 k) (L6 k) a0:=by kernel_rfl
theorem of (k:Nat)(a0:Dt38){y:Dt38×Unit}(h:e (L2 k) (L6 k) a0=some y):F (a0,())=some y:=limF_of k ((eval k a0).trans h)
end r01_Norm
namespace r02_made
def spec:Spec:=⟨[(false,.bool),(false,Kt38)],[(true,Kt40)],.own,fun j=>match j with|_=>[]⟩
def cals:Cals:=(Cals.cons 80 r01_Norm.sig (Cals.base tabs))
def sig:Sig:=spec.sig cals T Tryz.f83
def F (x:Bool×Dt38×Unit):Option (Dt40×Unit):=limF spec cals T Tryz.f83 x
theorem ck:CalsOk Tryz.prog cals:=(CalsOk.cons r01_Norm.cal (CalsOk.base tabsOk))
theorem cal:CalOk Tryz.prog tabs 83 sig:=calOk_lim' tabOk ck mix Tryz.func83 (by kernel_rfl) (by kernel_rfl) (by kernel_rfl) (by kernel_rfl)
def e (a0:Bool)(a1:Dt38):Option (Dt40×Unit):=
 (r01_Norm.F (a1,())).bind fun y1=>
 bif a0 then(let v2:=(List.length y1.1:Int)
 let v3:=decide (v2>(0:Int))
 some ((v3,y1.1),()))
 else(some ((false,y1.1),()))
theorem eval (k:Nat)(a0:Bool)(a1:Dt38):evalF spec cals T Tryz.f83 k (a0,a1,())=e a0 a1:=by kernel_rfl
theorem of (k:Nat)(a0:Bool)(a1:Dt38){y:Dt40×Unit}(h:e a0 a1=some y):F (a0,a1,())=some y:=limF_of k ((eval k a0 a1).trans h)
end r02_made
namespace r02_Norm
def spec:Spec:=⟨[(true,Kt40)],[(true,Kt40)],.own,fun j=>match j with|_=>[]⟩
def cals:Cals:=(Cals.cons 83 r02_made.sig (Cals.base tabs))
def sig:Sig:=spec.sig cals T Tryz.f79
def F (x:Dt40×Unit):Option (Dt40×Unit):=limF spec cals T Tryz.f79 x
theorem ck:CalsOk Tryz.prog cals:=(CalsOk.cons r02_made.cal (CalsOk.base tabsOk))
theorem cal:CalOk Tryz.prog tabs 79 sig:=calOk_lim' tabOk ck mix Tryz.func79 (by kernel_rfl) (by kernel_rfl) (by kernel_rfl) (by kernel_rfl)
def e (a0:Dt40):Option (Dt40×Unit):=
 (r02_made.F (a0.1,a0.2,())).bind fun y1=>
 some ((y1.1.1,y1.1.2),())
theorem eval (k:Nat)(a0:Dt40):evalF spec cals T Tryz.f79 k (a0,())=e a0:=by kernel_rfl
theorem of (k:Nat)(a0:Dt40){y:Dt40×Unit}(h:e a0=some y):F (a0,())=some y:=limF_of k ((eval k a0).trans h)
end r02_Norm
namespace r01_at
def spec:Spec:=⟨[(false,Kt38),(false,(.int .i64))],[(false,(.int .u64))],.own,fun j=>match j with|_=>[]⟩
def cals:Cals:=(Cals.base tabs)
def sig:Sig:=spec.sig cals T Tryz.f103
def F (x:Dt38×Int×Unit):Option (Int×Unit):=limF spec cals T Tryz.f103 x
theorem ck:CalsOk Tryz.prog cals:=(CalsOk.base tabsOk)
theorem cal:CalOk Tryz.prog tabs 103 sig:=calOk_lim' tabOk ck mix Tryz.func103 (by kernel_rfl) (by kernel_rfl) (by kernel_rfl) (by kernel_rfl)
def e (a0:Dt38)(a1:Int):Option (Int×Unit):=
 let v1:=(List.length a0:Int)
 let v2:=decide (a1≥v1)
 bif v2 then(some ((0:Int),()))
 else(bif decide (0≤a1)&&decide (a1<(List.length a0:Int))then(let v3:=List.getD a0 (Int.toNat a1) (0:Int)
 let v4:=IntKind.u64.wrap v3
 some (v4,()))
 else none)
theorem eval (k:Nat)(a0:Dt38)(a1:Int):evalF spec cals T Tryz.f103 k (a0,a1,())=e a0 a1:=by kernel_rfl
theorem of (k:Nat)(a0:Dt38)(a1:Int){y:Int×Unit}(h:e a0 a1=some y):F (a0,a1,())=some y:=limF_of k ((eval k a0 a1).trans h)
end r01_at
namespace r01_Cmp
def spec:Spec:=⟨[(false,Kt38),(false,Kt38)],[(false,(.int .i64))],.own,fun j=>match j with|5=>[(0,.lf (.z 114 (.int .u32) false)),(1,.lf (.z 114 (.int .u32) false)),(6,.lf (.v true))]|_=>[]⟩
def cals:Cals:=(Cals.cons 103 r01_at.sig (Cals.base tabs))
def sig:Sig:=spec.sig cals T Tryz.f93
def F (x:Dt38×Dt38×Unit):Option (Int×Unit):=limF spec cals T Tryz.f93 x
theorem ck:CalsOk Tryz.prog cals:=(CalsOk.cons r01_at.cal (CalsOk.base tabsOk))
theorem cal:CalOk Tryz.prog tabs 93 sig:=calOk_lim' tabOk ck mix Tryz.func93 (by kernel_rfl) (by kernel_rfl) (by kernel_rfl) (by kernel_rfl)
def m5 (x0:Dt38)(x1:Dt38)(x6:Int):S:=⟨[(0,.one (.lf (.val false Kt38 x0))),(1,.one (.lf (.val false Kt38 x1))),(6,.one (.lf (.val true (.int .i64) x6)))],⟨[],[]⟩⟩
def b5 (f5:Dt38→Dt38→Int→Option (Int×Unit))(x0:Dt38)(x1:Dt38)(x6:Int):Option (Int×Unit):=
 let v1:=decide (x6≥(0:Int))
 bif v1 then((r01_at.F (x0,x6,())).bind fun y2=>
 (r01_at.F (x1,x6,())).bind fun y3=>
 let v4:=decide (y2.1<y3.1)
 bif v4 then(some ((-1:Int),()))
 else((r01_at.F (x0,x6,())).bind fun y5=>
 (r01_at.F (x1,x6,())).bind fun y6=>
 let v7:=decide (y5.1>y6.1)
 bif v7 then(some ((1:Int),()))
 else(let v8:=IntKind.i64.wrap (x6-(1:Int))
 f5 x0 x1 v8)))
 else(some ((0:Int),()))
def e (f5:Dt38→Dt38→Int→Option (Int×Unit))(a0:Dt38)(a1:Dt38):Option (Int×Unit):=
 let v1:=(List.length a0:Int)
 let v2:=(List.length a1:Int)
 let v3:=decide (v2>v1)
 bif v3 then(let v4:=(List.length a1:Int)
 let v5:=IntKind.i64.wrap (v4-(1:Int))
 f5 a0 a1 v5)
 else(let v6:=IntKind.i64.wrap (v1-(1:Int))
 f5 a0 a1 v6)
def L5 (k:Nat)(x0:Dt38)(x1:Dt38)(x6:Int):Option (Int×Unit):=heads (spec.env cals T Tryz.f93) (Func.pts Tryz.f93) k 5 (m5 x0 x1 x6)
theorem L5_succ (k:Nat)(x0:Dt38)(x1:Dt38)(x6:Int):L5 (k+1) x0 x1 x6=b5 (L5 k) x0 x1 x6:=by kernel_rfl
theorem eval (k:Nat)(a0:Dt38)(a1:Dt38):evalF spec cals T Tryz.f93 k (a0,a1,())=e (L5 k) a0 a1:=by kernel_rfl
theorem of (k:Nat)(a0:Dt38)(a1:Dt38){y:Int×Unit}(h:e (L5 k) a0 a1=some y):F (a0,a1,())=some y:=limF_of k ((eval k a0 a1).trans h)
end r01_Cmp
namespace r01_Bit
def spec:Spec:=⟨[(false,Kt38),(false,(.int .i64))],[(false,.bool)],.own,fun j=>match j with|_=>[]⟩
def cals:Cals:=(Cals.base tabs)
def sig:Sig:=spec.sig cals T Tryz.f94
def F (x:Dt38×Int×Unit):Option (Bool×Unit):=limF spec cals T Tryz.f94 x
theorem ck:CalsOk Tryz.prog cals:=(CalsOk.base tabsOk)
theorem cal:CalOk Tryz.prog tabs 94 sig:=calOk_lim' tabOk ck mix Tryz.func94 (by kernel_rfl) (by kernel_rfl) (by kernel_rfl) (by kernel_rfl)
def e (a0:Dt38)(a1:Int):Option (Bool×Unit):=
 let v1:=decide (a1≥(0:Int))
 bif v1 then(bif decide ((32:Int)=0)then none
 else(let v2:=IntKind.i64.wrap (Int.tdiv a1 (32:Int))
 let v3:=(List.length a0:Int)
 let v4:=decide (v2<v3)
 bif v4 then(bif decide ((32:Int)=0)then none
 else(let v5:=IntKind.i64.wrap (Int.tdiv a1 (32:Int))
 bif decide (0≤v5)&&decide (v5<(List.length a0:Int))then(let v6:=List.getD a0 (Int.toNat v5) (0:Int)
 bif decide ((32:Int)=0)then none
 else(let v7:=Int.tmod a1 (32:Int)
 let v8:=IntKind.u64.wrap v7
 bif decide (v8<0)then none
 else(let v9:=shrI .u32 v6 v8
 let v10:=bitsOp .and .u32 v9 (1:Int)
 let v11:=(v10==(1:Int))
 some (v11,()))))
 else none))
 else(some (false,()))))
 else(some (false,()))
theorem eval (k:Nat)(a0:Dt38)(a1:Int):evalF spec cals T Tryz.f94 k (a0,a1,())=e a0 a1:=by kernel_rfl
theorem of (k:Nat)(a0:Dt38)(a1:Int){y:Bool×Unit}(h:e a0 a1=some y):F (a0,a1,())=some y:=limF_of k ((eval k a0 a1).trans h)
end r01_Bit
namespace r01_Shift
def spec:Spec:=⟨[(false,Kt38),(false,(.int .i64))],[(false,Kt38),(false,(.int .i64))],.own,fun j=>match j with|15=>[(0,.lf (.z 114 (.int .u32) false)),(6,.lf (.v true)),(7,.lf (.o 114 (.int .u32) true)),(8,.lf (.v true)),(9,.lf (.v true)),(10,.lf (.v true))]|_=>[]⟩
def cals:Cals:=(Cals.cons 80 r01_Norm.sig (Cals.base tabs))
def sig:Sig:=spec.sig cals T Tryz.f95
def F (x:Dt38×Int×Unit):Option (Dt38×Int×Unit):=limF spec cals T Tryz.f95 x
theorem ck:CalsOk Tryz.prog cals:=(CalsOk.cons r01_Norm.cal (CalsOk.base tabsOk))
theorem cal:CalOk Tryz.prog tabs 95 sig:=calOk_lim' tabOk ck mix Tryz.func95 (by kernel_rfl) (by kernel_rfl) (by kernel_rfl) (by kernel_rfl)
def m15 (x0:Dt38)(x6:Int)(x7:Dt38)(x8:Int)(x9:Int)(x10:Int):S:=⟨[(0,.one (.lf (.val false Kt38 x0))),(6,.one (.lf (.val true (.int .i64) x6))),(7,.one (.lf (.own 0))),(8,.one (.lf (.val true (.int .i64) x8))),(9,.one (.lf (.val true (.int .i64) x9))),(10,.one (.lf (.val true (.int .i64) x10)))],⟨[some ⟨114,(.int .u32),true,true,x7⟩],[]⟩⟩
def b15 (f15:Dt38→Int→Dt38→Int→Int→Int→Option (Dt38×Int×Unit))(x0:Dt38)(x6:Int)(x7:Dt38)(x8:Int)(x9:Int)(x10:Int):Option (Dt38×Int×Unit):=
 let v1:=(List.length x0:Int)
 let v2:=decide (x10<v1)
 bif v2 then(bif decide (0≤x10)&&decide (x10<(List.length x0:Int))then(let v3:=List.getD x0 (Int.toNat x10) (0:Int)
 let v4:=IntKind.u64.wrap v3
 let v5:=IntKind.u64.wrap x9
 bif decide (v5<0)then none
 else(let v6:=shlI .u64 v4 v5
 let v7:=IntKind.i64.wrap (x10+x8)
 let v8:=decide (v7≥(0:Int))
 bif v8 then(let v9:=IntKind.i64.wrap (x10+x8)
 let v10:=decide (v9<x6)
 bif v10 then(let v11:=IntKind.i64.wrap (x10+x8)
 bif decide (0≤v11)&&decide (v11<(List.length x7:Int))then(let v12:=List.getD x7 (Int.toNat v11) (0:Int)
 let v13:=IntKind.u32.wrap v6
 let v14:=bitsOp .or .u32 v12 v13
 bif decide (0≤v11)&&decide (v11<(List.length x7:Int))then(let v15:=List.set x7 (Int.toNat v11) v14
 let v16:=IntKind.i64.wrap (x10+x8)
 let v17:=IntKind.i64.wrap (v16+(1:Int))
 let v18:=decide (v17≥(0:Int))
 bif v18 then(let v19:=IntKind.i64.wrap (x10+x8)
 let v20:=IntKind.i64.wrap (v19+(1:Int))
 let v21:=decide (v20<x6)
 bif v21 then(let v22:=IntKind.i64.wrap (x10+x8)
 let v23:=IntKind.i64.wrap (v22+(1:Int))
 bif decide (0≤v23)&&decide (v23<(List.length v15:Int))then(let v24:=List.getD v15 (Int.toNat v23) (0:Int)
 bif decide ((32:Int)<0)then none
 else(let v25:=shrI .u64 v6 (32:Int)
 let v26:=IntKind.u32.wrap v25
 let v27:=bitsOp .or .u32 v24 v26
 bif decide (0≤v23)&&decide (v23<(List.length v15:Int))then(let v28:=List.set v15 (Int.toNat v23) v27
 let v29:=IntKind.i64.wrap (x10+(1:Int))
 f15 x0 x6 v28 x8 x9 v29)
 else none))
 else none)
 else(let v30:=IntKind.i64.wrap (x10+(1:Int))
 f15 x0 x6 v15 x8 x9 v30))
 else(let v31:=IntKind.i64.wrap (x10+(1:Int))
 f15 x0 x6 v15 x8 x9 v31))
 else none)
 else none)
 else(let v32:=IntKind.i64.wrap (x10+x8)
 let v33:=IntKind.i64.wrap (v32+(1:Int))
 let v34:=decide (v33≥(0:Int))
 bif v34 then(let v35:=IntKind.i64.wrap (x10+x8)
 let v36:=IntKind.i64.wrap (v35+(1:Int))
 let v37:=decide (v36<x6)
 bif v37 then(let v38:=IntKind.i64.wrap (x10+x8)
 let v39:=IntKind.i64.wrap (v38+(1:Int))
 bif decide (0≤v39)&&decide (v39<(List.length x7:Int))then(let v40:=List.getD x7 (Int.toNat v39) (0:Int)
 bif decide ((32:Int)<0)then none
 else(let v41:=shrI .u64 v6 (32:Int)
 let v42:=IntKind.u32.wrap v41
 let v43:=bitsOp .or .u32 v40 v42
 bif decide (0≤v39)&&decide (v39<(List.length x7:Int))then(let v44:=List.set x7 (Int.toNat v39) v43
 let v45:=IntKind.i64.wrap (x10+(1:Int))
 f15 x0 x6 v44 x8 x9 v45)
 else none))
 else none)
 else(let v46:=IntKind.i64.wrap (x10+(1:Int))
 f15 x0 x6 x7 x8 x9 v46))
 else(let v47:=IntKind.i64.wrap (x10+(1:Int))
 f15 x0 x6 x7 x8 x9 v47)))
 else(let v48:=IntKind.i64.wrap (x10+x8)
 let v49:=IntKind.i64.wrap (v48+(1:Int))
 let v50:=decide (v49≥(0:Int))
 bif v50 then(let v51:=IntKind.i64.wrap (x10+x8)
 let v52:=IntKind.i64.wrap (v51+(1:Int))
 let v53:=decide (v52<x6)
 bif v53 then(let v54:=IntKind.i64.wrap (x10+x8)
 let v55:=IntKind.i64.wrap (v54+(1:Int))
 bif decide (0≤v55)&&decide (v55<(List.length x7:Int))then(let v56:=List.getD x7 (Int.toNat v55) (0:Int)
 bif decide ((32:Int)<0)then none
 else(let v57:=shrI .u64 v6 (32:Int)
 let v58:=IntKind.u32.wrap v57
 let v59:=bitsOp .or .u32 v56 v58
 bif decide (0≤v55)&&decide (v55<(List.length x7:Int))then(let v60:=List.set x7 (Int.toNat v55) v59
 let v61:=IntKind.i64.wrap (x10+(1:Int))
 f15 x0 x6 v60 x8 x9 v61)
 else none))
 else none)
 else(let v62:=IntKind.i64.wrap (x10+(1:Int))
 f15 x0 x6 x7 x8 x9 v62))
 else(let v63:=IntKind.i64.wrap (x10+(1:Int))
 f15 x0 x6 x7 x8 x9 v63))))
 else none)
 else((r01_Norm.F (x7,())).bind fun y64=>
 some (y64.1,(0:Int),()))
def e (f15:Dt38→Int→Dt38→Int→Int→Int→Option (Dt38×Int×Unit))(a0:Dt38)(a1:Int):Option (Dt38×Int×Unit):=
 let v1:=decide (a1<(-1048576:Int))
 bif v1 then(some (zt38,(12:Int),()))
 else(let v2:=decide (a1>(1048576:Int))
 bif v2 then(some (zt38,(12:Int),()))
 else((r01_Norm.F (a0,())).bind fun y3=>
 let v4:=(List.length y3.1:Int)
 let v5:=(v4==(0:Int))
 bif v5 then(let v6:=zt38
 some (v6,(0:Int),()))
 else(let v7:=(List.length a0:Int)
 let v8:=decide (a1>(0:Int))
 bif v8 then(bif decide ((32:Int)=0)then none
 else(let v9:=IntKind.i64.wrap (Int.tdiv a1 (32:Int))
 let v10:=IntKind.i64.wrap (v9+(1:Int))
 let v11:=IntKind.i64.wrap (v7+v10)
 bif decide (0≤v11)&&(decide (v11≤v11)&&(decide (Int.toNat v11*4≤281474976710656)&&Nat.blt 0 4))then(let v12:=List.replicate (Int.toNat v11) (0:Int)
 bif decide ((32:Int)=0)then none
 else(let v13:=IntKind.i64.wrap (Int.tdiv a1 (32:Int))
 bif decide ((32:Int)=0)then none
 else(let v14:=Int.tmod a1 (32:Int)
 let v15:=decide (v14<(0:Int))
 bif v15 then(let v16:=IntKind.i64.wrap (v13-(1:Int))
 let v17:=IntKind.i64.wrap (v14+(32:Int))
 f15 a0 v11 v12 v16 v17 (0:Int))
 else(f15 a0 v11 v12 v13 v14 (0:Int)))))
 else none))
 else(bif decide (0≤v7)&&(decide (v7≤v7)&&(decide (Int.toNat v7*4≤281474976710656)&&Nat.blt 0 4))then(let v18:=List.replicate (Int.toNat v7) (0:Int)
 bif decide ((32:Int)=0)then none
 else(let v19:=IntKind.i64.wrap (Int.tdiv a1 (32:Int))
 bif decide ((32:Int)=0)then none
 else(let v20:=Int.tmod a1 (32:Int)
 let v21:=decide (v20<(0:Int))
 bif v21 then(let v22:=IntKind.i64.wrap (v19-(1:Int))
 let v23:=IntKind.i64.wrap (v20+(32:Int))
 f15 a0 v7 v18 v22 v23 (0:Int))
 else(f15 a0 v7 v18 v19 v20 (0:Int)))))
 else none))))
def L15 (k:Nat)(x0:Dt38)(x6:Int)(x7:Dt38)(x8:Int)(x9:Int)(x10:Int):Option (Dt38×Int×Unit):=heads (spec.env cals T Tryz.f95) (Func.pts Tryz.f95) k 15 (m15 x0 x6 x7 x8 x9 x10)
theorem L15_succ (k:Nat)(x0:Dt38)(x6:Int)(x7:Dt38)(x8:Int)(x9:Int)(x10:Int):L15 (k+1) x0 x6 x7 x8 x9 x10=b15 (L15 k) x0 x6 x7 x8 x9 x10:=by kernel_rfl
theorem eval (k:Nat)(a0:Dt38)(a1:Int):evalF spec cals T Tryz.f95 k (a0,a1,())=e (L15 k) a0 a1:=by kernel_rfl
theorem of (k:Nat)(a0:Dt38)(a1:Int){y:Dt38×Int×Unit}(h:e (L15 k) a0 a1=some y):F (a0,a1,())=some y:=limF_of k ((eval k a0 a1).trans h)
end r01_Shift
namespace r01_Sub
def spec:Spec:=⟨[(false,Kt38),(false,Kt38)],[(false,Kt38),(false,(.int .i64))],.own,fun j=>match j with|6=>[(0,.lf (.z 114 (.int .u32) false)),(1,.lf (.z 114 (.int .u32) false)),(6,.lf (.o 114 (.int .u32) true)),(7,.lf (.v true)),(8,.lf (.v true))]|_=>[]⟩
def cals:Cals:=(Cals.cons 93 r01_Cmp.sig (Cals.cons 103 r01_at.sig (Cals.cons 80 r01_Norm.sig (Cals.base tabs))))
def sig:Sig:=spec.sig cals T Tryz.f96
def F (x:Dt38×Dt38×Unit):Option (Dt38×Int×Unit):=limF spec cals T Tryz.f96 x
theorem ck:CalsOk Tryz.prog cals:=(CalsOk.cons r01_Cmp.cal (CalsOk.cons r01_at.cal (CalsOk.cons r01_Norm.cal (CalsOk.base tabsOk))))
theorem cal:CalOk Tryz.prog tabs 96 sig:=calOk_lim' tabOk ck mix Tryz.func96 (by kernel_rfl) (by kernel_rfl) (by kernel_rfl) (by kernel_rfl)
def m6 (x0:Dt38)(x1:Dt38)(x6:Dt38)(x7:Int)(x8:Int):S:=⟨[(0,.one (.lf (.val false Kt38 x0))),(1,.one (.lf (.val false Kt38 x1))),(6,.one (.lf (.own 0))),(7,.one (.lf (.val true (.int .u64) x7))),(8,.one (.lf (.val true (.int .i64) x8)))],⟨[some ⟨114,(.int .u32),true,true,x6⟩],[]⟩⟩
def b6 (f6:Dt38→Dt38→Dt38→Int→Int→Option (Dt38×Int×Unit))(x0:Dt38)(x1:Dt38)(x6:Dt38)(x7:Int)(x8:Int):Option (Dt38×Int×Unit):=
 let v1:=(List.length x0:Int)
 let v2:=decide (x8<v1)
 bif v2 then((r01_at.F (x0,x8,())).bind fun y3=>
 (r01_at.F (x1,x8,())).bind fun y4=>
 let v5:=IntKind.u64.wrap (y3.1-y4.1)
 let v6:=IntKind.u64.wrap (v5-x7)
 let v7:=IntKind.u32.wrap v6
 bif decide (0≤x8)&&decide (x8<(List.length x6:Int))then(let v8:=List.set x6 (Int.toNat x8) v7
 bif decide ((63:Int)<0)then none
 else(let v9:=shrI .u64 v6 (63:Int)
 let v10:=IntKind.i64.wrap (x8+(1:Int))
 f6 x0 x1 v8 v9 v10))
 else none)
 else((r01_Norm.F (x6,())).bind fun y11=>
 some (y11.1,(0:Int),()))
def e (f6:Dt38→Dt38→Dt38→Int→Int→Option (Dt38×Int×Unit))(a0:Dt38)(a1:Dt38):Option (Dt38×Int×Unit):=
 (r01_Cmp.F (a0,a1,())).bind fun y1=>
 let v2:=decide (y1.1<(0:Int))
 bif v2 then(some (zt38,(10:Int),()))
 else(let v3:=(List.length a0:Int)
 bif decide (0≤v3)&&(decide (v3≤v3)&&(decide (Int.toNat v3*4≤281474976710656)&&Nat.blt 0 4))then(let v4:=List.replicate (Int.toNat v3) (0:Int)
 f6 a0 a1 v4 (0:Int) (0:Int))
 else none)
def L6 (k:Nat)(x0:Dt38)(x1:Dt38)(x6:Dt38)(x7:Int)(x8:Int):Option (Dt38×Int×Unit):=heads (spec.env cals T Tryz.f96) (Func.pts Tryz.f96) k 6 (m6 x0 x1 x6 x7 x8)
theorem L6_succ (k:Nat)(x0:Dt38)(x1:Dt38)(x6:Dt38)(x7:Int)(x8:Int):L6 (k+1) x0 x1 x6 x7 x8=b6 (L6 k) x0 x1 x6 x7 x8:=by kernel_rfl
theorem eval (k:Nat)(a0:Dt38)(a1:Dt38):evalF spec cals T Tryz.f96 k (a0,a1,())=e (L6 k) a0 a1:=by kernel_rfl
theorem of (k:Nat)(a0:Dt38)(a1:Dt38){y:Dt38×Int×Unit}(h:e (L6 k) a0 a1=some y):F (a0,a1,())=some y:=limF_of k ((eval k a0 a1).trans h)
end r01_Sub
namespace r01_twice
def spec:Spec:=⟨[(false,Kt38),(false,.bool)],[(false,Kt38)],.own,fun j=>match j with|6=>[(0,.lf (.z 114 (.int .u32) false)),(5,.lf (.o 114 (.int .u32) true)),(6,.lf (.v true)),(7,.lf (.v true))]|_=>[]⟩
def cals:Cals:=(Cals.cons 80 r01_Norm.sig (Cals.base tabs))
def sig:Sig:=spec.sig cals T Tryz.f97
def F (x:Dt38×Bool×Unit):Option (Dt38×Unit):=limF spec cals T Tryz.f97 x
theorem ck:CalsOk Tryz.prog cals:=(CalsOk.cons r01_Norm.cal (CalsOk.base tabsOk))
theorem cal:CalOk Tryz.prog tabs 97 sig:=calOk_lim' tabOk ck mix Tryz.func97 (by kernel_rfl) (by kernel_rfl) (by kernel_rfl) (by kernel_rfl)
def m6 (x0:Dt38)(x5:Dt38)(x6:Int)(x7:Int):S:=⟨[(0,.one (.lf (.val false Kt38 x0))),(5,.one (.lf (.own 0))),(6,.one (.lf (.val true (.int .u32) x6))),(7,.one (.lf (.val true (.int .i64) x7)))],⟨[some ⟨114,(.int .u32),true,true,x5⟩],[]⟩⟩
def b6 (f6:Dt38→Dt38→Int→Int→Option (Dt38×Unit))(x0:Dt38)(x5:Dt38)(x6:Int)(x7:Int):Option (Dt38×Unit):=
 let v1:=(List.length x0:Int)
 let v2:=decide (x7<v1)
 bif v2 then(bif decide (0≤x7)&&decide (x7<(List.length x0:Int))then(let v3:=List.getD x0 (Int.toNat x7) (0:Int)
 bif decide ((1:Int)<0)then none
 else(let v4:=shlI .u32 v3 (1:Int)
 let v5:=bitsOp .or .u32 v4 x6
 bif decide (0≤x7)&&decide (x7<(List.length x5:Int))then(let v6:=List.set x5 (Int.toNat x7) v5
 bif decide (0≤x7)&&decide (x7<(List.length x0:Int))then(let v7:=List.getD x0 (Int.toNat x7) (0:Int)
 bif decide ((31:Int)<0)then none
 else(let v8:=shrI .u32 v7 (31:Int)
 let v9:=IntKind.i64.wrap (x7+(1:Int))
 f6 x0 v6 v8 v9))
 else none)
 else none))
 else none)
 else(let v10:=(List.length x0:Int)
 bif decide (0≤v10)&&decide (v10<(List.length x5:Int))then(let v11:=List.set x5 (Int.toNat v10) x6
 (r01_Norm.F (v11,())).bind fun y12=>
 some (y12.1,()))
 else none)
def e (f6:Dt38→Dt38→Int→Int→Option (Dt38×Unit))(a0:Dt38)(a1:Bool):Option (Dt38×Unit):=
 let v1:=(List.length a0:Int)
 let v2:=IntKind.i64.wrap (v1+(1:Int))
 bif decide (0≤v2)&&(decide (v2≤v2)&&(decide (Int.toNat v2*4≤281474976710656)&&Nat.blt 0 4))then(let v3:=List.replicate (Int.toNat v2) (0:Int)
 bif a1 then(f6 a0 v3 (1:Int) (0:Int))
 else(f6 a0 v3 (0:Int) (0:Int)))
 else none
def L6 (k:Nat)(x0:Dt38)(x5:Dt38)(x6:Int)(x7:Int):Option (Dt38×Unit):=heads (spec.env cals T Tryz.f97) (Func.pts Tryz.f97) k 6 (m6 x0 x5 x6 x7)
theorem L6_succ (k:Nat)(x0:Dt38)(x5:Dt38)(x6:Int)(x7:Int):L6 (k+1) x0 x5 x6 x7=b6 (L6 k) x0 x5 x6 x7:=by kernel_rfl
theorem eval (k:Nat)(a0:Dt38)(a1:Bool):evalF spec cals T Tryz.f97 k (a0,a1,())=e (L6 k) a0 a1:=by kernel_rfl
theorem of (k:Nat)(a0:Dt38)(a1:Bool){y:Dt38×Unit}(h:e (L6 k) a0 a1=some y):F (a0,a1,())=some y:=limF_of k ((eval k a0 a1).trans h)
end r01_twice
namespace r01_Gcd
def spec:Spec:=⟨[(false,Kt38),(false,Kt38)],[(false,Kt38)],.own,fun j=>match j with|11=>[(0,.lf (.o 114 (.int .u32) true)),(1,.lf (.o 114 (.int .u32) true)),(6,.lf (.v true))]|15=>[(0,.lf (.o 114 (.int .u32) true)),(1,.lf (.o 114 (.int .u32) true)),(6,.lf (.v true))]|16=>[(0,.lf (.o 114 (.int .u32) true)),(1,.lf (.o 114 (.int .u32) true)),(6,.lf (.v true))]|18=>[(0,.lf (.o 114 (.int .u32) true)),(1,.lf (.o 114 (.int .u32) true)),(6,.lf (.v true))]|24=>[(0,.lf (.o 114 (.int .u32) true)),(6,.lf (.v true)),(7,.lf (.v true))]|_=>[]⟩
def cals:Cals:=(Cals.cons 80 r01_Norm.sig (Cals.cons 93 r01_Cmp.sig (Cals.cons 94 r01_Bit.sig (Cals.cons 95 r01_Shift.sig (Cals.cons 96 r01_Sub.sig (Cals.cons 97 r01_twice.sig (Cals.base tabs)))))))
def sig:Sig:=spec.sig cals T Tryz.f81
def F (x:Dt38×Dt38×Unit):Option (Dt38×Unit):=limF spec cals T Tryz.f81 x
theorem ck:CalsOk Tryz.prog cals:=(CalsOk.cons r01_Norm.cal (CalsOk.cons r01_Cmp.cal (CalsOk.cons r01_Bit.cal (CalsOk.cons r01_Shift.cal (CalsOk.cons r01_Sub.cal (CalsOk.cons r01_twice.cal (CalsOk.base tabsOk)))))))
theorem cal:CalOk Tryz.prog tabs 81 sig:=calOk_lim' tabOk ck mix Tryz.func81 (by kernel_rfl) (by kernel_rfl) (by kernel_rfl) (by kernel_rfl)
def m11 (x0:Dt38)(x1:Dt38)(x6:Int):S:=⟨[(0,.one (.lf (.own 0))),(1,.one (.lf (.own 1))),(6,.one (.lf (.val true (.int .i64) x6)))],⟨[some ⟨114,(.int .u32),true,true,x0⟩,some ⟨114,(.int .u32),true,true,x1⟩],[]⟩⟩
def m15 (x0:Dt38)(x1:Dt38)(x6:Int):S:=⟨[(0,.one (.lf (.own 0))),(1,.one (.lf (.own 1))),(6,.one (.lf (.val true (.int .i64) x6)))],⟨[some ⟨114,(.int .u32),true,true,x0⟩,some ⟨114,(.int .u32),true,true,x1⟩],[]⟩⟩
def m16 (x0:Dt38)(x1:Dt38)(x6:Int):S:=⟨[(0,.one (.lf (.own 0))),(1,.one (.lf (.own 1))),(6,.one (.lf (.val true (.int .i64) x6)))],⟨[some ⟨114,(.int .u32),true,true,x0⟩,some ⟨114,(.int .u32),true,true,x1⟩],[]⟩⟩
def m18 (x0:Dt38)(x1:Dt38)(x6:Int):S:=⟨[(0,.one (.lf (.own 0))),(1,.one (.lf (.own 1))),(6,.one (.lf (.val true (.int .i64) x6)))],⟨[some ⟨114,(.int .u32),true,true,x0⟩,some ⟨114,(.int .u32),true,true,x1⟩],[]⟩⟩
def m24 (x0:Dt38)(x6:Int)(x7:Int):S:=⟨[(0,.one (.lf (.own 0))),(6,.one (.lf (.val true (.int .i64) x6))),(7,.one (.lf (.val true (.int .i64) x7)))],⟨[some ⟨114,(.int .u32),true,true,x0⟩],[]⟩⟩
def b11 (f11:Dt38→Dt38→Int→Option (Dt38×Unit))(f15:Dt38→Dt38→Int→Option (Dt38×Unit))(f16:Dt38→Dt38→Int→Option (Dt38×Unit))(f18:Dt38→Dt38→Int→Option (Dt38×Unit))(f24:Dt38→Int→Int→Option (Dt38×Unit))(x0:Dt38)(x1:Dt38)(x6:Int):Option (Dt38×Unit):=
 (r01_Bit.F (x0,(0:Int),())).bind fun y1=>
 let v2:=not y1.1
 bif v2 then((r01_Bit.F (x1,(0:Int),())).bind fun y3=>
 let v4:=not y3.1
 bif v4 then((r01_Shift.F (x0,(-1:Int),())).bind fun y5=>
 (r01_Shift.F (x1,(-1:Int),())).bind fun y6=>
 let v7:=IntKind.i64.wrap (x6+(1:Int))
 f11 y5.1 y6.1 v7)
 else(f15 x0 x1 x6))
 else(f15 x0 x1 x6)
def b15 (f11:Dt38→Dt38→Int→Option (Dt38×Unit))(f15:Dt38→Dt38→Int→Option (Dt38×Unit))(f16:Dt38→Dt38→Int→Option (Dt38×Unit))(f18:Dt38→Dt38→Int→Option (Dt38×Unit))(f24:Dt38→Int→Int→Option (Dt38×Unit))(x0:Dt38)(x1:Dt38)(x6:Int):Option (Dt38×Unit):=
 let v1:=(List.length x1:Int)
 let v2:=decide (v1>(0:Int))
 bif v2 then(f16 x0 x1 x6)
 else(f24 x0 x6 (0:Int))
def b16 (f11:Dt38→Dt38→Int→Option (Dt38×Unit))(f15:Dt38→Dt38→Int→Option (Dt38×Unit))(f16:Dt38→Dt38→Int→Option (Dt38×Unit))(f18:Dt38→Dt38→Int→Option (Dt38×Unit))(f24:Dt38→Int→Int→Option (Dt38×Unit))(x0:Dt38)(x1:Dt38)(x6:Int):Option (Dt38×Unit):=
 (r01_Bit.F (x0,(0:Int),())).bind fun y1=>
 let v2:=not y1.1
 bif v2 then((r01_Shift.F (x0,(-1:Int),())).bind fun y3=>
 f16 y3.1 x1 x6)
 else(f18 x0 x1 x6)
def b18 (f11:Dt38→Dt38→Int→Option (Dt38×Unit))(f15:Dt38→Dt38→Int→Option (Dt38×Unit))(f16:Dt38→Dt38→Int→Option (Dt38×Unit))(f18:Dt38→Dt38→Int→Option (Dt38×Unit))(f24:Dt38→Int→Int→Option (Dt38×Unit))(x0:Dt38)(x1:Dt38)(x6:Int):Option (Dt38×Unit):=
 (r01_Bit.F (x1,(0:Int),())).bind fun y1=>
 let v2:=not y1.1
 bif v2 then((r01_Shift.F (x1,(-1:Int),())).bind fun y3=>
 f18 x0 y3.1 x6)
 else((r01_Cmp.F (x0,x1,())).bind fun y4=>
 let v5:=decide (y4.1>(0:Int))
 bif v5 then((r01_Sub.F (x0,x1,())).bind fun y6=>
 f15 x1 y6.1 x6)
 else((r01_Sub.F (x1,x0,())).bind fun y7=>
 f15 x0 y7.1 x6))
def b24 (f11:Dt38→Dt38→Int→Option (Dt38×Unit))(f15:Dt38→Dt38→Int→Option (Dt38×Unit))(f16:Dt38→Dt38→Int→Option (Dt38×Unit))(f18:Dt38→Dt38→Int→Option (Dt38×Unit))(f24:Dt38→Int→Int→Option (Dt38×Unit))(x0:Dt38)(x6:Int)(x7:Int):Option (Dt38×Unit):=
 let v1:=decide (x7<x6)
 bif v1 then((r01_twice.F (x0,false,())).bind fun y2=>
 let v3:=IntKind.i64.wrap (x7+(1:Int))
 f24 y2.1 x6 v3)
 else(some (x0,()))
def e (f11:Dt38→Dt38→Int→Option (Dt38×Unit))(f15:Dt38→Dt38→Int→Option (Dt38×Unit))(f16:Dt38→Dt38→Int→Option (Dt38×Unit))(f18:Dt38→Dt38→Int→Option (Dt38×Unit))(f24:Dt38→Int→Int→Option (Dt38×Unit))(a0:Dt38)(a1:Dt38):Option (Dt38×Unit):=
 (r01_Norm.F (a0,())).bind fun y1=>
 (r01_Norm.F (a1,())).bind fun y2=>
 let v3:=(List.length y1.1:Int)
 let v4:=(v3==(0:Int))
 bif v4 then(some (y2.1,()))
 else(let v5:=(List.length y2.1:Int)
 let v6:=(v5==(0:Int))
 bif v6 then(some (y1.1,()))
 else(let v7:=([(1:Int)]:List Int)
 (r01_Cmp.F (y1.1,v7,())).bind fun y8=>
 let v9:=(y8.1==(0:Int))
 bif v9 then(some (v7,()))
 else((r01_Cmp.F (y2.1,v7,())).bind fun y10=>
 let v11:=(y10.1==(0:Int))
 bif v11 then(some (v7,()))
 else(f11 y1.1 y2.1 (0:Int)))))
def L11 (k:Nat)(x0:Dt38)(x1:Dt38)(x6:Int):Option (Dt38×Unit):=heads (spec.env cals T Tryz.f81) (Func.pts Tryz.f81) k 11 (m11 x0 x1 x6)
def L15 (k:Nat)(x0:Dt38)(x1:Dt38)(x6:Int):Option (Dt38×Unit):=heads (spec.env cals T Tryz.f81) (Func.pts Tryz.f81) k 15 (m15 x0 x1 x6)
def L16 (k:Nat)(x0:Dt38)(x1:Dt38)(x6:Int):Option (Dt38×Unit):=heads (spec.env cals T Tryz.f81) (Func.pts Tryz.f81) k 16 (m16 x0 x1 x6)
def L18 (k:Nat)(x0:Dt38)(x1:Dt38)(x6:Int):Option (Dt38×Unit):=heads (spec.env cals T Tryz.f81) (Func.pts Tryz.f81) k 18 (m18 x0 x1 x6)
def L24 (k:Nat)(x0:Dt38)(x6:Int)(x7:Int):Option (Dt38×Unit):=heads (spec.env cals T Tryz.f81) (Func.pts Tryz.f81) k 24 (m24 x0 x6 x7)
theorem L11_succ (k:Nat)(x0:Dt38)(x1:Dt38)(x6:Int):L11 (k+1) x0 x1 x6=b11 (L11 k) (L15 k) (L16 k) (L18 k) (L24 k) x0 x1 x6:=by kernel_rfl
theorem L15_succ (k:Nat)(x0:Dt38)(x1:Dt38)(x6:Int):L15 (k+1) x0 x1 x6=b15 (L11 k) (L15 k) (L16 k) (L18 k) (L24 k) x0 x1 x6:=by kernel_rfl
theorem L16_succ (k:Nat)(x0:Dt38)(x1:Dt38)(x6:Int):L16 (k+1) x0 x1 x6=b16 (L11 k) (L15 k) (L16 k) (L18 k) (L24 k) x0 x1 x6:=by kernel_rfl
theorem L18_succ (k:Nat)(x0:Dt38)(x1:Dt38)(x6:Int):L18 (k+1) x0 x1 x6=b18 (L11 k) (L15 k) (L16 k) (L18 k) (L24 k) x0 x1 x6:=by kernel_rfl
theorem L24_succ (k:Nat)(x0:Dt38)(x6:Int)(x7:Int):L24 (k+1) x0 x6 x7=b24 (L11 k) (L15 k) (L16 k) (L18 k) (L24 k) x0 x6 x7:=by kernel_rfl
theorem eval (k:Nat)(a0:Dt38)(a1:Dt38):evalF spec cals T Tryz.f81 k (a0,a1,())=e (L11 k) (L15 k) (L16 k) (L18 k) (L24 k) a0 a1:=by kernel_rfl
theorem of (k:Nat)(a0:Dt38)(a1:Dt38){y:Dt38×Unit}(h:e (L11 k) (L15 k) (L16 k) (L18 k) (L24 k) a0 a1=some y):F (a0,a1,())=some y:=limF_of k ((eval k a0 a1).trans h)
end r01_Gcd
namespace r01_Div
def spec:Spec:=⟨[(false,Kt38),(false,Kt38)],[(false,Kt38),(false,Kt38),(false,(.int .i64))],.own,fun j=>match j with|11=>[(0,.lf (.z 114 (.int .u32) true)),(1,.lf (.o 114 (.int .u32) true)),(7,.lf (.o 114 (.int .u32) true)),(9,.lf (.o 114 (.int .u32) true)),(10,.lf (.v true))]|_=>[]⟩
def cals:Cals:=(Cals.cons 80 r01_Norm.sig (Cals.cons 94 r01_Bit.sig (Cals.cons 97 r01_twice.sig (Cals.cons 93 r01_Cmp.sig (Cals.cons 96 r01_Sub.sig (Cals.base tabs))))))
def sig:Sig:=spec.sig cals T Tryz.f82
def F (x:Dt38×Dt38×Unit):Option (Dt38×Dt38×Int×Unit):=limF spec cals T Tryz.f82 x
theorem ck:CalsOk Tryz.prog cals:=(CalsOk.cons r01_Norm.cal (CalsOk.cons r01_Bit.cal (CalsOk.cons r01_twice.cal (CalsOk.cons r01_Cmp.cal (CalsOk.cons r01_Sub.cal (CalsOk.base tabsOk))))))
theorem cal:CalOk Tryz.prog tabs 82 sig:=calOk_lim' tabOk ck mix Tryz.func82 (by kernel_rfl) (by kernel_rfl) (by kernel_rfl) (by kernel_rfl)
def m11 (x0:Dt38)(x1:Dt38)(x7:Dt38)(x9:Dt38)(x10:Int):S:=⟨[(0,.one (.lf (.val true Kt38 x0))),(1,.one (.lf (.own 0))),(7,.one (.lf (.own 1))),(9,.one (.lf (.own 2))),(10,.one (.lf (.val true (.int .i64) x10)))],⟨[some ⟨114,(.int .u32),true,true,x1⟩,some ⟨114,(.int .u32),true,true,x7⟩,some ⟨114,(.int .u32),true,true,x9⟩],[]⟩⟩
def b11 (f11:Dt38→Dt38→Dt38→Dt38→Int→Option (Dt38×Dt38×Int×Unit))(x0:Dt38)(x1:Dt38)(x7:Dt38)(x9:Dt38)(x10:Int):Option (Dt38×Dt38×Int×Unit):=
 let v1:=decide (x10≥(0:Int))
 bif v1 then((r01_Bit.F (x0,x10,())).bind fun y2=>
 (r01_twice.F (x9,y2.1,())).bind fun y3=>
 (r01_Cmp.F (y3.1,x1,())).bind fun y4=>
 let v5:=decide (y4.1≥(0:Int))
 bif v5 then((r01_Sub.F (y3.1,x1,())).bind fun y6=>
 bif decide ((32:Int)=0)then none
 else(let v7:=IntKind.i64.wrap (Int.tdiv x10 (32:Int))
 bif decide (0≤v7)&&decide (v7<(List.length x7:Int))then(let v8:=List.getD x7 (Int.toNat v7) (0:Int)
 bif decide ((32:Int)=0)then none
 else(let v9:=Int.tmod x10 (32:Int)
 let v10:=IntKind.u64.wrap v9
 bif decide (v10<0)then none
 else(let v11:=shlI .u32 (1:Int) v10
 let v12:=bitsOp .or .u32 v8 v11
 bif decide (0≤v7)&&decide (v7<(List.length x7:Int))then(let v13:=List.set x7 (Int.toNat v7) v12
 let v14:=IntKind.i64.wrap (x10-(1:Int))
 f11 x0 x1 v13 y6.1 v14)
 else none)))
 else none))
 else(let v15:=IntKind.i64.wrap (x10-(1:Int))
 f11 x0 x1 x7 y3.1 v15))
 else((r01_Norm.F (x7,())).bind fun y16=>
 some (y16.1,x9,(0:Int),()))
def e (f11:Dt38→Dt38→Dt38→Dt38→Int→Option (Dt38×Dt38×Int×Unit))(a0:Dt38)(a1:Dt38):Option (Dt38×Dt38×Int×Unit):=
 (r01_Norm.F (a1,())).bind fun y1=>
 let v2:=(List.length y1.1:Int)
 let v3:=(v2==(0:Int))
 bif v3 then(some (zt38,zt38,(11:Int),()))
 else((r01_Norm.F (a0,())).bind fun y4=>
 let v5:=(List.length y4.1:Int)
 bif decide (0≤v5)&&(decide (v5≤v5)&&(decide (Int.toNat v5*4≤281474976710656)&&Nat.blt 0 4))then(let v6:=List.replicate (Int.toNat v5) (0:Int)
 let v7:=(List.length y1.1:Int)
 let v8:=IntKind.i64.wrap (v7-(1:Int))
 let v9:=(List.length y4.1:Int)
 let v10:=decide (v8>v9)
 bif v10 then(let v11:=(List.length y4.1:Int)
 let v12:=(List.length y4.1:Int)
 let v13:=IntKind.i64.wrap (v12-v11)
 bif decide (0≤v13)&&decide (v13≤(List.length y4.1:Int))then(let v14:=List.drop (Int.toNat v13) y4.1
 (r01_Norm.F (v14,())).bind fun y15=>
 let v16:=(List.length y4.1:Int)
 let v17:=IntKind.i64.wrap (v16-v11)
 let v18:=IntKind.i64.wrap ((32:Int)*v17)
 let v19:=IntKind.i64.wrap (v18-(1:Int))
 f11 y4.1 y1.1 v6 y15.1 v19)
 else none)
 else(let v20:=(List.length y4.1:Int)
 let v21:=IntKind.i64.wrap (v20-v8)
 bif decide (0≤v21)&&decide (v21≤(List.length y4.1:Int))then(let v22:=List.drop (Int.toNat v21) y4.1
 (r01_Norm.F (v22,())).bind fun y23=>
 let v24:=(List.length y4.1:Int)
 let v25:=IntKind.i64.wrap (v24-v8)
 let v26:=IntKind.i64.wrap ((32:Int)*v25)
 let v27:=IntKind.i64.wrap (v26-(1:Int))
 f11 y4.1 y1.1 v6 y23.1 v27)
 else none))
 else none)
def L11 (k:Nat)(x0:Dt38)(x1:Dt38)(x7:Dt38)(x9:Dt38)(x10:Int):Option (Dt38×Dt38×Int×Unit):=heads (spec.env cals T Tryz.f82) (Func.pts Tryz.f82) k 11 (m11 x0 x1 x7 x9 x10)
theorem L11_succ (k:Nat)(x0:Dt38)(x1:Dt38)(x7:Dt38)(x9:Dt38)(x10:Int):L11 (k+1) x0 x1 x7 x9 x10=b11 (L11 k) x0 x1 x7 x9 x10:=by kernel_rfl
theorem eval (k:Nat)(a0:Dt38)(a1:Dt38):evalF spec cals T Tryz.f82 k (a0,a1,())=e (L11 k) a0 a1:=by kernel_rfl
theorem of (k:Nat)(a0:Dt38)(a1:Dt38){y:Dt38×Dt38×Int×Unit}(h:e (L11 k) a0 a1=some y):F (a0,a1,())=some y:=limF_of k ((eval k a0 a1).trans h)
end r01_Div
namespace r03_Norm
def spec:Spec:=⟨[(true,Kt42)],[(true,Kt42)],.own,fun j=>match j with|_=>[]⟩
def cals:Cals:=(Cals.cons 79 r02_Norm.sig (Cals.cons 80 r01_Norm.sig (Cals.cons 81 r01_Gcd.sig (Cals.cons 82 r01_Div.sig (Cals.base tabs)))))
def sig:Sig:=spec.sig cals T Tryz.f57
def F (x:Dt42×Unit):Option (Dt42×Unit):=limF spec cals T Tryz.f57 x
theorem ck:CalsOk Tryz.prog cals:=(CalsOk.cons r02_Norm.cal (CalsOk.cons r01_Norm.cal (CalsOk.cons r01_Gcd.cal (CalsOk.cons r01_Div.cal (CalsOk.base tabsOk)))))
theorem cal:CalOk Tryz.prog tabs 57 sig:=calOk_lim' tabOk ck mix Tryz.func57 (by kernel_rfl) (by kernel_rfl) (by kernel_rfl) (by kernel_rfl)
def e (a0:Dt42):Option (Dt42×Unit):=
 (r02_Norm.F ((a0.1.1,a0.1.2),())).bind fun y1=>
 (r01_Norm.F (a0.2,())).bind fun y2=>
 let v3:=(List.length y2.1:Int)
 let v4:=(v3==(0:Int))
 bif v4 then(let v5:=([(1:Int)]:List Int)
 some ((zt40,v5),()))
 else(let v6:=(List.length y1.1.2:Int)
 let v7:=(v6==(0:Int))
 bif v7 then(let v8:=([(1:Int)]:List Int)
 some ((zt40,v8),()))
 else((r01_Gcd.F (y1.1.2,y2.1,())).bind fun y9=>
 (r01_Div.F (y1.1.2,y9.1,())).bind fun y10=>
 (r01_Div.F (y2.1,y9.1,())).bind fun y11=>
 some (((y1.1.1,y10.1),y11.1),())))
theorem eval (k:Nat)(a0:Dt42):evalF spec cals T Tryz.f57 k (a0,())=e a0:=by kernel_rfl
theorem of (k:Nat)(a0:Dt42){y:Dt42×Unit}(h:e a0=some y):F (a0,())=some y:=limF_of k ((eval k a0).trans h)
end r03_Norm
namespace r05_Norm
def spec:Spec:=⟨[(true,Kt44)],[(true,Kt44)],.own,fun j=>match j with|_=>[]⟩
def cals:Cals:=(Cals.cons 57 r03_Norm.sig (Cals.base tabs))
def sig:Sig:=spec.sig cals T Tryz.f65
def F (x:Dt44×Unit):Option (Dt44×Unit):=limF spec cals T Tryz.f65 x
theorem ck:CalsOk Tryz.prog cals:=(CalsOk.cons r03_Norm.cal (CalsOk.base tabsOk))
theorem cal:CalOk Tryz.prog tabs 65 sig:=calOk_lim' tabOk ck mix Tryz.func65 (by kernel_rfl) (by kernel_rfl) (by kernel_rfl) (by kernel_rfl)
def e (a0:Dt44):Option (Dt44×Unit):=
 (r03_Norm.F (((a0.1.1.1,a0.1.1.2),a0.1.2),())).bind fun y1=>
 (r03_Norm.F (((a0.2.1.1,a0.2.1.2),a0.2.2),())).bind fun y2=>
 some ((((y1.1.1.1,y1.1.1.2),y1.1.2),((y2.1.1.1,y2.1.1.2),y2.1.2)),())
theorem eval (k:Nat)(a0:Dt44):evalF spec cals T Tryz.f65 k (a0,())=e a0:=by kernel_rfl
theorem of (k:Nat)(a0:Dt44){y:Dt44×Unit}(h:e a0=some y):F (a0,())=some y:=limF_of k ((eval k a0).trans h)
end r05_Norm
namespace r08_Bound
def spec:Spec:=⟨[(true,Kt66)],[(true,Kt66)],.own,fun j=>match j with|_=>[]⟩
def cals:Cals:=(Cals.cons 65 r05_Norm.sig (Cals.base tabs))
def sig:Sig:=spec.sig cals T Tryz.f87
def F (x:Dt66×Unit):Option (Dt66×Unit):=limF spec cals T Tryz.f87 x
theorem ck:CalsOk Tryz.prog cals:=(CalsOk.cons r05_Norm.cal (CalsOk.base tabsOk))
theorem cal:CalOk Tryz.prog tabs 87 sig:=calOk_lim' tabOk ck mix Tryz.func87 (by kernel_rfl) (by kernel_rfl) (by kernel_rfl) (by kernel_rfl)
def e (a0:Dt66):Option (Dt66×Unit):=
 let v1:=not a0.1
 bif v1 then(some (zt66,()))
 else((r05_Norm.F ((((a0.2.1.1.1.1,a0.2.1.1.1.2),a0.2.1.1.2),((a0.2.1.2.1.1,a0.2.1.2.1.2),a0.2.1.2.2)),())).bind fun y2=>
 some ((true,((((y2.1.1.1.1,y2.1.1.1.2),y2.1.1.2),((y2.1.2.1.1,y2.1.2.1.2),y2.1.2.2)),a0.2.2)),()))
theorem eval (k:Nat)(a0:Dt66):evalF spec cals T Tryz.f87 k (a0,())=e a0:=by kernel_rfl
theorem of (k:Nat)(a0:Dt66){y:Dt66×Unit}(h:e a0=some y):F (a0,())=some y:=limF_of k ((eval k a0).trans h)
end r08_Bound
namespace r08_Copy
def spec:Spec:=⟨[(true,Kt32)],[(true,Kt32)],.own,fun j=>match j with|3=>[(1,.box 32 [.z 68 Kt68 false,.v false,.z 70 Kt70 false]),(2,.box 32 [.v true,.v true,.v true]),(3,.box 32 [.o 68 Kt68 true,.v false,.v true]),(4,.lf (.v true))]|7=>[(1,.box 32 [.z 68 Kt68 false,.v false,.z 70 Kt70 false]),(2,.box 32 [.v true,.v true,.v true]),(3,.box 32 [.o 68 Kt68 true,.v false,.o 70 Kt70 true]),(5,.lf (.v true))]|_=>[]⟩
def cals:Cals:=(Cals.cons 87 r08_Bound.sig (Cals.base tabs))
def sig:Sig:=spec.sig cals T Tryz.f60
def F (x:Dt32×Unit):Option (Dt32×Unit):=limF spec cals T Tryz.f60 x
theorem ck:CalsOk Tryz.prog cals:=(CalsOk.cons r08_Bound.cal (CalsOk.base tabsOk))
theorem cal:CalOk Tryz.prog tabs 60 sig:=calOk_lim' tabOk ck mix Tryz.func60 (by kernel_rfl) (by kernel_rfl) (by kernel_rfl) (by kernel_rfl)
def m3 (x1_0:Dt29)(x1_1:Int)(x1_2:Dt30)(x2_1:Int)(x3_0:Dt29)(x3_1:Int)(x4:Int):S:=⟨[(1,.box 0 0),(2,.box 1 0),(3,.box 2 0),(4,.one (.lf (.val true (.int .i64) x4)))],⟨[some ⟨68,Kt68,true,true,x3_0⟩],[some ⟨32,[.val false Kt29 x1_0,.val false (.int .i64) x1_1,.val false Kt30 x1_2]⟩,some ⟨32,[.nil,.val true (.int .i64) x2_1,.nil]⟩,some ⟨32,[.own 0,.val false (.int .i64) x3_1,.nil]⟩]⟩⟩
def m7 (x1_0:Dt29)(x1_1:Int)(x1_2:Dt30)(x2_1:Int)(x3_0:Dt29)(x3_1:Int)(x3_2:Dt30)(x5:Int):S:=⟨[(1,.box 0 0),(2,.box 1 0),(3,.box 2 0),(5,.one (.lf (.val true (.int .i64) x5)))],⟨[some ⟨68,Kt68,true,true,x3_0⟩,some ⟨70,Kt70,true,true,x3_2⟩],[some ⟨32,[.val false Kt29 x1_0,.val false (.int .i64) x1_1,.val false Kt30 x1_2]⟩,some ⟨32,[.nil,.val true (.int .i64) x2_1,.nil]⟩,some ⟨32,[.own 0,.val false (.int .i64) x3_1,.own 1]⟩]⟩⟩
def b3 (f3:Dt29→Int→Dt30→Int→Dt29→Int→Int→Option (Dt32×Unit))(f7:Dt29→Int→Dt30→Int→Dt29→Int→Dt30→Int→Option (Dt32×Unit))(x1_0:Dt29)(x1_1:Int)(x1_2:Dt30)(x2_1:Int)(x3_0:Dt29)(x3_1:Int)(x4:Int):Option (Dt32×Unit):=
 let v1:=(List.length x1_0:Int)
 let v2:=decide (x4<v1)
 bif v2 then(bif decide (0≤x4)&&decide (x4<(List.length x1_0:Int))then(let v3:=((List.getD x1_0 (Int.toNat x4) zt68).1).1
 let v4:=((((((List.getD x1_0 (Int.toNat x4) zt68).1).2).1).1).1).1
 let v5:=((((((List.getD x1_0 (Int.toNat x4) zt68).1).2).1).1).1).2
 let v6:=(((((List.getD x1_0 (Int.toNat x4) zt68).1).2).1).1).2
 let v7:=((((((List.getD x1_0 (Int.toNat x4) zt68).1).2).1).2).1).1
 let v8:=((((((List.getD x1_0 (Int.toNat x4) zt68).1).2).1).2).1).2
 let v9:=(((((List.getD x1_0 (Int.toNat x4) zt68).1).2).1).2).2
 let v10:=(((List.getD x1_0 (Int.toNat x4) zt68).1).2).2
 (r08_Bound.F ((v3,((((v4,v5),v6),((v7,v8),v9)),v10)),())).bind fun y11=>
 bif decide (0≤x4)&&decide (x4<(List.length x1_0:Int))then(let v12:=((List.getD x1_0 (Int.toNat x4) zt68).2).1
 let v13:=((((((List.getD x1_0 (Int.toNat x4) zt68).2).2).1).1).1).1
 let v14:=((((((List.getD x1_0 (Int.toNat x4) zt68).2).2).1).1).1).2
 let v15:=(((((List.getD x1_0 (Int.toNat x4) zt68).2).2).1).1).2
 let v16:=((((((List.getD x1_0 (Int.toNat x4) zt68).2).2).1).2).1).1
 let v17:=((((((List.getD x1_0 (Int.toNat x4) zt68).2).2).1).2).1).2
 let v18:=(((((List.getD x1_0 (Int.toNat x4) zt68).2).2).1).2).2
 let v19:=(((List.getD x1_0 (Int.toNat x4) zt68).2).2).2
 (r08_Bound.F ((v12,((((v13,v14),v15),((v16,v17),v18)),v19)),())).bind fun y20=>
 let v21:=([((y11.1.1,((((y11.1.2.1.1.1.1,y11.1.2.1.1.1.2),y11.1.2.1.1.2),((y11.1.2.1.2.1.1,y11.1.2.1.2.1.2),y11.1.2.1.2.2)),y11.1.2.2)),(y20.1.1,((((y20.1.2.1.1.1.1,y20.1.2.1.1.1.2),y20.1.2.1.1.2),((y20.1.2.1.2.1.1,y20.1.2.1.2.1.2),y20.1.2.1.2.2)),y20.1.2.2)))]:List Dt68)
 bif decide (List.length x3_0+List.length v21<549755813888)then(let v22:=List.append x3_0 v21
 let v23:=IntKind.i64.wrap (x4+(1:Int))
 f3 x1_0 x1_1 x1_2 x2_1 v22 x3_1 v23)
 else none)
 else none)
 else none)
 else(f7 x1_0 x1_1 x1_2 x2_1 x3_0 x3_1 zt30 (0:Int))
def b7 (f3:Dt29→Int→Dt30→Int→Dt29→Int→Int→Option (Dt32×Unit))(f7:Dt29→Int→Dt30→Int→Dt29→Int→Dt30→Int→Option (Dt32×Unit))(x1_0:Dt29)(x1_1:Int)(x1_2:Dt30)(x2_1:Int)(x3_0:Dt29)(x3_1:Int)(x3_2:Dt30)(x5:Int):Option (Dt32×Unit):=
 let v1:=(List.length x1_2:Int)
 let v2:=decide (x5<v1)
 bif v2 then(bif decide (0≤x5)&&decide (x5<(List.length x1_2:Int))then(let v3:=(List.getD x1_2 (Int.toNat x5) zt70).1
 let v4:=((List.getD x1_2 (Int.toNat x5) zt70).2).1
 let v5:=(((List.getD x1_2 (Int.toNat x5) zt70).2).2).1
 let v6:=((((List.getD x1_2 (Int.toNat x5) zt70).2).2).2).1
 let v7:=((((((((List.getD x1_2 (Int.toNat x5) zt70).2).2).2).2).1).1).1).1
 let v8:=((((((((List.getD x1_2 (Int.toNat x5) zt70).2).2).2).2).1).1).1).2
 let v9:=(((((((List.getD x1_2 (Int.toNat x5) zt70).2).2).2).2).1).1).2
 let v10:=((((((((List.getD x1_2 (Int.toNat x5) zt70).2).2).2).2).1).2).1).1
 let v11:=((((((((List.getD x1_2 (Int.toNat x5) zt70).2).2).2).2).1).2).1).2
 let v12:=(((((((List.getD x1_2 (Int.toNat x5) zt70).2).2).2).2).1).2).2
 let v13:=(((((List.getD x1_2 (Int.toNat x5) zt70).2).2).2).2).2
 (r08_Bound.F ((v6,((((v7,v8),v9),((v10,v11),v12)),v13)),())).bind fun y14=>
 let v15:=([(v3,(v4,(v5,(y14.1.1,((((y14.1.2.1.1.1.1,y14.1.2.1.1.1.2),y14.1.2.1.1.2),((y14.1.2.1.2.1.1,y14.1.2.1.2.1.2),y14.1.2.1.2.2)),y14.1.2.2)))))]:List Dt70)
 bif decide (List.length x3_2+List.length v15<925904528653)then(let v16:=List.append x3_2 v15
 let v17:=IntKind.i64.wrap (x5+(1:Int))
 f7 x1_0 x1_1 x1_2 x2_1 x3_0 x3_1 v16 v17)
 else none)
 else none)
 else(some ((x3_0,(x3_1,x3_2)),()))
def e (f3:Dt29→Int→Dt30→Int→Dt29→Int→Int→Option (Dt32×Unit))(f7:Dt29→Int→Dt30→Int→Dt29→Int→Dt30→Int→Option (Dt32×Unit))(a0:Dt32):Option (Dt32×Unit):=
 f3 a0.1 a0.2.1 a0.2.2 (0:Int) zt29 a0.2.1 (0:Int)
def L3 (k:Nat)(x1_0:Dt29)(x1_1:Int)(x1_2:Dt30)(x2_1:Int)(x3_0:Dt29)(x3_1:Int)(x4:Int):Option (Dt32×Unit):=heads (spec.env cals T Tryz.f60) (Func.pts Tryz.f60) k 3 (m3 x1_0 x1_1 x1_2 x2_1 x3_0 x3_1 x4)
def L7 (k:Nat)(x1_0:Dt29)(x1_1:Int)(x1_2:Dt30)(x2_1:Int)(x3_0:Dt29)(x3_1:Int)(x3_2:Dt30)(x5:Int):Option (Dt32×Unit):=heads (spec.env cals T Tryz.f60) (Func.pts Tryz.f60) k 7 (m7 x1_0 x1_1 x1_2 x2_1 x3_0 x3_1 x3_2 x5)
theorem L3_succ (k:Nat)(x1_0:Dt29)(x1_1:Int)(x1_2:Dt30)(x2_1:Int)(x3_0:Dt29)(x3_1:Int)(x4:Int):L3 (k+1) x1_0 x1_1 x1_2 x2_1 x3_0 x3_1 x4=b3 (L3 k) (L7 k) x1_0 x1_1 x1_2 x2_1 x3_0 x3_1 x4:=by kernel_rfl
theorem L7_succ (k:Nat)(x1_0:Dt29)(x1_1:Int)(x1_2:Dt30)(x2_1:Int)(x3_0:Dt29)(x3_1:Int)(x3_2:Dt30)(x5:Int):L7 (k+1) x1_0 x1_1 x1_2 x2_1 x3_0 x3_1 x3_2 x5=b7 (L3 k) (L7 k) x1_0 x1_1 x1_2 x2_1 x3_0 x3_1 x3_2 x5:=by kernel_rfl
theorem eval (k:Nat)(a0:Dt32):evalF spec cals T Tryz.f60 k (a0,())=e (L3 k) (L7 k) a0:=by kernel_rfl
theorem of (k:Nat)(a0:Dt32){y:Dt32×Unit}(h:e (L3 k) (L7 k) a0=some y):F (a0,())=some y:=limF_of k ((eval k a0).trans h)
end r08_Copy
end
end Go.Fx.Tryz
