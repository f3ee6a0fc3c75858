import Derived.Test.YtjojmgadmdgdgaaGreatEv32
import Derived.Test.YtjojmgadmdgdgaaGreatProg
namespace Go.Fx.Tryz
open Go Go.Proofs Go.Fx
set_option linter.unusedVariables false
set_option maxRecDepth 100000
def ti86:TI:=⟨.int .u32,(.int .u32),false,4⟩
def T86:Tab:=Tab.cons 86 ti86 Tab.nil
theorem tab86:TabOk Tryz.prog T86:=TabOk.cons (by kernel_rfl) {info:=⟨Tryz.t86,by kernel_rfl,by kernel_rfl,by kernel_rfl,(.int .u32 0),by kernel_rfl,by kernel_rfl⟩,agg:=⟨_,Tryz.underlying86,rfl⟩,desc:=⟨Tryz.underlying86,rfl⟩} TabOk.nil
def ti43:TI:=⟨.sl 86,(.sl 86 (.int .u32)),false,24⟩
def T43:Tab:=Tab.cons 43 ti43 T86
theorem tab43:TabOk Tryz.prog T43:=TabOk.cons (by kernel_rfl) {info:=⟨Tryz.t43,by kernel_rfl,by kernel_rfl,by kernel_rfl,(.slice none 0 0),by kernel_rfl,by kernel_rfl⟩,agg:=⟨_,Tryz.underlying43,rfl⟩,desc:=⟨Tryz.underlying43,ti86,by kernel_rfl,rfl,by decide⟩} tab86
def ti3:TI:=⟨.int .i64,(.int .i64),false,8⟩
def T3:Tab:=Tab.cons 3 ti3 T43
theorem tab3:TabOk Tryz.prog T3:=TabOk.cons (by kernel_rfl) {info:=⟨Tryz.t3,by kernel_rfl,by kernel_rfl,by kernel_rfl,(.int .i64 0),by kernel_rfl,by kernel_rfl⟩,agg:=⟨_,Tryz.underlying3,rfl⟩,desc:=⟨Tryz.underlying3,rfl⟩} tab43
def ti5:TI:=⟨.int .u8,(.int .u8),false,1⟩
def T5:Tab:=Tab.cons 5 ti5 T3
theorem tab5:TabOk Tryz.prog T5:=TabOk.cons (by kernel_rfl) {info:=⟨Tryz.t5,by kernel_rfl,by kernel_rfl,by kernel_rfl,(.int .u8 0),by kernel_rfl,by kernel_rfl⟩,agg:=⟨_,Tryz.underlying5,rfl⟩,desc:=⟨Tryz.underlying5,rfl⟩} tab3
def ti9:TI:=⟨.str,.str,false,16⟩
def T9:Tab:=Tab.cons 9 ti9 T5
theorem tab9:TabOk Tryz.prog T9:=TabOk.cons (by kernel_rfl) {info:=⟨Tryz.t9,by kernel_rfl,by kernel_rfl,by kernel_rfl,(.string ByteArray.empty),by kernel_rfl,by kernel_rfl⟩,agg:=⟨_,Tryz.underlying9,rfl⟩,desc:=⟨Tryz.underlying9,rfl⟩} tab5
def ti135:TI:=⟨.int .u64,(.int .u64),false,8⟩
def T135:Tab:=Tab.cons 135 ti135 T9
theorem tab135:TabOk Tryz.prog T135:=TabOk.cons (by kernel_rfl) {info:=⟨Tryz.t135,by kernel_rfl,by kernel_rfl,by kernel_rfl,(.int .u64 0),by kernel_rfl,by kernel_rfl⟩,agg:=⟨_,Tryz.underlying135,rfl⟩,desc:=⟨Tryz.underlying135,rfl⟩} tab9
def ti27:TI:=⟨.int .i64,(.int .i64),false,8⟩
def T27:Tab:=Tab.cons 27 ti27 T135
theorem tab27:TabOk Tryz.prog T27:=TabOk.cons (by kernel_rfl) {info:=⟨Tryz.t27,by kernel_rfl,by kernel_rfl,by kernel_rfl,(.int .i64 0),by kernel_rfl,by kernel_rfl⟩,agg:=⟨_,Tryz.underlying27,rfl⟩,desc:=⟨Tryz.underlying27,rfl⟩} tab135
def ti4:TI:=⟨.bool,.bool,false,1⟩
def T4:Tab:=Tab.cons 4 ti4 T27
theorem tab4:TabOk Tryz.prog T4:=TabOk.cons (by kernel_rfl) {info:=⟨Tryz.t4,by kernel_rfl,by kernel_rfl,by kernel_rfl,(.bool false),by kernel_rfl,by kernel_rfl⟩,agg:=⟨_,Tryz.underlying4,rfl⟩,desc:=⟨Tryz.underlying4,rfl⟩} tab27
def ti45:TI:=⟨.struct [(0,4),(1,43)],(.prod .bool (.sl 86 (.int .u32))),true,32⟩
def T45:Tab:=Tab.cons 45 ti45 T4
theorem tab45:TabOk Tryz.prog T45:=TabOk.cons (by kernel_rfl) {info:=⟨Tryz.t45,by kernel_rfl,by kernel_rfl,by kernel_rfl,(.agg #[.bool false,.slice none 0 0]),by kernel_rfl,by kernel_rfl⟩,agg:=⟨_,Tryz.underlying45,rfl⟩,desc:=⟨_,Tryz.underlying45,rfl,fun i o ft h=>match i,h with|0,h=>by simp at h;obtain⟨rfl,rfl⟩:=h;exact⟨_,rfl,rfl,rfl,ti4,by kernel_rfl,by decide⟩|1,h=>by simp at h;obtain⟨rfl,rfl⟩:=h;exact⟨_,rfl,rfl,rfl,ti43,by kernel_rfl,by decide⟩|n+2,h=>by simp at h⟩} tab4
def ti37:TI:=⟨.sl 3,(.sl 3 (.int .i64)),false,24⟩
def T37:Tab:=Tab.cons 37 ti37 T45
theorem tab37:TabOk Tryz.prog T37:=TabOk.cons (by kernel_rfl) {info:=⟨Tryz.t37,by kernel_rfl,by kernel_rfl,by kernel_rfl,(.slice none 0 0),by kernel_rfl,by kernel_rfl⟩,agg:=⟨_,Tryz.underlying37,rfl⟩,desc:=⟨Tryz.underlying37,ti3,by kernel_rfl,rfl,by decide⟩} tab45
def ti47:TI:=⟨.struct [(0,45),(2,43)],(.prod (.prod .bool (.sl 86 (.int .u32))) (.sl 86 (.int .u32))),true,56⟩
def T47:Tab:=Tab.cons 47 ti47 T37
theorem tab47:TabOk Tryz.prog T47:=TabOk.cons (by kernel_rfl) {info:=⟨Tryz.t47,by kernel_rfl,by kernel_rfl,by kernel_rfl,(.agg #[.bool false,.slice none 0 0,.slice none 0 0]),by kernel_rfl,by kernel_rfl⟩,agg:=⟨_,Tryz.underlying47,rfl⟩,desc:=⟨_,Tryz.underlying47,rfl,fun i o ft h=>match i,h with|0,h=>by simp at h;obtain⟨rfl,rfl⟩:=h;exact⟨_,rfl,rfl,rfl,ti45,by kernel_rfl,by decide⟩|1,h=>by simp at h;obtain⟨rfl,rfl⟩:=h;exact⟨_,rfl,rfl,rfl,ti43,by kernel_rfl,by decide⟩|n+2,h=>by simp at h⟩} tab37
def ti73:TI:=⟨.struct [(0,3),(1,47)],(.prod (.int .i64) (.prod (.prod .bool (.sl 86 (.int .u32))) (.sl 86 (.int .u32)))),true,64⟩
def T73:Tab:=Tab.cons 73 ti73 T47
theorem tab73:TabOk Tryz.prog T73:=TabOk.cons (by kernel_rfl) {info:=⟨Tryz.t73,by kernel_rfl,by kernel_rfl,by kernel_rfl,(.agg #[.int .i64 0,.bool false,.slice none 0 0,.slice none 0 0]),by kernel_rfl,by kernel_rfl⟩,agg:=⟨_,Tryz.underlying73,rfl⟩,desc:=⟨_,Tryz.underlying73,rfl,fun i o ft h=>match i,h with|0,h=>by simp at h;obtain⟨rfl,rfl⟩:=h;exact⟨_,rfl,rfl,rfl,ti3,by kernel_rfl,by decide⟩|1,h=>by simp at h;obtain⟨rfl,rfl⟩:=h;exact⟨_,rfl,rfl,rfl,ti47,by kernel_rfl,by decide⟩|n+2,h=>by simp at h⟩} tab47
def ti40:TI:=⟨.sl 73,(.sl 73 (.prod (.int .i64) (.prod (.prod .bool (.sl 86 (.int .u32))) (.sl 86 (.int .u32))))),false,24⟩
def T40:Tab:=Tab.cons 40 ti40 T73
theorem tab40:TabOk Tryz.prog T40:=TabOk.cons (by kernel_rfl) {info:=⟨Tryz.t40,by kernel_rfl,by kernel_rfl,by kernel_rfl,(.slice none 0 0),by kernel_rfl,by kernel_rfl⟩,agg:=⟨_,Tryz.underlying40,rfl⟩,desc:=⟨Tryz.underlying40,ti73,by kernel_rfl,rfl,by decide⟩} tab73
def ti41:TI:=⟨.sl 73,(.sl 73 (.prod (.int .i64) (.prod (.prod .bool (.sl 86 (.int .u32))) (.sl 86 (.int .u32))))),false,24⟩
def T41:Tab:=Tab.cons 41 ti41 T40
theorem tab41:TabOk Tryz.prog T41:=TabOk.cons (by kernel_rfl) {info:=⟨Tryz.t41,by kernel_rfl,by kernel_rfl,by kernel_rfl,(.slice none 0 0),by kernel_rfl,by kernel_rfl⟩,agg:=⟨_,Tryz.underlying41,rfl⟩,desc:=⟨Tryz.underlying41,ti73,by kernel_rfl,rfl,by decide⟩} tab40
def ti176:TI:=⟨.sl 5,(.sl 5 (.int .u8)),false,24⟩
def T176:Tab:=Tab.cons 176 ti176 T41
theorem tab176:TabOk Tryz.prog T176:=TabOk.cons (by kernel_rfl) {info:=⟨Tryz.t176,by kernel_rfl,by kernel_rfl,by kernel_rfl,(.slice none 0 0),by kernel_rfl,by kernel_rfl⟩,agg:=⟨_,Tryz.underlying176,rfl⟩,desc:=⟨Tryz.underlying176,ti5,by kernel_rfl,rfl,by decide⟩} tab41
def ti2:TI:=⟨.int .i64,(.int .i64),false,8⟩
def T2:Tab:=Tab.cons 2 ti2 T176
theorem tab2:TabOk Tryz.prog T2:=TabOk.cons (by kernel_rfl) {info:=⟨Tryz.t2,by kernel_rfl,by kernel_rfl,by kernel_rfl,(.int .i64 0),by kernel_rfl,by kernel_rfl⟩,agg:=⟨_,Tryz.underlying2,rfl⟩,desc:=⟨Tryz.underlying2,rfl⟩} tab176
def ti69:TI:=⟨.struct [(0,9),(1,41),(2,47),(5,4)],(.prod .str (.prod (.sl 73 (.prod (.int .i64) (.prod (.prod .bool (.sl 86 (.int .u32))) (.sl 86 (.int .u32))))) (.prod (.prod (.prod .bool (.sl 86 (.int .u32))) (.sl 86 (.int .u32))) .bool))),true,104⟩
def T69:Tab:=Tab.cons 69 ti69 T2
theorem tab69:TabOk Tryz.prog T69:=TabOk.cons (by kernel_rfl) {info:=⟨Tryz.t69,by kernel_rfl,by kernel_rfl,by kernel_rfl,(.agg #[.string ByteArray.empty,.slice none 0 0,.bool false,.slice none 0 0,.slice none 0 0,.bool false]),by kernel_rfl,by kernel_rfl⟩,agg:=⟨_,Tryz.underlying69,rfl⟩,desc:=⟨_,Tryz.underlying69,rfl,fun i o ft h=>match i,h with|0,h=>by simp at h;obtain⟨rfl,rfl⟩:=h;exact⟨_,rfl,rfl,rfl,ti9,by kernel_rfl,by decide⟩|1,h=>by simp at h;obtain⟨rfl,rfl⟩:=h;exact⟨_,rfl,rfl,rfl,ti41,by kernel_rfl,by decide⟩|2,h=>by simp at h;obtain⟨rfl,rfl⟩:=h;exact⟨_,rfl,rfl,rfl,ti47,by kernel_rfl,by decide⟩|3,h=>by simp at h;obtain⟨rfl,rfl⟩:=h;exact⟨_,rfl,rfl,rfl,ti4,by kernel_rfl,by decide⟩|n+4,h=>by simp at h⟩} tab2
def ti22:TI:=⟨.sl 69,(.sl 69 (.prod .str (.prod (.sl 73 (.prod (.int .i64) (.prod (.prod .bool (.sl 86 (.int .u32))) (.sl 86 (.int .u32))))) (.prod (.prod (.prod .bool (.sl 86 (.int .u32))) (.sl 86 (.int .u32))) .bool)))),false,24⟩
def T22:Tab:=Tab.cons 22 ti22 T69
theorem tab22:TabOk Tryz.prog T22:=TabOk.cons (by kernel_rfl) {info:=⟨Tryz.t22,by kernel_rfl,by kernel_rfl,by kernel_rfl,(.slice none 0 0),by kernel_rfl,by kernel_rfl⟩,agg:=⟨_,Tryz.underlying22,rfl⟩,desc:=⟨Tryz.underlying22,ti69,by kernel_rfl,rfl,by decide⟩} tab69
def ti92:TI:=⟨.map,.mp,false,8⟩
def T92:Tab:=Tab.cons 92 ti92 T22
theorem tab92:TabOk Tryz.prog T92:=TabOk.cons (by kernel_rfl) {info:=⟨Tryz.t92,by kernel_rfl,by kernel_rfl,by kernel_rfl,(.map none),by kernel_rfl,by kernel_rfl⟩,agg:=⟨_,Tryz.underlying92,rfl⟩,desc:=⟨rfl,_,_,Tryz.underlying92,Tryz.underlying9,Tryz.t3,by kernel_rfl,by kernel_rfl⟩} tab22
def ti23:TI:=⟨.sl 47,(.sl 47 (.prod (.prod .bool (.sl 86 (.int .u32))) (.sl 86 (.int .u32)))),false,24⟩
def T23:Tab:=Tab.cons 23 ti23 T92
theorem tab23:TabOk Tryz.prog T23:=TabOk.cons (by kernel_rfl) {info:=⟨Tryz.t23,by kernel_rfl,by kernel_rfl,by kernel_rfl,(.slice none 0 0),by kernel_rfl,by kernel_rfl⟩,agg:=⟨_,Tryz.underlying23,rfl⟩,desc:=⟨Tryz.underlying23,ti47,by kernel_rfl,rfl,by decide⟩} tab92
def ti101:TI:=⟨.struct [(0,3),(1,4),(2,47)],(.prod (.int .i64) (.prod .bool (.prod (.prod .bool (.sl 86 (.int .u32))) (.sl 86 (.int .u32))))),true,72⟩
def T101:Tab:=Tab.cons 101 ti101 T23
theorem tab101:TabOk Tryz.prog T101:=TabOk.cons (by kernel_rfl) {info:=⟨Tryz.t101,by kernel_rfl,by kernel_rfl,by kernel_rfl,(.agg #[.int .i64 0,.bool false,.bool false,.slice none 0 0,.slice none 0 0]),by kernel_rfl,by kernel_rfl⟩,agg:=⟨_,Tryz.underlying101,rfl⟩,desc:=⟨_,Tryz.underlying101,rfl,fun i o ft h=>match i,h with|0,h=>by simp at h;obtain⟨rfl,rfl⟩:=h;exact⟨_,rfl,rfl,rfl,ti3,by kernel_rfl,by decide⟩|1,h=>by simp at h;obtain⟨rfl,rfl⟩:=h;exact⟨_,rfl,rfl,rfl,ti4,by kernel_rfl,by decide⟩|2,h=>by simp at h;obtain⟨rfl,rfl⟩:=h;exact⟨_,rfl,rfl,rfl,ti47,by kernel_rfl,by decide⟩|n+3,h=>by simp at h⟩} tab23
def ti103:TI:=⟨.struct [(0,9),(1,101)],(.prod .str (.prod (.int .i64) (.prod .bool (.prod (.prod .bool (.sl 86 (.int .u32))) (.sl 86 (.int .u32)))))),true,88⟩
def T103:Tab:=Tab.cons 103 ti103 T101
theorem tab103:TabOk Tryz.prog T103:=TabOk.cons (by kernel_rfl) {info:=⟨Tryz.t103,by kernel_rfl,by kernel_rfl,by kernel_rfl,(.agg #[.string ByteArray.empty,.int .i64 0,.bool false,.bool false,.slice none 0 0,.slice none 0 0]),by kernel_rfl,by kernel_rfl⟩,agg:=⟨_,Tryz.underlying103,rfl⟩,desc:=⟨_,Tryz.underlying103,rfl,fun i o ft h=>match i,h with|0,h=>by simp at h;obtain⟨rfl,rfl⟩:=h;exact⟨_,rfl,rfl,rfl,ti9,by kernel_rfl,by decide⟩|1,h=>by simp at h;obtain⟨rfl,rfl⟩:=h;exact⟨_,rfl,rfl,rfl,ti101,by kernel_rfl,by decide⟩|n+2,h=>by simp at h⟩} tab101
def ti24:TI:=⟨.sl 103,(.sl 103 (.prod .str (.prod (.int .i64) (.prod .bool (.prod (.prod .bool (.sl 86 (.int .u32))) (.sl 86 (.int .u32))))))),false,24⟩
def T24:Tab:=Tab.cons 24 ti24 T103
theorem tab24:TabOk Tryz.prog T24:=TabOk.cons (by kernel_rfl) {info:=⟨Tryz.t24,by kernel_rfl,by kernel_rfl,by kernel_rfl,(.slice none 0 0),by kernel_rfl,by kernel_rfl⟩,agg:=⟨_,Tryz.underlying24,rfl⟩,desc:=⟨Tryz.underlying24,ti103,by kernel_rfl,rfl,by decide⟩} tab103
def ti144:TI:=⟨.int .u64,(.int .u64),false,8⟩
def T144:Tab:=Tab.cons 144 ti144 T24
theorem tab144:TabOk Tryz.prog T144:=TabOk.cons (by kernel_rfl) {info:=⟨Tryz.t144,by kernel_rfl,by kernel_rfl,by kernel_rfl,(.int .u64 0),by kernel_rfl,by kernel_rfl⟩,agg:=⟨_,Tryz.underlying144,rfl⟩,desc:=⟨Tryz.underlying144,rfl⟩} tab24
def ti49:TI:=⟨.struct [(0,41),(1,47)],(.prod (.sl 73 (.prod (.int .i64) (.prod (.prod .bool (.sl 86 (.int .u32))) (.sl 86 (.int .u32))))) (.prod (.prod .bool (.sl 86 (.int .u32))) (.sl 86 (.int .u32)))),true,80⟩
def T49:Tab:=Tab.cons 49 ti49 T144
theorem tab49:TabOk Tryz.prog T49:=TabOk.cons (by kernel_rfl) {info:=⟨Tryz.t49,by kernel_rfl,by kernel_rfl,by kernel_rfl,(.agg #[.slice none 0 0,.bool false,.slice none 0 0,.slice none 0 0]),by kernel_rfl,by kernel_rfl⟩,agg:=⟨_,Tryz.underlying49,rfl⟩,desc:=⟨_,Tryz.underlying49,rfl,fun i o ft h=>match i,h with|0,h=>by simp at h;obtain⟨rfl,rfl⟩:=h;exact⟨_,rfl,rfl,rfl,ti41,by kernel_rfl,by decide⟩|1,h=>by simp at h;obtain⟨rfl,rfl⟩:=h;exact⟨_,rfl,rfl,rfl,ti47,by kernel_rfl,by decide⟩|n+2,h=>by simp at h⟩} tab144
def ti26:TI:=⟨.struct [(0,23),(1,24)],(.prod (.sl 47 (.prod (.prod .bool (.sl 86 (.int .u32))) (.sl 86 (.int .u32)))) (.sl 103 (.prod .str (.prod (.int .i64) (.prod .bool (.prod (.prod .bool (.sl 86 (.int .u32))) (.sl 86 (.int .u32)))))))),true,48⟩
def T26:Tab:=Tab.cons 26 ti26 T49
theorem tab26:TabOk Tryz.prog T26:=TabOk.cons (by kernel_rfl) {info:=⟨Tryz.t26,by kernel_rfl,by kernel_rfl,by kernel_rfl,(.agg #[.slice none 0 0,.slice none 0 0]),by kernel_rfl,by kernel_rfl⟩,agg:=⟨_,Tryz.underlying26,rfl⟩,desc:=⟨_,Tryz.underlying26,rfl,fun i o ft h=>match i,h with|0,h=>by simp at h;obtain⟨rfl,rfl⟩:=h;exact⟨_,rfl,rfl,rfl,ti23,by kernel_rfl,by decide⟩|1,h=>by simp at h;obtain⟨rfl,rfl⟩:=h;exact⟨_,rfl,rfl,rfl,ti24,by kernel_rfl,by decide⟩|n+2,h=>by simp at h⟩} tab49
def ti52:TI:=⟨.struct [(0,49),(4,4),(5,9)],(.prod (.prod (.sl 73 (.prod (.int .i64) (.prod (.prod .bool (.sl 86 (.int .u32))) (.sl 86 (.int .u32))))) (.prod (.prod .bool (.sl 86 (.int .u32))) (.sl 86 (.int .u32)))) (.prod .bool .str)),true,104⟩
def T52:Tab:=Tab.cons 52 ti52 T26
theorem tab52:TabOk Tryz.prog T52:=TabOk.cons (by kernel_rfl) {info:=⟨Tryz.t52,by kernel_rfl,by kernel_rfl,by kernel_rfl,(.agg #[.slice none 0 0,.bool false,.slice none 0 0,.slice none 0 0,.bool false,.string ByteArray.empty]),by kernel_rfl,by kernel_rfl⟩,agg:=⟨_,Tryz.underlying52,rfl⟩,desc:=⟨_,Tryz.underlying52,rfl,fun i o ft h=>match i,h with|0,h=>by simp at h;obtain⟨rfl,rfl⟩:=h;exact⟨_,rfl,rfl,rfl,ti49,by kernel_rfl,by decide⟩|1,h=>by simp at h;obtain⟨rfl,rfl⟩:=h;exact⟨_,rfl,rfl,rfl,ti4,by kernel_rfl,by decide⟩|2,h=>by simp at h;obtain⟨rfl,rfl⟩:=h;exact⟨_,rfl,rfl,rfl,ti9,by kernel_rfl,by decide⟩|n+3,h=>by simp at h⟩} tab26
def ti35:TI:=⟨.sl 52,(.sl 52 (.prod (.prod (.sl 73 (.prod (.int .i64) (.prod (.prod .bool (.sl 86 (.int .u32))) (.sl 86 (.int .u32))))) (.prod (.prod .bool (.sl 86 (.int .u32))) (.sl 86 (.int .u32)))) (.prod .bool .str))),false,24⟩
def T35:Tab:=Tab.cons 35 ti35 T52
theorem tab35:TabOk Tryz.prog T35:=TabOk.cons (by kernel_rfl) {info:=⟨Tryz.t35,by kernel_rfl,by kernel_rfl,by kernel_rfl,(.slice none 0 0),by kernel_rfl,by kernel_rfl⟩,agg:=⟨_,Tryz.underlying35,rfl⟩,desc:=⟨Tryz.underlying35,ti52,by kernel_rfl,rfl,by decide⟩} tab52
def ti42:TI:=⟨.sl 86,(.sl 86 (.int .u32)),false,24⟩
def T42:Tab:=Tab.cons 42 ti42 T35
theorem tab42:TabOk Tryz.prog T42:=TabOk.cons (by kernel_rfl) {info:=⟨Tryz.t42,by kernel_rfl,by kernel_rfl,by kernel_rfl,(.slice none 0 0),by kernel_rfl,by kernel_rfl⟩,agg:=⟨_,Tryz.underlying42,rfl⟩,desc:=⟨Tryz.underlying42,ti86,by kernel_rfl,rfl,by decide⟩} tab35
def ti65:TI:=⟨.sl 42,(.sl 42 (.sl 86 (.int .u32))),false,24⟩
def T65:Tab:=Tab.cons 65 ti65 T42
theorem tab65:TabOk Tryz.prog T65:=TabOk.cons (by kernel_rfl) {info:=⟨Tryz.t65,by kernel_rfl,by kernel_rfl,by kernel_rfl,(.slice none 0 0),by kernel_rfl,by kernel_rfl⟩,agg:=⟨_,Tryz.underlying65,rfl⟩,desc:=⟨Tryz.underlying65,ti42,by kernel_rfl,rfl,by decide⟩} tab42
def ti81:TI:=⟨.arr 4 4,(.prod .bool (.prod .bool (.prod .bool .bool))),true,4⟩
def T81:Tab:=Tab.cons 81 ti81 T65
theorem tab81:TabOk Tryz.prog T81:=TabOk.cons (by kernel_rfl) {info:=⟨Tryz.t81,by kernel_rfl,by kernel_rfl,by kernel_rfl,(.agg #[.bool false,.bool false,.bool false,.bool false]),by kernel_rfl,by kernel_rfl⟩,agg:=⟨_,Tryz.underlying81,rfl⟩,desc:=⟨Tryz.underlying81,ti4,by kernel_rfl,by decide⟩} tab65
def ti83:TI:=⟨.struct [(0,41),(1,47),(4,47),(7,81)],(.prod (.sl 73 (.prod (.int .i64) (.prod (.prod .bool (.sl 86 (.int .u32))) (.sl 86 (.int .u32))))) (.prod (.prod (.prod .bool (.sl 86 (.int .u32))) (.sl 86 (.int .u32))) (.prod (.prod (.prod .bool (.sl 86 (.int .u32))) (.sl 86 (.int .u32))) (.prod .bool (.prod .bool (.prod .bool .bool)))))),true,144⟩
def T83:Tab:=Tab.cons 83 ti83 T81
theorem tab83:TabOk Tryz.prog T83:=TabOk.cons (by kernel_rfl) {info:=⟨Tryz.t83,by kernel_rfl,by kernel_rfl,by kernel_rfl,(.agg #[.slice none 0 0,.bool false,.slice none 0 0,.slice none 0 0,.bool false,.slice none 0 0,.slice none 0 0,.bool false,.bool false,.bool false,.bool false]),by kernel_rfl,by kernel_rfl⟩,agg:=⟨_,Tryz.underlying83,rfl⟩,desc:=⟨_,Tryz.underlying83,rfl,fun i o ft h=>match i,h with|0,h=>by simp at h;obtain⟨rfl,rfl⟩:=h;exact⟨_,rfl,rfl,rfl,ti41,by kernel_rfl,by decide⟩|1,h=>by simp at h;obtain⟨rfl,rfl⟩:=h;exact⟨_,rfl,rfl,rfl,ti47,by kernel_rfl,by decide⟩|2,h=>by simp at h;obtain⟨rfl,rfl⟩:=h;exact⟨_,rfl,rfl,rfl,ti47,by kernel_rfl,by decide⟩|3,h=>by simp at h;obtain⟨rfl,rfl⟩:=h;exact⟨_,rfl,rfl,rfl,ti81,by kernel_rfl,by decide⟩|n+4,h=>by simp at h⟩} tab81
def ti128:TI:=⟨.arr 4 9,(.prod .str (.prod .str (.prod .str .str))),true,64⟩
def T128:Tab:=Tab.cons 128 ti128 T83
theorem tab128:TabOk Tryz.prog T128:=TabOk.cons (by kernel_rfl) {info:=⟨Tryz.t128,by kernel_rfl,by kernel_rfl,by kernel_rfl,(.agg #[.string ByteArray.empty,.string ByteArray.empty,.string ByteArray.empty,.string ByteArray.empty]),by kernel_rfl,by kernel_rfl⟩,agg:=⟨_,Tryz.underlying128,rfl⟩,desc:=⟨Tryz.underlying128,ti9,by kernel_rfl,by decide⟩} tab83
def T:Tab:=T128
theorem tabOk:TabOk Tryz.prog T:=tab128
theorem mix:Tryz.prog.follows .mixedOrders=true:=by kernel_rfl
def tabs:Nat→Option Tbl:=noTabs
theorem tabsOk:∀g tb,tabs g=some tb→TblOk Tryz.prog tb:=noTabs_ok
abbrev Dt176:Type:=(List Int)
abbrev zt176:Dt176:=([]:List Int)
abbrev t8:ByteArray:=⟨#[0,1,2,2,3,3,3,3,4,4,4,4,4,4,4,4,5,5,5,5,5,5,5,5,5,5,5,5,5,5,5,5,6,6,6,6,6,6,6,6,6,6,6,6,6,6,6,6,6,6,6,6,6,6,6,6,6,6,6,6,6,6,6,6,7,7,7,7,7,7,7,7,7,7,7,7,7,7,7,7,7,7,7,7,7,7,7,7,7,7,7,7,7,7,7,7,7,7,7,7,7,7,7,7,7,7,7,7,7,7,7,7,7,7,7,7,7,7,7,7,7,7,7,7,7,7,7,7,8,8,8,8,8,8,8,8,8,8,8,8,8,8,8,8,8,8,8,8,8,8,8,8,8,8,8,8,8,8,8,8,8,8,8,8,8,8,8,8,8,8,8,8,8,8,8,8,8,8,8,8,8,8,8,8,8,8,8,8,8,8,8,8,8,8,8,8,8,8,8,8,8,8,8,8,8,8,8,8,8,8,8,8,8,8,8,8,8,8,8,8,8,8,8,8,8,8,8,8,8,8,8,8,8,8,8,8,8,8,8,8,8,8,8,8,8,8,8,8,8,8,8,8,8,8,8,8]⟩
noncomputable section
abbrev Kt37:K:=(.sl 3 (.int .i64))
abbrev Dt37:Type:=Dt176
abbrev zt37:Dt37:=zt176
abbrev Kt43:K:=(.sl 86 (.int .u32))
abbrev Dt43:Type:=Dt37
abbrev zt43:Dt43:=zt37
abbrev Kt45:K:=(.prod .bool Kt43)
abbrev Dt45:Type:=(Bool×Dt43)
abbrev zt45:Dt45:=(false,zt43)
abbrev Kt47:K:=(.prod Kt45 Kt43)
abbrev Dt47:Type:=(Dt45×Dt43)
abbrev zt47:Dt47:=(zt45,zt43)
abbrev Kt23:K:=(.sl 47 Kt47)
abbrev Dt23:Type:=(List Dt47)
abbrev zt23:Dt23:=([]:List ((Bool×(List Int))×(List Int)))
abbrev Kt73:K:=(.prod (.int .i64) Kt47)
abbrev Dt73:Type:=(Int×Dt47)
abbrev zt73:Dt73:=((0:Int),zt47)
abbrev Kt40:K:=(.sl 73 Kt73)
abbrev Dt40:Type:=(List Dt73)
abbrev zt40:Dt40:=([]:List (Int×((Bool×(List Int))×(List Int))))
abbrev Kt101:K:=(.prod (.int .i64) (.prod .bool Kt47))
abbrev Dt101:Type:=(Int×(Bool×Dt47))
abbrev zt101:Dt101:=((0:Int),(false,zt47))
abbrev Kt103:K:=(.prod .str Kt101)
abbrev Dt103:Type:=(ByteArray×Dt101)
abbrev zt103:Dt103:=(ByteArray.empty,zt101)
abbrev Kt24:K:=(.sl 103 Kt103)
abbrev Dt24:Type:=(List Dt103)
abbrev Kt49:K:=(.prod Kt40 Kt47)
abbrev Dt49:Type:=(Dt40×Dt47)
abbrev Kt69:K:=(.prod .str (.prod Kt40 (.prod Kt47 .bool)))
abbrev Dt69:Type:=(ByteArray×(Dt40×(Dt47×Bool)))
abbrev zt69:Dt69:=(ByteArray.empty,(zt40,(zt47,false)))
abbrev Kt22:K:=(.sl 69 Kt69)
abbrev Dt22:Type:=(List Dt69)
abbrev zt22:Dt22:=([]:List (ByteArray×((List (Int×((Bool×(List Int))×(List Int))))×(((Bool×(List Int))×(List Int))×Bool))))
abbrev Kt26:K:=(.prod Kt23 Kt24)
abbrev Dt26:Type:=(Dt23×Dt24)
namespace nat_trim
def spec:Spec:=⟨[(false,Kt43)],[(false,Kt43)],.shared,fun j=>match j with|2=>[(0,.lf (.z 86 (.int .u32) true)),(3,.lf (.v true))]|_=>[]⟩
def cals:Cals:=(Cals.base tabs)
def sig:Sig:=spec.sig cals T Tryz.f150
def F (x:Dt43×Unit):Option (Dt43×Unit):=limF spec cals T Tryz.f150 x
theorem ck:CalsOk Tryz.prog cals:=(CalsOk.base tabsOk)
theorem cal:CalOk Tryz.prog tabs 150 sig:=calOk_lim' tabOk ck mix Tryz.func150 (by kernel_rfl) (by kernel_rfl) (by kernel_rfl) (by kernel_rfl)
def m2 (x0:Dt43)(x3:Int):S:=⟨[(0,.one (.lf (.val true Kt43 x0))),(3,.one (.lf (.val true (.int .i64) x3)))],⟨[],[]⟩⟩
def b2 (f2:Dt43→Int→Option (Dt43×Unit))(x0:Dt43)(x3:Int):Option (Dt43×Unit):=
 let v1:=decide (x3>(0:Int))
 bif v1 then(let v2:=IntKind.i64.wrap (x3-(1:Int))
 bif decide (0≤v2)&&decide (v2<(List.length x0:Int))then(let v3:=List.getD x0 (Int.toNat v2) (0:Int)
 let v4:=(v3==(0:Int))
 bif v4 then(let v5:=IntKind.i64.wrap (x3-(1:Int))
 f2 x0 v5)
 else(bif decide (0≤x3)&&decide (x3≤(List.length x0:Int))then(let v6:=List.take (Int.toNat x3) x0
 some (v6,()))
 else none))
 else none)
 else(bif decide (0≤x3)&&decide (x3≤(List.length x0:Int))then(let v7:=List.take (Int.toNat x3) x0
 some (v7,()))
 else none)
def e (f2:Dt43→Int→Option (Dt43×Unit))(a0:Dt43):Option (Dt43×Unit):=
 let v1:=(List.length a0:Int)
 f2 a0 v1
def L2 (k:Nat)(x0:Dt43)(x3:Int):Option (Dt43×Unit):=heads (spec.env cals T Tryz.f150) (Func.pts Tryz.f150) k 2 (m2 x0 x3)
theorem L2_succ (k:Nat)(x0:Dt43)(x3:Int):L2 (k+1) x0 x3=b2 (L2 k) x0 x3:=by kernel_rfl
theorem eval (k:Nat)(a0:Dt43):evalF spec cals T Tryz.f150 k (a0,())=e (L2 k) a0:=by kernel_rfl
theorem of (k:Nat)(a0:Dt43){y:Dt43×Unit}(h:e (L2 k) a0=some y):F (a0,())=some y:=limF_of k ((eval k a0).trans h)
end nat_trim
namespace bits_Len32
def spec:Spec:=⟨[(false,(.int .u32))],[(false,(.int .i64))],.own,fun j=>match j with|_=>[]⟩
def cals:Cals:=(Cals.base tabs)
def sig:Sig:=spec.sig cals T Tryz.f166
def F (x:Int×Unit):Option (Int×Unit):=limF spec cals T Tryz.f166 x
theorem ck:CalsOk Tryz.prog cals:=(CalsOk.base tabsOk)
theorem cal:CalOk Tryz.prog tabs 166 sig:=calOk_lim' tabOk ck mix Tryz.func166 (by kernel_rfl) (by kernel_rfl) (by kernel_rfl) (by kernel_rfl)
def e (a0:Int):Option (Int×Unit):=
 let v1:=decide (a0≥(65536:Int))
 bif v1 then(bif decide ((16:Int)<0)then none
 else(let v2:=shrI .u32 a0 (16:Int)
 let v3:=decide (v2≥(256:Int))
 bif v3 then(bif decide ((8:Int)<0)then none
 else(let v4:=shrI .u32 v2 (8:Int)
 let v5:=IntKind.i64.wrap ((16:Int)+(8:Int))
 let v6:=IntKind.u8.wrap v4
 bif decide (0≤v6)&&decide (v6<(ByteArray.size t8:Int))then(let v7:=btI t8 v6
 let v8:=IntKind.i64.wrap v7
 let v9:=IntKind.i64.wrap (v5+v8)
 some (v9,()))
 else none))
 else(let v10:=IntKind.u8.wrap v2
 bif decide (0≤v10)&&decide (v10<(ByteArray.size t8:Int))then(let v11:=btI t8 v10
 let v12:=IntKind.i64.wrap v11
 let v13:=IntKind.i64.wrap ((16:Int)+v12)
 some (v13,()))
 else none)))
 else(let v14:=decide (a0≥(256:Int))
 bif v14 then(bif decide ((8:Int)<0)then none
 else(let v15:=shrI .u32 a0 (8:Int)
 let v16:=IntKind.i64.wrap ((0:Int)+(8:Int))
 let v17:=IntKind.u8.wrap v15
 bif decide (0≤v17)&&decide (v17<(ByteArray.size t8:Int))then(let v18:=btI t8 v17
 let v19:=IntKind.i64.wrap v18
 let v20:=IntKind.i64.wrap (v16+v19)
 some (v20,()))
 else none))
 else(let v21:=IntKind.u8.wrap a0
 bif decide (0≤v21)&&decide (v21<(ByteArray.size t8:Int))then(let v22:=btI t8 v21
 let v23:=IntKind.i64.wrap v22
 let v24:=IntKind.i64.wrap ((0:Int)+v23)
 some (v24,()))
 else none))
theorem eval (k:Nat)(a0:Int):evalF spec cals T Tryz.f166 k (a0,())=e a0:=by kernel_rfl
theorem of (k:Nat)(a0:Int){y:Int×Unit}(h:e a0=some y):F (a0,())=some y:=limF_of k ((eval k a0).trans h)
end bits_Len32
namespace nat_Bits
def spec:Spec:=⟨[(false,Kt43)],[(false,(.int .i64))],.own,fun j=>match j with|_=>[]⟩
def cals:Cals:=(Cals.cons 150 nat_trim.sig (Cals.cons 166 bits_Len32.sig (Cals.base tabs)))
def sig:Sig:=spec.sig cals T Tryz.f144
def F (x:Dt43×Unit):Option (Int×Unit):=limF spec cals T Tryz.f144 x
theorem ck:CalsOk Tryz.prog cals:=(CalsOk.cons nat_trim.cal (CalsOk.cons bits_Len32.cal (CalsOk.base tabsOk)))
theorem cal:CalOk Tryz.prog tabs 144 sig:=calOk_lim' tabOk ck mix Tryz.func144 (by kernel_rfl) (by kernel_rfl) (by kernel_rfl) (by kernel_rfl)
def e (a0:Dt43):Option (Int×Unit):=
 (nat_trim.F (a0,())).bind fun y1=>
 let v2:=(List.length y1.1:Int)
 let v3:=(v2==(0:Int))
 bif v3 then(some ((0:Int),()))
 else(let v4:=(List.length y1.1:Int)
 let v5:=IntKind.i64.wrap (v4-(1:Int))
 let v6:=IntKind.i64.wrap ((32:Int)*v5)
 let v7:=(List.length y1.1:Int)
 let v8:=IntKind.i64.wrap (v7-(1:Int))
 bif decide (0≤v8)&&decide (v8<(List.length y1.1:Int))then(let v9:=List.getD y1.1 (Int.toNat v8) (0:Int)
 (bits_Len32.F (v9,())).bind fun y10=>
 let v11:=IntKind.i64.wrap (v6+y10.1)
 some (v11,()))
 else none)
theorem eval (k:Nat)(a0:Dt43):evalF spec cals T Tryz.f144 k (a0,())=e a0:=by kernel_rfl
theorem of (k:Nat)(a0:Dt43){y:Int×Unit}(h:e a0=some y):F (a0,())=some y:=limF_of k ((eval k a0).trans h)
end nat_Bits
namespace nat_Cmp
def spec:Spec:=⟨[(false,Kt43),(false,Kt43)],[(false,(.int .i64))],.own,fun j=>match j with|7=>[(0,.lf (.z 86 (.int .u32) false)),(1,.lf (.z 86 (.int .u32) false)),(5,.lf (.v true))]|_=>[]⟩
def cals:Cals:=(Cals.cons 150 nat_trim.sig (Cals.base tabs))
def sig:Sig:=spec.sig cals T Tryz.f139
def F (x:Dt43×Dt43×Unit):Option (Int×Unit):=limF spec cals T Tryz.f139 x
theorem ck:CalsOk Tryz.prog cals:=(CalsOk.cons nat_trim.cal (CalsOk.base tabsOk))
theorem cal:CalOk Tryz.prog tabs 139 sig:=calOk_lim' tabOk ck mix Tryz.func139 (by kernel_rfl) (by kernel_rfl) (by kernel_rfl) (by kernel_rfl)
def m7 (x0:Dt43)(x1:Dt43)(x5:Int):S:=⟨[(0,.one (.lf (.val false Kt43 x0))),(1,.one (.lf (.val false Kt43 x1))),(5,.one (.lf (.val true (.int .i64) x5)))],⟨[],[]⟩⟩
def b7 (f7:Dt43→Dt43→Int→Option (Int×Unit))(x0:Dt43)(x1:Dt43)(x5:Int):Option (Int×Unit):=
 let v1:=decide (x5≥(0:Int))
 bif v1 then(bif decide (0≤x5)&&decide (x5<(List.length x0:Int))then(let v2:=List.getD x0 (Int.toNat x5) (0:Int)
 bif decide (0≤x5)&&decide (x5<(List.length x1:Int))then(let v3:=List.getD x1 (Int.toNat x5) (0:Int)
 let v4:=(v2 != v3)
 bif v4 then(bif decide (0≤x5)&&decide (x5<(List.length x0:Int))then(let v5:=List.getD x0 (Int.toNat x5) (0:Int)
 bif decide (0≤x5)&&decide (x5<(List.length x1:Int))then(let v6:=List.getD x1 (Int.toNat x5) (0:Int)
 let v7:=decide (v5<v6)
 bif v7 then(some ((-1:Int),()))
 else(some ((1:Int),())))
 else none)
 else none)
 else(let v8:=IntKind.i64.wrap (x5-(1:Int))
 f7 x0 x1 v8))
 else none)
 else none)
 else(some ((0:Int),()))
def e (f7:Dt43→Dt43→Int→Option (Int×Unit))(a0:Dt43)(a1:Dt43):Option (Int×Unit):=
 (nat_trim.F (a0,())).bind fun y1=>
 (nat_trim.F (a1,())).bind fun y2=>
 let v3:=(List.length y1.1:Int)
 let v4:=(List.length y2.1:Int)
 let v5:=(v3 != v4)
 bif v5 then(let v6:=(List.length y1.1:Int)
 let v7:=(List.length y2.1:Int)
 let v8:=decide (v6<v7)
 bif v8 then(some ((-1:Int),()))
 else(some ((1:Int),())))
 else(let v9:=(List.length y1.1:Int)
 let v10:=IntKind.i64.wrap (v9-(1:Int))
 f7 y1.1 y2.1 v10)
def L7 (k:Nat)(x0:Dt43)(x1:Dt43)(x5:Int):Option (Int×Unit):=heads (spec.env cals T Tryz.f139) (Func.pts Tryz.f139) k 7 (m7 x0 x1 x5)
theorem L7_succ (k:Nat)(x0:Dt43)(x1:Dt43)(x5:Int):L7 (k+1) x0 x1 x5=b7 (L7 k) x0 x1 x5:=by kernel_rfl
theorem eval (k:Nat)(a0:Dt43)(a1:Dt43):evalF spec cals T Tryz.f139 k (a0,a1,())=e (L7 k) a0 a1:=by kernel_rfl
theorem of (k:Nat)(a0:Dt43)(a1:Dt43){y:Int×Unit}(h:e (L7 k) a0 a1=some y):F (a0,a1,())=some y:=limF_of k ((eval k a0 a1).trans h)
end nat_Cmp
namespace nat_own
def spec:Spec:=⟨[(false,Kt43)],[(false,Kt43)],.own,fun j=>match j with|_=>[]⟩
def cals:Cals:=(Cals.cons 150 nat_trim.sig (Cals.base tabs))
def sig:Sig:=spec.sig cals T Tryz.f149
def F (x:Dt43×Unit):Option (Dt43×Unit):=limF spec cals T Tryz.f149 x
theorem ck:CalsOk Tryz.prog cals:=(CalsOk.cons nat_trim.cal (CalsOk.base tabsOk))
theorem cal:CalOk Tryz.prog tabs 149 sig:=calOk_lim' tabOk ck mix Tryz.func149 (by kernel_rfl) (by kernel_rfl) (by kernel_rfl) (by kernel_rfl)
def e (a0:Dt43):Option (Dt43×Unit):=
 (nat_trim.F (a0,())).bind fun y1=>
 let v2:=(List.length y1.1:Int)
 let v3:=(v2==(0:Int))
 bif v3 then(some (zt43,()))
 else(let v4:=(List.length y1.1:Int)
 bif decide (0≤v4)&&(decide (v4≤v4)&&(decide (Int.toNat v4*4≤281474976710656)&&Nat.blt 0 4))then(let v5:=List.replicate (Int.toNat v4) (0:Int)
 let v6:=List.take (List.length v5) y1.1++List.drop (List.length y1.1) v5
 let v7:=((Nat.min (List.length y1.1) (List.length v5):Nat):Int)
 some (v6,()))
 else none)
theorem eval (k:Nat)(a0:Dt43):evalF spec cals T Tryz.f149 k (a0,())=e a0:=by kernel_rfl
theorem of (k:Nat)(a0:Dt43){y:Dt43×Unit}(h:e a0=some y):F (a0,())=some y:=limF_of k ((eval k a0).trans h)
end nat_own
namespace bits_Div32
def spec:Spec:=⟨[(false,(.int .u32)),(false,(.int .u32)),(false,(.int .u32))],[(false,(.int .u32)),(false,(.int .u32))],.own,fun j=>match j with|_=>[]⟩
def cals:Cals:=(Cals.base tabs)
def sig:Sig:=spec.sig cals T Tryz.f171
def F (x:Int×Int×Int×Unit):Option (Int×Int×Unit):=limF spec cals T Tryz.f171 x
theorem ck:CalsOk Tryz.prog cals:=(CalsOk.base tabsOk)
theorem cal:CalOk Tryz.prog tabs 171 sig:=calOk_lim' tabOk ck mix Tryz.func171 (by kernel_rfl) (by kernel_rfl) (by kernel_rfl) (by kernel_rfl)
def e (a0:Int)(a1:Int)(a2:Int):Option (Int×Int×Unit):=
 let v1:=(a2 != (0:Int))
 bif v1 then(let v2:=decide (a2≤a0)
 bif v2 then(none)
 else(let v3:=IntKind.u64.wrap a0
 bif decide ((32:Int)<0)then none
 else(let v4:=shlI .u64 v3 (32:Int)
 let v5:=IntKind.u64.wrap a1
 let v6:=bitsOp .or .u64 v4 v5
 let v7:=IntKind.u64.wrap a2
 bif decide (v7=0)then none
 else(let v8:=IntKind.u64.wrap (Int.tdiv v6 v7)
 let v9:=IntKind.u32.wrap v8
 let v10:=IntKind.u64.wrap a2
 bif decide (v10=0)then none
 else(let v11:=Int.tmod v6 v10
 let v12:=IntKind.u32.wrap v11
 some (v9,v12,()))))))
 else(let v13:=IntKind.u64.wrap a0
 bif decide ((32:Int)<0)then none
 else(let v14:=shlI .u64 v13 (32:Int)
 let v15:=IntKind.u64.wrap a1
 let v16:=bitsOp .or .u64 v14 v15
 let v17:=IntKind.u64.wrap a2
 bif decide (v17=0)then none
 else(let v18:=IntKind.u64.wrap (Int.tdiv v16 v17)
 let v19:=IntKind.u32.wrap v18
 let v20:=IntKind.u64.wrap a2
 bif decide (v20=0)then none
 else(let v21:=Int.tmod v16 v20
 let v22:=IntKind.u32.wrap v21
 some (v19,v22,())))))
theorem eval (k:Nat)(a0:Int)(a1:Int)(a2:Int):evalF spec cals T Tryz.f171 k (a0,a1,a2,())=e a0 a1 a2:=by kernel_rfl
theorem of (k:Nat)(a0:Int)(a1:Int)(a2:Int){y:Int×Int×Unit}(h:e a0 a1 a2=some y):F (a0,a1,a2,())=some y:=limF_of k ((eval k a0 a1 a2).trans h)
end bits_Div32
namespace nat_short
def spec:Spec:=⟨[(false,Kt43),(false,(.int .u32))],[(false,Kt43),(false,(.int .u32))],.own,fun j=>match j with|4=>[(0,.lf (.z 86 (.int .u32) false)),(1,.lf (.v false)),(6,.lf (.o 86 (.int .u32) true)),(7,.lf (.v true)),(8,.lf (.v true))]|_=>[]⟩
def cals:Cals:=(Cals.cons 171 bits_Div32.sig (Cals.base tabs))
def sig:Sig:=spec.sig cals T Tryz.f151
def F (x:Dt43×Int×Unit):Option (Dt43×Int×Unit):=limF spec cals T Tryz.f151 x
theorem ck:CalsOk Tryz.prog cals:=(CalsOk.cons bits_Div32.cal (CalsOk.base tabsOk))
theorem cal:CalOk Tryz.prog tabs 151 sig:=calOk_lim' tabOk ck mix Tryz.func151 (by kernel_rfl) (by kernel_rfl) (by kernel_rfl) (by kernel_rfl)
def m4 (x0:Dt43)(x1:Int)(x6:Dt43)(x7:Int)(x8:Int):S:=⟨[(0,.one (.lf (.val false Kt43 x0))),(1,.one (.lf (.val false (.int .u32) x1))),(6,.one (.lf (.own 0))),(7,.one (.lf (.val true (.int .u32) x7))),(8,.one (.lf (.val true (.int .i64) x8)))],⟨[some ⟨86,(.int .u32),true,true,x6⟩],[]⟩⟩
def b4 (f4:Dt43→Int→Dt43→Int→Int→Option (Dt43×Int×Unit))(x0:Dt43)(x1:Int)(x6:Dt43)(x7:Int)(x8:Int):Option (Dt43×Int×Unit):=
 let v1:=decide (x8≥(0:Int))
 bif v1 then(bif decide (0≤x8)&&decide (x8<(List.length x0:Int))then(let v2:=List.getD x0 (Int.toNat x8) (0:Int)
 (bits_Div32.F (x7,v2,x1,())).bind fun y3=>
 bif decide (0≤x8)&&decide (x8<(List.length x6:Int))then(let v4:=List.set x6 (Int.toNat x8) y3.1
 let v5:=IntKind.i64.wrap (x8-(1:Int))
 f4 x0 x1 v4 y3.2.1 v5)
 else none)
 else none)
 else(some (x6,x7,()))
def e (f4:Dt43→Int→Dt43→Int→Int→Option (Dt43×Int×Unit))(a0:Dt43)(a1:Int):Option (Dt43×Int×Unit):=
 let v1:=(List.length a0:Int)
 bif decide (0≤v1)&&(decide (v1≤v1)&&(decide (Int.toNat v1*4≤281474976710656)&&Nat.blt 0 4))then(let v2:=List.replicate (Int.toNat v1) (0:Int)
 let v3:=(List.length a0:Int)
 let v4:=IntKind.i64.wrap (v3-(1:Int))
 f4 a0 a1 v2 (0:Int) v4)
 else none
def L4 (k:Nat)(x0:Dt43)(x1:Int)(x6:Dt43)(x7:Int)(x8:Int):Option (Dt43×Int×Unit):=heads (spec.env cals T Tryz.f151) (Func.pts Tryz.f151) k 4 (m4 x0 x1 x6 x7 x8)
theorem L4_succ (k:Nat)(x0:Dt43)(x1:Int)(x6:Dt43)(x7:Int)(x8:Int):L4 (k+1) x0 x1 x6 x7 x8=b4 (L4 k) x0 x1 x6 x7 x8:=by kernel_rfl
theorem eval (k:Nat)(a0:Dt43)(a1:Int):evalF spec cals T Tryz.f151 k (a0,a1,())=e (L4 k) a0 a1:=by kernel_rfl
theorem of (k:Nat)(a0:Dt43)(a1:Int){y:Dt43×Int×Unit}(h:e (L4 k) a0 a1=some y):F (a0,a1,())=some y:=limF_of k ((eval k a0 a1).trans h)
end nat_short
namespace bits_LeadingZeros32
def spec:Spec:=⟨[(false,(.int .u32))],[(false,(.int .i64))],.own,fun j=>match j with|_=>[]⟩
def cals:Cals:=(Cals.cons 166 bits_Len32.sig (Cals.base tabs))
def sig:Sig:=spec.sig cals T Tryz.f172
def F (x:Int×Unit):Option (Int×Unit):=limF spec cals T Tryz.f172 x
theorem ck:CalsOk Tryz.prog cals:=(CalsOk.cons bits_Len32.cal (CalsOk.base tabsOk))
theorem cal:CalOk Tryz.prog tabs 172 sig:=calOk_lim' tabOk ck mix Tryz.func172 (by kernel_rfl) (by kernel_rfl) (by kernel_rfl) (by kernel_rfl)
def e (a0:Int):Option (Int×Unit):=
 (bits_Len32.F (a0,())).bind fun y1=>
 let v2:=IntKind.i64.wrap ((32:Int)-y1.1)
 some (v2,())
theorem eval (k:Nat)(a0:Int):evalF spec cals T Tryz.f172 k (a0,())=e a0:=by kernel_rfl
theorem of (k:Nat)(a0:Int){y:Int×Unit}(h:e a0=some y):F (a0,())=some y:=limF_of k ((eval k a0).trans h)
end bits_LeadingZeros32
namespace nat_moved
def spec:Spec:=⟨[(false,Kt43),(false,(.int .i64))],[(false,Kt43)],.own,fun j=>match j with|3=>[(0,.lf (.z 86 (.int .u32) false)),(1,.lf (.v false)),(5,.lf (.o 86 (.int .u32) true)),(12,.lf (.v true)),(13,.lf (.v true))]|_=>[]⟩
def cals:Cals:=(Cals.base tabs)
def sig:Sig:=spec.sig cals T Tryz.f173
def F (x:Dt43×Int×Unit):Option (Dt43×Unit):=limF spec cals T Tryz.f173 x
theorem ck:CalsOk Tryz.prog cals:=(CalsOk.base tabsOk)
theorem cal:CalOk Tryz.prog tabs 173 sig:=calOk_lim' tabOk ck mix Tryz.func173 (by kernel_rfl) (by kernel_rfl) (by kernel_rfl) (by kernel_rfl)
def m3 (x0:Dt43)(x1:Int)(x5:Dt43)(x12:Int)(x13:Int):S:=⟨[(0,.one (.lf (.val false Kt43 x0))),(1,.one (.lf (.val false (.int .i64) x1))),(5,.one (.lf (.own 0))),(12,.one (.lf (.val true (.int .i64) x12))),(13,.one (.lf (.val true (.int .i64) x13)))],⟨[some ⟨86,(.int .u32),true,true,x5⟩],[]⟩⟩
def b3 (f3:Dt43→Int→Dt43→Int→Int→Option (Dt43×Unit))(x0:Dt43)(x1:Int)(x5:Dt43)(x12:Int)(x13:Int):Option (Dt43×Unit):=
 let v1:=decide (x13<x12)
 bif v1 then(bif decide (0≤x13)&&decide (x13<(List.length x5:Int))then(let v2:=List.getD x5 (Int.toNat x13) (0:Int)
 bif decide (0≤x13)&&decide (x13<(List.length x0:Int))then(let v3:=List.getD x0 (Int.toNat x13) (0:Int)
 bif decide (x1<0)then none
 else(let v4:=shlI .u32 v3 x1
 let v5:=bitsOp .or .u32 v2 v4
 bif decide (0≤x13)&&decide (x13<(List.length x5:Int))then(let v6:=List.set x5 (Int.toNat x13) v5
 let v7:=IntKind.i64.wrap (x13+(1:Int))
 bif decide (0≤x13)&&decide (x13<(List.length x0:Int))then(let v8:=List.getD x0 (Int.toNat x13) (0:Int)
 let v9:=IntKind.u64.wrap v8
 let v10:=IntKind.i64.wrap ((32:Int)-x1)
 bif decide (v10<0)then none
 else(let v11:=shrI .u64 v9 v10
 let v12:=IntKind.u32.wrap v11
 bif decide (0≤v7)&&decide (v7<(List.length v6:Int))then(let v13:=List.set v6 (Int.toNat v7) v12
 let v14:=IntKind.i64.wrap (x13+(1:Int))
 f3 x0 x1 v13 x12 v14)
 else none))
 else none)
 else none))
 else none)
 else none)
 else(some (x5,()))
def e (f3:Dt43→Int→Dt43→Int→Int→Option (Dt43×Unit))(a0:Dt43)(a1:Int):Option (Dt43×Unit):=
 let v1:=(List.length a0:Int)
 let v2:=IntKind.i64.wrap (v1+(1:Int))
 bif decide (0≤v2)&&(decide (v2≤v2)&&(decide (Int.toNat v2*4≤281474976710656)&&Nat.blt 0 4))then(let v3:=List.replicate (Int.toNat v2) (0:Int)
 let v4:=(List.length a0:Int)
 f3 a0 a1 v3 v4 (0:Int))
 else none
def L3 (k:Nat)(x0:Dt43)(x1:Int)(x5:Dt43)(x12:Int)(x13:Int):Option (Dt43×Unit):=heads (spec.env cals T Tryz.f173) (Func.pts Tryz.f173) k 3 (m3 x0 x1 x5 x12 x13)
theorem L3_succ (k:Nat)(x0:Dt43)(x1:Int)(x5:Dt43)(x12:Int)(x13:Int):L3 (k+1) x0 x1 x5 x12 x13=b3 (L3 k) x0 x1 x5 x12 x13:=by kernel_rfl
theorem eval (k:Nat)(a0:Dt43)(a1:Int):evalF spec cals T Tryz.f173 k (a0,a1,())=e (L3 k) a0 a1:=by kernel_rfl
theorem of (k:Nat)(a0:Dt43)(a1:Int){y:Dt43×Unit}(h:e (L3 k) a0 a1=some y):F (a0,a1,())=some y:=limF_of k ((eval k a0 a1).trans h)
end nat_moved
namespace bits_Add32
def spec:Spec:=⟨[(false,(.int .u32)),(false,(.int .u32)),(false,(.int .u32))],[(false,(.int .u32)),(false,(.int .u32))],.own,fun j=>match j with|_=>[]⟩
def cals:Cals:=(Cals.base tabs)
def sig:Sig:=spec.sig cals T Tryz.f176
def F (x:Int×Int×Int×Unit):Option (Int×Int×Unit):=limF spec cals T Tryz.f176 x
theorem ck:CalsOk Tryz.prog cals:=(CalsOk.base tabsOk)
theorem cal:CalOk Tryz.prog tabs 176 sig:=calOk_lim' tabOk ck mix Tryz.func176 (by kernel_rfl) (by kernel_rfl) (by kernel_rfl) (by kernel_rfl)
def e (a0:Int)(a1:Int)(a2:Int):Option (Int×Int×Unit):=
 let v1:=IntKind.u64.wrap a0
 let v2:=IntKind.u64.wrap a1
 let v3:=IntKind.u64.wrap (v1+v2)
 let v4:=IntKind.u64.wrap a2
 let v5:=IntKind.u64.wrap (v3+v4)
 let v6:=IntKind.u32.wrap v5
 bif decide ((32:Int)<0)then none
 else(let v7:=shrI .u64 v5 (32:Int)
 let v8:=IntKind.u32.wrap v7
 some (v6,v8,()))
theorem eval (k:Nat)(a0:Int)(a1:Int)(a2:Int):evalF spec cals T Tryz.f176 k (a0,a1,a2,())=e a0 a1 a2:=by kernel_rfl
theorem of (k:Nat)(a0:Int)(a1:Int)(a2:Int){y:Int×Int×Unit}(h:e a0 a1 a2=some y):F (a0,a1,a2,())=some y:=limF_of k ((eval k a0 a1 a2).trans h)
end bits_Add32
namespace bits_Sub32
def spec:Spec:=⟨[(false,(.int .u32)),(false,(.int .u32)),(false,(.int .u32))],[(false,(.int .u32)),(false,(.int .u32))],.own,fun j=>match j with|_=>[]⟩
def cals:Cals:=(Cals.base tabs)
def sig:Sig:=spec.sig cals T Tryz.f177
def F (x:Int×Int×Int×Unit):Option (Int×Int×Unit):=limF spec cals T Tryz.f177 x
theorem ck:CalsOk Tryz.prog cals:=(CalsOk.base tabsOk)
theorem cal:CalOk Tryz.prog tabs 177 sig:=calOk_lim' tabOk ck mix Tryz.func177 (by kernel_rfl) (by kernel_rfl) (by kernel_rfl) (by kernel_rfl)
def e (a0:Int)(a1:Int)(a2:Int):Option (Int×Int×Unit):=
 let v1:=IntKind.u32.wrap (a0-a1)
 let v2:=IntKind.u32.wrap (v1-a2)
 let v3:=bitsOp .xor .u32 (if IntKind.u32.signed then -1 else IntKind.u32.max) a0
 let v4:=bitsOp .and .u32 v3 a1
 let v5:=bitsOp .xor .u32 a0 a1
 let v6:=bitsOp .xor .u32 (if IntKind.u32.signed then -1 else IntKind.u32.max) v5
 let v7:=bitsOp .and .u32 v6 v2
 let v8:=bitsOp .or .u32 v4 v7
 bif decide ((31:Int)<0)then none
 else(let v9:=shrI .u32 v8 (31:Int)
 some (v2,v9,()))
theorem eval (k:Nat)(a0:Int)(a1:Int)(a2:Int):evalF spec cals T Tryz.f177 k (a0,a1,a2,())=e a0 a1 a2:=by kernel_rfl
theorem of (k:Nat)(a0:Int)(a1:Int)(a2:Int){y:Int×Int×Unit}(h:e a0 a1 a2=some y):F (a0,a1,a2,())=some y:=limF_of k ((eval k a0 a1 a2).trans h)
end bits_Sub32
namespace nat_digit
def spec:IoSpec:=⟨86,(.int .u32),[(false,Kt43)],[(false,(.int .u32))],fun j=>match j with|4=>[(0,.sub true),(1,.lf (.z 86 (.int .u32) false)),(5,.lf (.v true)),(7,.lf (.v true)),(8,.lf (.v true))]|10=>[(0,.sub true),(1,.lf (.z 86 (.int .u32) false)),(5,.lf (.v true)),(7,.lf (.v true)),(9,.lf (.v true)),(10,.lf (.v true)),(82,.lf (.v true)),(83,.lf (.v true))]|21=>[(0,.sub true),(1,.lf (.z 86 (.int .u32) false)),(5,.lf (.v true)),(7,.lf (.v true)),(13,.lf (.v true)),(130,.lf (.v true)),(131,.lf (.v true))]|_=>[]⟩
def cals:Cals:=(Cals.cons 177 bits_Sub32.sig (Cals.cons 176 bits_Add32.sig (Cals.base tabs)))
def sig:IoSig:=spec.sig cals T Tryz.f174
def F (zs:List Int)(o n:Nat)(x:Dt43×Unit):Option ((Int×Unit)×List Int):=limIO spec cals T Tryz.f174 zs o n x
theorem ck:CalsOk Tryz.prog cals:=(CalsOk.cons bits_Sub32.cal (CalsOk.cons bits_Add32.cal (CalsOk.base tabsOk)))
theorem cal:IoOk Tryz.prog 174 sig:=io_of' tabOk ck mix Tryz.func174 (by kernel_rfl) (by kernel_rfl) (by kernel_rfl) (by kernel_rfl) rfl
def m4 (x0:Dt43)(x0_o:Nat)(x0_n:Nat)(x0_g:(Nat×Nat))(x1:Dt43)(x5:Int)(x7:Int)(x8:Int):S:=⟨[(0,.sub 0 x0_o x0_n (some x0_g)),(1,.one (.lf (.val false Kt43 x1))),(5,.one (.lf (.val true (.int .i64) x5))),(7,.one (.lf (.val true (.int .u64) x7))),(8,.one (.lf (.val true (.int .u64) x8)))],⟨[some ⟨86,(.int .u32),true,true,x0⟩],[]⟩⟩
def m10 (x0:Dt43)(x0_o:Nat)(x0_n:Nat)(x0_g:(Nat×Nat))(x1:Dt43)(x5:Int)(x7:Int)(x9:Int)(x10:Int)(x82:Int)(x83:Int):S:=⟨[(0,.sub 0 x0_o x0_n (some x0_g)),(1,.one (.lf (.val false Kt43 x1))),(5,.one (.lf (.val true (.int .i64) x5))),(7,.one (.lf (.val true (.int .u64) x7))),(9,.one (.lf (.val true (.int .u32) x9))),(10,.one (.lf (.val true (.int .u64) x10))),(82,.one (.lf (.val true (.int .i64) x82))),(83,.one (.lf (.val true (.int .i64) x83)))],⟨[some ⟨86,(.int .u32),true,true,x0⟩],[]⟩⟩
def m21 (x0:Dt43)(x0_o:Nat)(x0_n:Nat)(x0_g:(Nat×Nat))(x1:Dt43)(x5:Int)(x7:Int)(x13:Int)(x130:Int)(x131:Int):S:=⟨[(0,.sub 0 x0_o x0_n (some x0_g)),(1,.one (.lf (.val false Kt43 x1))),(5,.one (.lf (.val true (.int .i64) x5))),(7,.one (.lf (.val true (.int .u64) x7))),(13,.one (.lf (.val true (.int .u32) x13))),(130,.one (.lf (.val true (.int .i64) x130))),(131,.one (.lf (.val true (.int .i64) x131)))],⟨[some ⟨86,(.int .u32),true,true,x0⟩],[]⟩⟩
def b4 (f4:Dt43→Nat→Nat→(Nat×Nat)→Dt43→Int→Int→Int→Option ((Int×Unit)×List Int×(Nat×Nat)))(f10:Dt43→Nat→Nat→(Nat×Nat)→Dt43→Int→Int→Int→Int→Int→Int→Option ((Int×Unit)×List Int×(Nat×Nat)))(f21:Dt43→Nat→Nat→(Nat×Nat)→Dt43→Int→Int→Int→Int→Int→Option ((Int×Unit)×List Int×(Nat×Nat)))(x0:Dt43)(x0_o:Nat)(x0_n:Nat)(x0_g:(Nat×Nat))(x1:Dt43)(x5:Int)(x7:Int)(x8:Int):Option ((Int×Unit)×List Int×(Nat×Nat)):=
 bif decide ((32:Int)<0)then none
 else(let v1:=shrI .u64 x7 (32:Int)
 let v2:=(v1 != (0:Int))
 bif v2 then(let v3:=IntKind.u64.wrap (x7-(1:Int))
 let v4:=IntKind.i64.wrap (x5-(1:Int))
 bif decide (0≤v4)&&decide (v4<(List.length x1:Int))then(let v5:=List.getD x1 (Int.toNat v4) (0:Int)
 let v6:=IntKind.u64.wrap v5
 let v7:=IntKind.u64.wrap (x8+v6)
 bif decide ((32:Int)<0)then none
 else(let v8:=shrI .u64 v7 (32:Int)
 let v9:=(v8 != (0:Int))
 bif v9 then(f10 x0 x0_o x0_n x0_g x1 x5 v3 (0:Int) (0:Int) x5 (0:Int))
 else(f4 x0 x0_o x0_n x0_g x1 x5 v3 v7)))
 else none)
 else(let v10:=IntKind.i64.wrap (x5-(2:Int))
 bif decide (0≤v10)&&decide (v10<(List.length x1:Int))then(let v11:=List.getD x1 (Int.toNat v10) (0:Int)
 let v12:=IntKind.u64.wrap v11
 let v13:=IntKind.u64.wrap (x7*v12)
 bif decide ((32:Int)<0)then none
 else(let v14:=shlI .u64 x8 (32:Int)
 let v15:=IntKind.i64.wrap (x5-(2:Int))
 bif decide (0≤v15)&&decide (v15<((x0_n:Nat):Int))then(let v16:=List.getD x0 (x0_o+Int.toNat v15) (0:Int)
 let v17:=IntKind.u64.wrap v16
 let v18:=bitsOp .or .u64 v14 v17
 let v19:=decide (v13>v18)
 bif v19 then(let v20:=IntKind.u64.wrap (x7-(1:Int))
 let v21:=IntKind.i64.wrap (x5-(1:Int))
 bif decide (0≤v21)&&decide (v21<(List.length x1:Int))then(let v22:=List.getD x1 (Int.toNat v21) (0:Int)
 let v23:=IntKind.u64.wrap v22
 let v24:=IntKind.u64.wrap (x8+v23)
 bif decide ((32:Int)<0)then none
 else(let v25:=shrI .u64 v24 (32:Int)
 let v26:=(v25 != (0:Int))
 bif v26 then(f10 x0 x0_o x0_n x0_g x1 x5 v20 (0:Int) (0:Int) x5 (0:Int))
 else(f4 x0 x0_o x0_n x0_g x1 x5 v20 v24)))
 else none)
 else(f10 x0 x0_o x0_n x0_g x1 x5 x7 (0:Int) (0:Int) x5 (0:Int)))
 else none))
 else none))
def b10 (f4:Dt43→Nat→Nat→(Nat×Nat)→Dt43→Int→Int→Int→Option ((Int×Unit)×List Int×(Nat×Nat)))(f10:Dt43→Nat→Nat→(Nat×Nat)→Dt43→Int→Int→Int→Int→Int→Int→Option ((Int×Unit)×List Int×(Nat×Nat)))(f21:Dt43→Nat→Nat→(Nat×Nat)→Dt43→Int→Int→Int→Int→Int→Option ((Int×Unit)×List Int×(Nat×Nat)))(x0:Dt43)(x0_o:Nat)(x0_n:Nat)(x0_g:(Nat×Nat))(x1:Dt43)(x5:Int)(x7:Int)(x9:Int)(x10:Int)(x82:Int)(x83:Int):Option ((Int×Unit)×List Int×(Nat×Nat)):=
 let v1:=decide (x83<x82)
 bif v1 then(bif decide (0≤x83)&&decide (x83<(List.length x1:Int))then(let v2:=List.getD x1 (Int.toNat x83) (0:Int)
 let v3:=IntKind.u64.wrap v2
 let v4:=IntKind.u64.wrap (x7*v3)
 let v5:=IntKind.u64.wrap (v4+x10)
 bif decide ((32:Int)<0)then none
 else(let v6:=shrI .u64 v5 (32:Int)
 bif decide (0≤x83)&&decide (x83<((x0_n:Nat):Int))then(let v7:=List.getD x0 (x0_o+Int.toNat x83) (0:Int)
 let v8:=IntKind.u32.wrap v5
 (bits_Sub32.F (v7,v8,x9,())).bind fun y9=>
 bif decide (0≤x83)&&decide (x83<((x0_n:Nat):Int))then(let v10:=List.set x0 (x0_o+Int.toNat x83) y9.1
 let v11:=IntKind.i64.wrap (x83+(1:Int))
 f10 v10 x0_o x0_n x0_g x1 x5 x7 y9.2.1 v6 x82 v11)
 else none)
 else none))
 else none)
 else(bif decide (0≤x5)&&decide (x5<((x0_n:Nat):Int))then(let v12:=List.getD x0 (x0_o+Int.toNat x5) (0:Int)
 let v13:=IntKind.u32.wrap x10
 (bits_Sub32.F (v12,v13,x9,())).bind fun y14=>
 bif decide (0≤x5)&&decide (x5<((x0_n:Nat):Int))then(let v15:=List.set x0 (x0_o+Int.toNat x5) y14.1
 let v16:=(y14.2.1==(1:Int))
 bif v16 then(let v17:=IntKind.u64.wrap (x7-(1:Int))
 f21 v15 x0_o x0_n x0_g x1 x5 v17 (0:Int) x5 (0:Int))
 else(let v18:=IntKind.u32.wrap x7
 bif Nat.blt 0 x0_n&&true then(some ((v18,()),v15,x0_g))
 else none))
 else none)
 else none)
def b21 (f4:Dt43→Nat→Nat→(Nat×Nat)→Dt43→Int→Int→Int→Option ((Int×Unit)×List Int×(Nat×Nat)))(f10:Dt43→Nat→Nat→(Nat×Nat)→Dt43→Int→Int→Int→Int→Int→Int→Option ((Int×Unit)×List Int×(Nat×Nat)))(f21:Dt43→Nat→Nat→(Nat×Nat)→Dt43→Int→Int→Int→Int→Int→Option ((Int×Unit)×List Int×(Nat×Nat)))(x0:Dt43)(x0_o:Nat)(x0_n:Nat)(x0_g:(Nat×Nat))(x1:Dt43)(x5:Int)(x7:Int)(x13:Int)(x130:Int)(x131:Int):Option ((Int×Unit)×List Int×(Nat×Nat)):=
 let v1:=decide (x131<x130)
 bif v1 then(bif decide (0≤x131)&&decide (x131<((x0_n:Nat):Int))then(let v2:=List.getD x0 (x0_o+Int.toNat x131) (0:Int)
 bif decide (0≤x131)&&decide (x131<(List.length x1:Int))then(let v3:=List.getD x1 (Int.toNat x131) (0:Int)
 (bits_Add32.F (v2,v3,x13,())).bind fun y4=>
 bif decide (0≤x131)&&decide (x131<((x0_n:Nat):Int))then(let v5:=List.set x0 (x0_o+Int.toNat x131) y4.1
 let v6:=IntKind.i64.wrap (x131+(1:Int))
 f21 v5 x0_o x0_n x0_g x1 x5 x7 y4.2.1 x130 v6)
 else none)
 else none)
 else none)
 else(bif decide (0≤x5)&&decide (x5<((x0_n:Nat):Int))then(let v7:=List.getD x0 (x0_o+Int.toNat x5) (0:Int)
 let v8:=IntKind.u32.wrap (v7+x13)
 bif decide (0≤x5)&&decide (x5<((x0_n:Nat):Int))then(let v9:=List.set x0 (x0_o+Int.toNat x5) v8
 let v10:=IntKind.u32.wrap x7
 bif Nat.blt 0 x0_n&&true then(some ((v10,()),v9,x0_g))
 else none)
 else none)
 else none)
def e (f4:Dt43→Nat→Nat→(Nat×Nat)→Dt43→Int→Int→Int→Option ((Int×Unit)×List Int×(Nat×Nat)))(f10:Dt43→Nat→Nat→(Nat×Nat)→Dt43→Int→Int→Int→Int→Int→Int→Option ((Int×Unit)×List Int×(Nat×Nat)))(f21:Dt43→Nat→Nat→(Nat×Nat)→Dt43→Int→Int→Int→Int→Int→Option ((Int×Unit)×List Int×(Nat×Nat)))(zs:List Int)(o n:Nat)(g:Nat×Nat)(a1:Dt43):Option ((Int×Unit)×List Int×(Nat×Nat)):=
 let v1:=(List.length a1:Int)
 bif decide (0≤v1)&&decide (v1<((n:Nat):Int))then(let v2:=List.getD zs (o+Int.toNat v1) (0:Int)
 let v3:=IntKind.u64.wrap v2
 bif decide ((32:Int)<0)then none
 else(let v4:=shlI .u64 v3 (32:Int)
 let v5:=IntKind.i64.wrap (v1-(1:Int))
 bif decide (0≤v5)&&decide (v5<((n:Nat):Int))then(let v6:=List.getD zs (o+Int.toNat v5) (0:Int)
 let v7:=IntKind.u64.wrap v6
 let v8:=bitsOp .or .u64 v4 v7
 let v9:=IntKind.i64.wrap (v1-(1:Int))
 bif decide (0≤v9)&&decide (v9<(List.length a1:Int))then(let v10:=List.getD a1 (Int.toNat v9) (0:Int)
 let v11:=IntKind.u64.wrap v10
 bif decide (v11=0)then none
 else(let v12:=IntKind.u64.wrap (Int.tdiv v8 v11)
 let v13:=IntKind.i64.wrap (v1-(1:Int))
 bif decide (0≤v13)&&decide (v13<(List.length a1:Int))then(let v14:=List.getD a1 (Int.toNat v13) (0:Int)
 let v15:=IntKind.u64.wrap v14
 bif decide (v15=0)then none
 else(let v16:=Int.tmod v8 v15
 f4 zs o n g a1 v1 v12 v16))
 else none))
 else none)
 else none))
 else none
def L4 (k:Nat)(x0:Dt43)(x0_o:Nat)(x0_n:Nat)(x0_g:(Nat×Nat))(x1:Dt43)(x5:Int)(x7:Int)(x8:Int):Option ((Int×Unit)×List Int×(Nat×Nat)):=heads (spec.env cals T Tryz.f174) (Func.pts Tryz.f174) k 4 (m4 x0 x0_o x0_n x0_g x1 x5 x7 x8)
def L10 (k:Nat)(x0:Dt43)(x0_o:Nat)(x0_n:Nat)(x0_g:(Nat×Nat))(x1:Dt43)(x5:Int)(x7:Int)(x9:Int)(x10:Int)(x82:Int)(x83:Int):Option ((Int×Unit)×List Int×(Nat×Nat)):=heads (spec.env cals T Tryz.f174) (Func.pts Tryz.f174) k 10 (m10 x0 x0_o x0_n x0_g x1 x5 x7 x9 x10 x82 x83)
def L21 (k:Nat)(x0:Dt43)(x0_o:Nat)(x0_n:Nat)(x0_g:(Nat×Nat))(x1:Dt43)(x5:Int)(x7:Int)(x13:Int)(x130:Int)(x131:Int):Option ((Int×Unit)×List Int×(Nat×Nat)):=heads (spec.env cals T Tryz.f174) (Func.pts Tryz.f174) k 21 (m21 x0 x0_o x0_n x0_g x1 x5 x7 x13 x130 x131)
theorem L4_succ (k:Nat)(x0:Dt43)(x0_o:Nat)(x0_n:Nat)(x0_g:(Nat×Nat))(x1:Dt43)(x5:Int)(x7:Int)(x8:Int):L4 (k+1) x0 x0_o x0_n x0_g x1 x5 x7 x8=b4 (L4 k) (L10 k) (L21 k) x0 x0_o x0_n x0_g x1 x5 x7 x8:=by kernel_rfl
theorem L10_succ (k:Nat)(x0:Dt43)(x0_o:Nat)(x0_n:Nat)(x0_g:(Nat×Nat))(x1:Dt43)(x5:Int)(x7:Int)(x9:Int)(x10:Int)(x82:Int)(x83:Int):L10 (k+1) x0 x0_o x0_n x0_g x1 x5 x7 x9 x10 x82 x83=b10 (L4 k) (L10 k) (L21 k) x0 x0_o x0_n x0_g x1 x5 x7 x9 x10 x82 x83:=by kernel_rfl
theorem L21_succ (k:Nat)(x0:Dt43)(x0_o:Nat)(x0_n:Nat)(x0_g:(Nat×Nat))(x1:Dt43)(x5:Int)(x7:Int)(x13:Int)(x130:Int)(x131:Int):L21 (k+1) x0 x0_o x0_n x0_g x1 x5 x7 x13 x130 x131=b21 (L4 k) (L10 k) (L21 k) x0 x0_o x0_n x0_g x1 x5 x7 x13 x130 x131:=by kernel_rfl
theorem eval (k:Nat)(zs:List Int)(o n:Nat)(g:Nat×Nat)(a1:Dt43):evalIO spec cals T Tryz.f174 k zs o n g (a1,())=e (L4 k) (L10 k) (L21 k) zs o n g a1:=by kernel_rfl
theorem of (zs:List Int)(o n:Nat)(a1:Dt43)(y:(Int×Unit))(ws:List Int)(h:∀g,∃k,e (L4 k) (L10 k) (L21 k) zs o n g a1=some (y,ws,g)):F zs o n (a1,())=some (y,ws):=limIO_of (q:=spec) (C:=cals) (T:=T) (f:=Tryz.f174) (x:=(a1,())) y ws fun g=>(h g).imp fun k hk=>(eval k zs o n g a1).trans hk
end nat_digit
namespace nat_long
def spec:Spec:=⟨[(false,Kt43),(false,Kt43)],[(false,Kt43),(false,Kt43)],.own,fun j=>match j with|7=>[(6,.lf (.v true)),(7,.lf (.z 86 (.int .u32) true)),(8,.lf (.o 86 (.int .u32) true)),(9,.lf (.v true)),(10,.lf (.o 86 (.int .u32) true)),(11,.lf (.v true))]|12=>[(6,.lf (.v true)),(8,.lf (.o 86 (.int .u32) true)),(10,.lf (.o 86 (.int .u32) true)),(12,.lf (.o 86 (.int .u32) true)),(60,.lf (.v true)),(61,.lf (.v true))]|_=>[]⟩
def cals:Cals:=(Cals.withSubs [54] (Cals.consIo 174 nat_digit.sig (Cals.cons 172 bits_LeadingZeros32.sig (Cals.cons 173 nat_moved.sig (Cals.cons 149 nat_own.sig (Cals.base tabs))))))
def sig:Sig:=spec.sig cals T Tryz.f152
def F (x:Dt43×Dt43×Unit):Option (Dt43×Dt43×Unit):=limF spec cals T Tryz.f152 x
theorem ck:CalsOk Tryz.prog cals:=(CalsOk.withSubs [54] (CalsOk.consIo nat_digit.cal (CalsOk.cons bits_LeadingZeros32.cal (CalsOk.cons nat_moved.cal (CalsOk.cons nat_own.cal (CalsOk.base tabsOk))))))
theorem cal:CalOk Tryz.prog tabs 152 sig:=calOk_lim' tabOk ck mix Tryz.func152 (by kernel_rfl) (by kernel_rfl) (by kernel_rfl) (by kernel_rfl)
def m7 (x6:Int)(x7:Dt43)(x8:Dt43)(x9:Int)(x10:Dt43)(x11:Int):S:=⟨[(6,.one (.lf (.val true (.int .i64) x6))),(7,.one (.lf (.val true Kt43 x7))),(8,.one (.lf (.own 0))),(9,.one (.lf (.val true (.int .i64) x9))),(10,.one (.lf (.own 1))),(11,.one (.lf (.val true (.int .i64) x11)))],⟨[some ⟨86,(.int .u32),true,true,x8⟩,some ⟨86,(.int .u32),true,true,x10⟩],[]⟩⟩
def m12 (x6:Int)(x8:Dt43)(x10:Dt43)(x12:Dt43)(x60:Int)(x61:Int):S:=⟨[(6,.one (.lf (.val true (.int .i64) x6))),(8,.one (.lf (.own 0))),(10,.one (.lf (.own 1))),(12,.one (.lf (.own 2))),(60,.one (.lf (.val true (.int .i64) x60))),(61,.one (.lf (.val true (.int .i64) x61)))],⟨[some ⟨86,(.int .u32),true,true,x8⟩,some ⟨86,(.int .u32),true,true,x10⟩,some ⟨86,(.int .u32),true,true,x12⟩],[]⟩⟩
def b7 (f7:Int→Dt43→Dt43→Int→Dt43→Int→Option (Dt43×Dt43×Unit))(f12:Int→Dt43→Dt43→Dt43→Int→Int→Option (Dt43×Dt43×Unit))(x6:Int)(x7:Dt43)(x8:Dt43)(x9:Int)(x10:Dt43)(x11:Int):Option (Dt43×Dt43×Unit):=
 let v1:=decide (x11≥(0:Int))
 bif v1 then(let v2:=IntKind.i64.wrap (x11+x9)
 let v3:=IntKind.i64.wrap (v2+(1:Int))
 bif decide (0≤x11)&&(decide (x11≤v3)&&decide (v3≤(List.length x8:Int)))then(bif Nat.blt 0 (Int.toNat (v3-x11))&&true then((nat_digit.F x8 (Int.toNat x11) (Int.toNat (v3-x11)) (x7,())).bind fun y4=>
 bif Nat.beq (List.length y4.2) (List.length x8)then(bif decide (0≤x11)&&decide (x11<(List.length x10:Int))then(let v5:=List.set x10 (Int.toNat x11) y4.1.1
 let v6:=IntKind.i64.wrap (x11-(1:Int))
 f7 x6 x7 y4.2 x9 v5 v6)
 else none)
 else none)
 else none)
 else none)
 else(bif decide (0≤x9)&&(decide (x9≤x9)&&(decide (Int.toNat x9*4≤281474976710656)&&Nat.blt 0 4))then(let v7:=List.replicate (Int.toNat x9) (0:Int)
 f12 x6 x8 x10 v7 x9 (0:Int))
 else none)
def b12 (f7:Int→Dt43→Dt43→Int→Dt43→Int→Option (Dt43×Dt43×Unit))(f12:Int→Dt43→Dt43→Dt43→Int→Int→Option (Dt43×Dt43×Unit))(x6:Int)(x8:Dt43)(x10:Dt43)(x12:Dt43)(x60:Int)(x61:Int):Option (Dt43×Dt43×Unit):=
 let v1:=decide (x61<x60)
 bif v1 then(bif decide (0≤x61)&&decide (x61<(List.length x8:Int))then(let v2:=List.getD x8 (Int.toNat x61) (0:Int)
 bif decide (x6<0)then none
 else(let v3:=shrI .u32 v2 x6
 let v4:=IntKind.i64.wrap (x61+(1:Int))
 bif decide (0≤v4)&&decide (v4<(List.length x8:Int))then(let v5:=List.getD x8 (Int.toNat v4) (0:Int)
 let v6:=IntKind.u64.wrap v5
 let v7:=IntKind.i64.wrap ((32:Int)-x6)
 bif decide (v7<0)then none
 else(let v8:=shlI .u64 v6 v7
 let v9:=IntKind.u32.wrap v8
 let v10:=bitsOp .or .u32 v3 v9
 bif decide (0≤x61)&&decide (x61<(List.length x12:Int))then(let v11:=List.set x12 (Int.toNat x61) v10
 let v12:=IntKind.i64.wrap (x61+(1:Int))
 f12 x6 x8 x10 v11 x60 v12)
 else none))
 else none))
 else none)
 else((nat_own.F (x10,())).bind fun y13=>
 (nat_own.F (x12,())).bind fun y14=>
 some (y13.1,y14.1,()))
def e (f7:Int→Dt43→Dt43→Int→Dt43→Int→Option (Dt43×Dt43×Unit))(f12:Int→Dt43→Dt43→Dt43→Int→Int→Option (Dt43×Dt43×Unit))(a0:Dt43)(a1:Dt43):Option (Dt43×Dt43×Unit):=
 let v1:=(List.length a1:Int)
 let v2:=IntKind.i64.wrap (v1-(1:Int))
 bif decide (0≤v2)&&decide (v2<(List.length a1:Int))then(let v3:=List.getD a1 (Int.toNat v2) (0:Int)
 (bits_LeadingZeros32.F (v3,())).bind fun y4=>
 (nat_moved.F (a1,y4.1,())).bind fun y5=>
 let v6:=(List.length a1:Int)
 bif decide (0≤v6)&&decide (v6≤(List.length y5.1:Int))then(let v7:=List.take (Int.toNat v6) y5.1
 (nat_moved.F (a0,y4.1,())).bind fun y8=>
 let v9:=(List.length v7:Int)
 let v10:=(List.length y8.1:Int)
 let v11:=IntKind.i64.wrap (v10-v9)
 bif decide (0≤v11)&&(decide (v11≤v11)&&(decide (Int.toNat v11*4≤281474976710656)&&Nat.blt 0 4))then(let v12:=List.replicate (Int.toNat v11) (0:Int)
 let v13:=(List.length y8.1:Int)
 let v14:=IntKind.i64.wrap (v13-v9)
 let v15:=IntKind.i64.wrap (v14-(1:Int))
 f7 y4.1 v7 y8.1 v9 v12 v15)
 else none)
 else none)
 else none
def L7 (k:Nat)(x6:Int)(x7:Dt43)(x8:Dt43)(x9:Int)(x10:Dt43)(x11:Int):Option (Dt43×Dt43×Unit):=heads (spec.env cals T Tryz.f152) (Func.pts Tryz.f152) k 7 (m7 x6 x7 x8 x9 x10 x11)
def L12 (k:Nat)(x6:Int)(x8:Dt43)(x10:Dt43)(x12:Dt43)(x60:Int)(x61:Int):Option (Dt43×Dt43×Unit):=heads (spec.env cals T Tryz.f152) (Func.pts Tryz.f152) k 12 (m12 x6 x8 x10 x12 x60 x61)
theorem L7_succ (k:Nat)(x6:Int)(x7:Dt43)(x8:Dt43)(x9:Int)(x10:Dt43)(x11:Int):L7 (k+1) x6 x7 x8 x9 x10 x11=b7 (L7 k) (L12 k) x6 x7 x8 x9 x10 x11:=by kernel_rfl
theorem L12_succ (k:Nat)(x6:Int)(x8:Dt43)(x10:Dt43)(x12:Dt43)(x60:Int)(x61:Int):L12 (k+1) x6 x8 x10 x12 x60 x61=b12 (L7 k) (L12 k) x6 x8 x10 x12 x60 x61:=by kernel_rfl
theorem eval (k:Nat)(a0:Dt43)(a1:Dt43):evalF spec cals T Tryz.f152 k (a0,a1,())=e (L7 k) (L12 k) a0 a1:=by kernel_rfl
theorem of (k:Nat)(a0:Dt43)(a1:Dt43){y:Dt43×Dt43×Unit}(h:e (L7 k) (L12 k) a0 a1=some y):F (a0,a1,())=some y:=limF_of k ((eval k a0 a1).trans h)
end nat_long
namespace nat_Div
def spec:Spec:=⟨[(false,Kt43),(false,Kt43)],[(false,Kt43),(false,Kt43),(false,(.int .i64))],.own,fun j=>match j with|_=>[]⟩
def cals:Cals:=(Cals.cons 150 nat_trim.sig (Cals.cons 139 nat_Cmp.sig (Cals.cons 149 nat_own.sig (Cals.cons 151 nat_short.sig (Cals.cons 152 nat_long.sig (Cals.base tabs))))))
def sig:Sig:=spec.sig cals T Tryz.f112
def F (x:Dt43×Dt43×Unit):Option (Dt43×Dt43×Int×Unit):=limF spec cals T Tryz.f112 x
theorem ck:CalsOk Tryz.prog cals:=(CalsOk.cons nat_trim.cal (CalsOk.cons nat_Cmp.cal (CalsOk.cons nat_own.cal (CalsOk.cons nat_short.cal (CalsOk.cons nat_long.cal (CalsOk.base tabsOk))))))
theorem cal:CalOk Tryz.prog tabs 112 sig:=calOk_lim' tabOk ck mix Tryz.func112 (by kernel_rfl) (by kernel_rfl) (by kernel_rfl) (by kernel_rfl)
def e (a0:Dt43)(a1:Dt43):Option (Dt43×Dt43×Int×Unit):=
 (nat_trim.F (a0,())).bind fun y1=>
 (nat_trim.F (a1,())).bind fun y2=>
 let v3:=(List.length y2.1:Int)
 let v4:=(v3==(0:Int))
 bif v4 then(some (zt43,zt43,(11:Int),()))
 else((nat_Cmp.F (y1.1,y2.1,())).bind fun y5=>
 let v6:=decide (y5.1<(0:Int))
 bif v6 then((nat_own.F (y1.1,())).bind fun y7=>
 some (zt43,y7.1,(0:Int),()))
 else(let v8:=(List.length y2.1:Int)
 let v9:=(v8==(1:Int))
 bif v9 then(bif decide (0≤(0:Int))&&decide ((0:Int)<(List.length y2.1:Int))then(let v10:=List.getD y2.1 (Int.toNat (0:Int)) (0:Int)
 (nat_short.F (y1.1,v10,())).bind fun y11=>
 (nat_own.F (y11.1,())).bind fun y12=>
 let v13:=([y11.2.1]:List Int)
 (nat_own.F (v13,())).bind fun y14=>
 some (y12.1,y14.1,(0:Int),()))
 else none)
 else((nat_long.F (y1.1,y2.1,())).bind fun y15=>
 some (y15.1,y15.2.1,(0:Int),()))))
theorem eval (k:Nat)(a0:Dt43)(a1:Dt43):evalF spec cals T Tryz.f112 k (a0,a1,())=e a0 a1:=by kernel_rfl
theorem of (k:Nat)(a0:Dt43)(a1:Dt43){y:Dt43×Dt43×Int×Unit}(h:e a0 a1=some y):F (a0,a1,())=some y:=limF_of k ((eval k a0 a1).trans h)
end nat_Div
namespace nat_Gcd
def spec:Spec:=⟨[(false,Kt43),(false,Kt43)],[(false,Kt43)],.own,fun j=>match j with|2=>[(0,.lf (.o 86 (.int .u32) true)),(1,.lf (.o 86 (.int .u32) true))]|_=>[]⟩
def cals:Cals:=(Cals.cons 149 nat_own.sig (Cals.cons 112 nat_Div.sig (Cals.base tabs)))
def sig:Sig:=spec.sig cals T Tryz.f111
def F (x:Dt43×Dt43×Unit):Option (Dt43×Unit):=limF spec cals T Tryz.f111 x
theorem ck:CalsOk Tryz.prog cals:=(CalsOk.cons nat_own.cal (CalsOk.cons nat_Div.cal (CalsOk.base tabsOk)))
theorem cal:CalOk Tryz.prog tabs 111 sig:=calOk_lim' tabOk ck mix Tryz.func111 (by kernel_rfl) (by kernel_rfl) (by kernel_rfl) (by kernel_rfl)
def m2 (x0:Dt43)(x1:Dt43):S:=⟨[(0,.one (.lf (.own 0))),(1,.one (.lf (.own 1)))],⟨[some ⟨86,(.int .u32),true,true,x0⟩,some ⟨86,(.int .u32),true,true,x1⟩],[]⟩⟩
def b2 (f2:Dt43→Dt43→Option (Dt43×Unit))(x0:Dt43)(x1:Dt43):Option (Dt43×Unit):=
 let v1:=(List.length x1:Int)
 let v2:=decide (v1>(0:Int))
 bif v2 then((nat_Div.F (x0,x1,())).bind fun y3=>
 f2 x1 y3.2.1)
 else(some (x0,()))
def e (f2:Dt43→Dt43→Option (Dt43×Unit))(a0:Dt43)(a1:Dt43):Option (Dt43×Unit):=
 (nat_own.F (a0,())).bind fun y1=>
 (nat_own.F (a1,())).bind fun y2=>
 f2 y1.1 y2.1
def L2 (k:Nat)(x0:Dt43)(x1:Dt43):Option (Dt43×Unit):=heads (spec.env cals T Tryz.f111) (Func.pts Tryz.f111) k 2 (m2 x0 x1)
theorem L2_succ (k:Nat)(x0:Dt43)(x1:Dt43):L2 (k+1) x0 x1=b2 (L2 k) x0 x1:=by kernel_rfl
theorem eval (k:Nat)(a0:Dt43)(a1:Dt43):evalF spec cals T Tryz.f111 k (a0,a1,())=e (L2 k) a0 a1:=by kernel_rfl
theorem of (k:Nat)(a0:Dt43)(a1:Dt43){y:Dt43×Unit}(h:e (L2 k) a0 a1=some y):F (a0,a1,())=some y:=limF_of k ((eval k a0 a1).trans h)
end nat_Gcd
namespace whole_core
def spec:Spec:=⟨[(false,Kt43)],[(false,Kt43)],.shared,fun j=>match j with|2=>[(0,.lf (.z 86 (.int .u32) true)),(3,.lf (.v true))]|_=>[]⟩
def cals:Cals:=(Cals.base tabs)
def sig:Sig:=spec.sig cals T Tryz.f153
def F (x:Dt43×Unit):Option (Dt43×Unit):=limF spec cals T Tryz.f153 x
theorem ck:CalsOk Tryz.prog cals:=(CalsOk.base tabsOk)
theorem cal:CalOk Tryz.prog tabs 153 sig:=calOk_lim' tabOk ck mix Tryz.func153 (by kernel_rfl) (by kernel_rfl) (by kernel_rfl) (by kernel_rfl)
def m2 (x0:Dt43)(x3:Int):S:=⟨[(0,.one (.lf (.val true Kt43 x0))),(3,.one (.lf (.val true (.int .i64) x3)))],⟨[],[]⟩⟩
def b2 (f2:Dt43→Int→Option (Dt43×Unit))(x0:Dt43)(x3:Int):Option (Dt43×Unit):=
 let v1:=decide (x3>(0:Int))
 bif v1 then(let v2:=IntKind.i64.wrap (x3-(1:Int))
 bif decide (0≤v2)&&decide (v2<(List.length x0:Int))then(let v3:=List.getD x0 (Int.toNat v2) (0:Int)
 let v4:=(v3==(0:Int))
 bif v4 then(let v5:=IntKind.i64.wrap (x3-(1:Int))
 f2 x0 v5)
 else(bif decide (0≤x3)&&(decide (x3≤x3)&&decide (x3≤(List.length x0:Int)))then(let v6:=List.take (Int.toNat x3) x0
 some (v6,()))
 else none))
 else none)
 else(bif decide (0≤x3)&&(decide (x3≤x3)&&decide (x3≤(List.length x0:Int)))then(let v7:=List.take (Int.toNat x3) x0
 some (v7,()))
 else none)
def e (f2:Dt43→Int→Option (Dt43×Unit))(a0:Dt43):Option (Dt43×Unit):=
 let v1:=(List.length a0:Int)
 f2 a0 v1
def L2 (k:Nat)(x0:Dt43)(x3:Int):Option (Dt43×Unit):=heads (spec.env cals T Tryz.f153) (Func.pts Tryz.f153) k 2 (m2 x0 x3)
theorem L2_succ (k:Nat)(x0:Dt43)(x3:Int):L2 (k+1) x0 x3=b2 (L2 k) x0 x3:=by kernel_rfl
theorem eval (k:Nat)(a0:Dt43):evalF spec cals T Tryz.f153 k (a0,())=e (L2 k) a0:=by kernel_rfl
theorem of (k:Nat)(a0:Dt43){y:Dt43×Unit}(h:e (L2 k) a0=some y):F (a0,())=some y:=limF_of k ((eval k a0).trans h)
end whole_core
namespace whole_Sign
def spec:Spec:=⟨[(true,Kt45)],[(false,(.int .i64))],.own,fun j=>match j with|_=>[]⟩
def cals:Cals:=(Cals.cons 153 whole_core.sig (Cals.base tabs))
def sig:Sig:=spec.sig cals T Tryz.f116
def F (x:Dt45×Unit):Option (Int×Unit):=limF spec cals T Tryz.f116 x
theorem ck:CalsOk Tryz.prog cals:=(CalsOk.cons whole_core.cal (CalsOk.base tabsOk))
theorem cal:CalOk Tryz.prog tabs 116 sig:=calOk_lim' tabOk ck mix Tryz.func116 (by kernel_rfl) (by kernel_rfl) (by kernel_rfl) (by kernel_rfl)
def e (a0:Dt45):Option (Int×Unit):=
 (whole_core.F (a0.2,())).bind fun y1=>
 let v2:=(List.length y1.1:Int)
 let v3:=(v2==(0:Int))
 bif v3 then(some ((0:Int),()))
 else(bif a0.1 then(some ((-1:Int),()))
 else(some ((1:Int),())))
theorem eval (k:Nat)(a0:Dt45):evalF spec cals T Tryz.f116 k (a0,())=e a0:=by kernel_rfl
theorem of (k:Nat)(a0:Dt45){y:Int×Unit}(h:e a0=some y):F (a0,())=some y:=limF_of k ((eval k a0).trans h)
end whole_Sign
namespace nat_Norm
def spec:Spec:=⟨[(false,Kt43)],[(false,Kt43)],.own,fun j=>match j with|_=>[]⟩
def cals:Cals:=(Cals.cons 149 nat_own.sig (Cals.base tabs))
def sig:Sig:=spec.sig cals T Tryz.f168
def F (x:Dt43×Unit):Option (Dt43×Unit):=limF spec cals T Tryz.f168 x
theorem ck:CalsOk Tryz.prog cals:=(CalsOk.cons nat_own.cal (CalsOk.base tabsOk))
theorem cal:CalOk Tryz.prog tabs 168 sig:=calOk_lim' tabOk ck mix Tryz.func168 (by kernel_rfl) (by kernel_rfl) (by kernel_rfl) (by kernel_rfl)
def e (a0:Dt43):Option (Dt43×Unit):=
 (nat_own.F (a0,())).bind fun y1=>
 some (y1.1,())
theorem eval (k:Nat)(a0:Dt43):evalF spec cals T Tryz.f168 k (a0,())=e a0:=by kernel_rfl
theorem of (k:Nat)(a0:Dt43){y:Dt43×Unit}(h:e a0=some y):F (a0,())=some y:=limF_of k ((eval k a0).trans h)
end nat_Norm
namespace whole_signed
def spec:Spec:=⟨[(false,Kt43),(false,Kt37)],[(true,Kt45)],.own,fun j=>match j with|4=>[(0,.lf (.o 86 (.int .u32) true)),(4,.box 45 [.v true,.v true]),(5,.lf (.v true)),(10,.lf (.z 3 (.int .i64) false)),(11,.lf (.v true)),(12,.lf (.v true))]|_=>[]⟩
def cals:Cals:=(Cals.cons 168 nat_Norm.sig (Cals.base tabs))
def sig:Sig:=spec.sig cals T Tryz.f147
def F (x:Dt43×Dt43×Unit):Option (Dt45×Unit):=limF spec cals T Tryz.f147 x
theorem ck:CalsOk Tryz.prog cals:=(CalsOk.cons nat_Norm.cal (CalsOk.base tabsOk))
theorem cal:CalOk Tryz.prog tabs 147 sig:=calOk_lim' tabOk ck mix Tryz.func147 (by kernel_rfl) (by kernel_rfl) (by kernel_rfl) (by kernel_rfl)
def m4 (x0:Dt43)(x4_0:Bool)(x5:Int)(x10:Dt43)(x11:Int)(x12:Int):S:=⟨[(0,.one (.lf (.own 0))),(4,.box 0 0),(5,.one (.lf (.val true (.int .i64) x5))),(10,.one (.lf (.val false Kt37 x10))),(11,.one (.lf (.val true (.int .i64) x11))),(12,.one (.lf (.val true (.int .i64) x12)))],⟨[some ⟨86,(.int .u32),true,true,x0⟩],[some ⟨45,[.val true .bool x4_0,.nil]⟩]⟩⟩
def b4 (f4:Dt43→Bool→Int→Dt43→Int→Int→Option (Dt45×Unit))(x0:Dt43)(x4_0:Bool)(x5:Int)(x10:Dt43)(x11:Int)(x12:Int):Option (Dt45×Unit):=
 let v1:=decide (x12<x11)
 bif v1 then(bif decide (0≤x12)&&decide (x12<(List.length x10:Int))then(let v2:=List.getD x10 (Int.toNat x12) (0:Int)
 let v3:=IntKind.i64.wrap (x5*v2)
 let v4:=IntKind.i64.wrap (x12+(1:Int))
 f4 x0 x4_0 v3 x10 x11 v4)
 else none)
 else(let v5:=decide (x5<(0:Int))
 bif v5 then(let v6:=(List.length x0:Int)
 let v7:=decide (v6>(0:Int))
 some ((v7,x0),()))
 else(some ((false,x0),())))
def e (f4:Dt43→Bool→Int→Dt43→Int→Int→Option (Dt45×Unit))(a0:Dt43)(a1:Dt43):Option (Dt45×Unit):=
 (nat_Norm.F (a0,())).bind fun y1=>
 let v2:=(List.length a1:Int)
 f4 y1.1 false (1:Int) a1 v2 (0:Int)
def L4 (k:Nat)(x0:Dt43)(x4_0:Bool)(x5:Int)(x10:Dt43)(x11:Int)(x12:Int):Option (Dt45×Unit):=heads (spec.env cals T Tryz.f147) (Func.pts Tryz.f147) k 4 (m4 x0 x4_0 x5 x10 x11 x12)
theorem L4_succ (k:Nat)(x0:Dt43)(x4_0:Bool)(x5:Int)(x10:Dt43)(x11:Int)(x12:Int):L4 (k+1) x0 x4_0 x5 x10 x11 x12=b4 (L4 k) x0 x4_0 x5 x10 x11 x12:=by kernel_rfl
theorem eval (k:Nat)(a0:Dt43)(a1:Dt43):evalF spec cals T Tryz.f147 k (a0,a1,())=e (L4 k) a0 a1:=by kernel_rfl
theorem of (k:Nat)(a0:Dt43)(a1:Dt43){y:Dt45×Unit}(h:e (L4 k) a0 a1=some y):F (a0,a1,())=some y:=limF_of k ((eval k a0 a1).trans h)
end whole_signed
namespace whole_Norm
def spec:Spec:=⟨[(true,Kt45)],[(true,Kt45)],.own,fun j=>match j with|_=>[]⟩
def cals:Cals:=(Cals.cons 116 whole_Sign.sig (Cals.cons 147 whole_signed.sig (Cals.base tabs)))
def sig:Sig:=spec.sig cals T Tryz.f167
def F (x:Dt45×Unit):Option (Dt45×Unit):=limF spec cals T Tryz.f167 x
theorem ck:CalsOk Tryz.prog cals:=(CalsOk.cons whole_Sign.cal (CalsOk.cons whole_signed.cal (CalsOk.base tabsOk)))
theorem cal:CalOk Tryz.prog tabs 167 sig:=calOk_lim' tabOk ck mix Tryz.func167 (by kernel_rfl) (by kernel_rfl) (by kernel_rfl) (by kernel_rfl)
def e (a0:Dt45):Option (Dt45×Unit):=
 (whole_Sign.F ((a0.1,a0.2),())).bind fun y1=>
 let v2:=([y1.1]:List Int)
 (whole_signed.F (a0.2,v2,())).bind fun y3=>
 some ((y3.1.1,y3.1.2),())
theorem eval (k:Nat)(a0:Dt45):evalF spec cals T Tryz.f167 k (a0,())=e a0:=by kernel_rfl
theorem of (k:Nat)(a0:Dt45){y:Dt45×Unit}(h:e a0=some y):F (a0,())=some y:=limF_of k ((eval k a0).trans h)
end whole_Norm
namespace ratio_made
def spec:Spec:=⟨[(true,Kt45),(false,Kt43)],[(true,Kt47)],.own,fun j=>match j with|_=>[]⟩
def cals:Cals:=(Cals.cons 111 nat_Gcd.sig (Cals.cons 112 nat_Div.sig (Cals.cons 167 whole_Norm.sig (Cals.base tabs))))
def sig:Sig:=spec.sig cals T Tryz.f145
def F (x:Dt45×Dt43×Unit):Option (Dt47×Unit):=limF spec cals T Tryz.f145 x
theorem ck:CalsOk Tryz.prog cals:=(CalsOk.cons nat_Gcd.cal (CalsOk.cons nat_Div.cal (CalsOk.cons whole_Norm.cal (CalsOk.base tabsOk))))
theorem cal:CalOk Tryz.prog tabs 145 sig:=calOk_lim' tabOk ck mix Tryz.func145 (by kernel_rfl) (by kernel_rfl) (by kernel_rfl) (by kernel_rfl)
def e (a0:Dt45)(a1:Dt43):Option (Dt47×Unit):=
 (nat_Gcd.F (a0.2,a1,())).bind fun y1=>
 (nat_Div.F (a0.2,y1.1,())).bind fun y2=>
 (nat_Div.F (a1,y1.1,())).bind fun y3=>
 (whole_Norm.F ((a0.1,y2.1),())).bind fun y4=>
 some (((y4.1.1,y4.1.2),y3.1),())
theorem eval (k:Nat)(a0:Dt45)(a1:Dt43):evalF spec cals T Tryz.f145 k (a0,a1,())=e a0 a1:=by kernel_rfl
theorem of (k:Nat)(a0:Dt45)(a1:Dt43){y:Dt47×Unit}(h:e a0 a1=some y):F (a0,a1,())=some y:=limF_of k ((eval k a0 a1).trans h)
end ratio_made
namespace ratio_Norm
def spec:Spec:=⟨[(true,Kt47)],[(true,Kt47)],.own,fun j=>match j with|_=>[]⟩
def cals:Cals:=(Cals.cons 144 nat_Bits.sig (Cals.cons 145 ratio_made.sig (Cals.base tabs)))
def sig:Sig:=spec.sig cals T Tryz.f101
def F (x:Dt47×Unit):Option (Dt47×Unit):=limF spec cals T Tryz.f101 x
theorem ck:CalsOk Tryz.prog cals:=(CalsOk.cons nat_Bits.cal (CalsOk.cons ratio_made.cal (CalsOk.base tabsOk)))
theorem cal:CalOk Tryz.prog tabs 101 sig:=calOk_lim' tabOk ck mix Tryz.func101 (by kernel_rfl) (by kernel_rfl) (by kernel_rfl) (by kernel_rfl)
def e (a0:Dt47):Option (Dt47×Unit):=
 (nat_Bits.F (a0.2,())).bind fun y1=>
 let v2:=(y1.1==(0:Int))
 bif v2 then(let v3:=([(1:Int)]:List Int)
 some ((zt45,v3),()))
 else((ratio_made.F ((a0.1.1,a0.1.2),a0.2,())).bind fun y4=>
 some (((y4.1.1.1,y4.1.1.2),y4.1.2),()))
theorem eval (k:Nat)(a0:Dt47):evalF spec cals T Tryz.f101 k (a0,())=e a0:=by kernel_rfl
theorem of (k:Nat)(a0:Dt47){y:Dt47×Unit}(h:e a0=some y):F (a0,())=some y:=limF_of k ((eval k a0).trans h)
end ratio_Norm
namespace ratio_Sign
def spec:Spec:=⟨[(true,Kt47)],[(false,(.int .i64))],.own,fun j=>match j with|_=>[]⟩
def cals:Cals:=(Cals.cons 101 ratio_Norm.sig (Cals.cons 116 whole_Sign.sig (Cals.base tabs)))
def sig:Sig:=spec.sig cals T Tryz.f64
def F (x:Dt47×Unit):Option (Int×Unit):=limF spec cals T Tryz.f64 x
theorem ck:CalsOk Tryz.prog cals:=(CalsOk.cons ratio_Norm.cal (CalsOk.cons whole_Sign.cal (CalsOk.base tabsOk)))
theorem cal:CalOk Tryz.prog tabs 64 sig:=calOk_lim' tabOk ck mix Tryz.func64 (by kernel_rfl) (by kernel_rfl) (by kernel_rfl) (by kernel_rfl)
def e (a0:Dt47):Option (Int×Unit):=
 (ratio_Norm.F (((a0.1.1,a0.1.2),a0.2),())).bind fun y1=>
 (whole_Sign.F ((y1.1.1.1,y1.1.1.2),())).bind fun y2=>
 some (y2.1,())
theorem eval (k:Nat)(a0:Dt47):evalF spec cals T Tryz.f64 k (a0,())=e a0:=by kernel_rfl
theorem of (k:Nat)(a0:Dt47){y:Int×Unit}(h:e a0=some y):F (a0,())=some y:=limF_of k ((eval k a0).trans h)
end ratio_Sign
namespace linear_byVar
def spec:Spec:=⟨[(true,Kt73),(true,Kt73)],[(false,(.int .i64))],.own,fun j=>match j with|_=>[]⟩
def cals:Cals:=(Cals.base tabs)
def sig:Sig:=spec.sig cals T Tryz.f155
def F (x:Dt73×Dt73×Unit):Option (Int×Unit):=limF spec cals T Tryz.f155 x
theorem ck:CalsOk Tryz.prog cals:=(CalsOk.base tabsOk)
theorem cal:CalOk Tryz.prog tabs 155 sig:=calOk_lim' tabOk ck mix Tryz.func155 (by kernel_rfl) (by kernel_rfl) (by kernel_rfl) (by kernel_rfl)
def e (a0:Dt73)(a1:Dt73):Option (Int×Unit):=
 let v1:=decide (a0.1<a1.1)
 bif v1 then(some ((-1:Int),()))
 else(let v2:=decide (a0.1>a1.1)
 bif v2 then(some ((1:Int),()))
 else(some ((0:Int),())))
theorem eval (k:Nat)(a0:Dt73)(a1:Dt73):evalF spec cals T Tryz.f155 k (a0,a1,())=e a0 a1:=by kernel_rfl
theorem of (k:Nat)(a0:Dt73)(a1:Dt73){y:Int×Unit}(h:e a0 a1=some y):F (a0,a1,())=some y:=limF_of k ((eval k a0 a1).trans h)
end linear_byVar
namespace nat_Mul
def spec:Spec:=⟨[(false,Kt43),(false,Kt43)],[(false,Kt43)],.own,fun j=>match j with|4=>[(0,.lf (.z 86 (.int .u32) false)),(1,.lf (.z 86 (.int .u32) false)),(5,.lf (.o 86 (.int .u32) true)),(21,.lf (.v true)),(22,.lf (.v true))]|8=>[(0,.lf (.z 86 (.int .u32) false)),(1,.lf (.z 86 (.int .u32) false)),(5,.lf (.o 86 (.int .u32) true)),(6,.lf (.v true)),(7,.lf (.v true)),(21,.lf (.v true)),(22,.lf (.v true)),(26,.lf (.v true)),(27,.lf (.v true))]|_=>[]⟩
def cals:Cals:=(Cals.cons 150 nat_trim.sig (Cals.cons 149 nat_own.sig (Cals.base tabs)))
def sig:Sig:=spec.sig cals T Tryz.f113
def F (x:Dt43×Dt43×Unit):Option (Dt43×Unit):=limF spec cals T Tryz.f113 x
theorem ck:CalsOk Tryz.prog cals:=(CalsOk.cons nat_trim.cal (CalsOk.cons nat_own.cal (CalsOk.base tabsOk)))
theorem cal:CalOk Tryz.prog tabs 113 sig:=calOk_lim' tabOk ck mix Tryz.func113 (by kernel_rfl) (by kernel_rfl) (by kernel_rfl) (by kernel_rfl)
def m4 (x0:Dt43)(x1:Dt43)(x5:Dt43)(x21:Int)(x22:Int):S:=⟨[(0,.one (.lf (.val false Kt43 x0))),(1,.one (.lf (.val false Kt43 x1))),(5,.one (.lf (.own 0))),(21,.one (.lf (.val true (.int .i64) x21))),(22,.one (.lf (.val true (.int .i64) x22)))],⟨[some ⟨86,(.int .u32),true,true,x5⟩],[]⟩⟩
def m8 (x0:Dt43)(x1:Dt43)(x5:Dt43)(x6:Int)(x7:Int)(x21:Int)(x22:Int)(x26:Int)(x27:Int):S:=⟨[(0,.one (.lf (.val false Kt43 x0))),(1,.one (.lf (.val false Kt43 x1))),(5,.one (.lf (.own 0))),(6,.one (.lf (.val true (.int .i64) x6))),(7,.one (.lf (.val true (.int .u64) x7))),(21,.one (.lf (.val true (.int .i64) x21))),(22,.one (.lf (.val true (.int .i64) x22))),(26,.one (.lf (.val true (.int .i64) x26))),(27,.one (.lf (.val true (.int .i64) x27)))],⟨[some ⟨86,(.int .u32),true,true,x5⟩],[]⟩⟩
def b4 (f4:Dt43→Dt43→Dt43→Int→Int→Option (Dt43×Unit))(f8:Dt43→Dt43→Dt43→Int→Int→Int→Int→Int→Int→Option (Dt43×Unit))(x0:Dt43)(x1:Dt43)(x5:Dt43)(x21:Int)(x22:Int):Option (Dt43×Unit):=
 let v1:=decide (x22<x21)
 bif v1 then(let v2:=(List.length x1:Int)
 f8 x0 x1 x5 x22 (0:Int) x21 x22 v2 (0:Int))
 else((nat_own.F (x5,())).bind fun y3=>
 some (y3.1,()))
def b8 (f4:Dt43→Dt43→Dt43→Int→Int→Option (Dt43×Unit))(f8:Dt43→Dt43→Dt43→Int→Int→Int→Int→Int→Int→Option (Dt43×Unit))(x0:Dt43)(x1:Dt43)(x5:Dt43)(x6:Int)(x7:Int)(x21:Int)(x22:Int)(x26:Int)(x27:Int):Option (Dt43×Unit):=
 let v1:=decide (x27<x26)
 bif v1 then(bif decide (0≤x6)&&decide (x6<(List.length x0:Int))then(let v2:=List.getD x0 (Int.toNat x6) (0:Int)
 let v3:=IntKind.u64.wrap v2
 bif decide (0≤x27)&&decide (x27<(List.length x1:Int))then(let v4:=List.getD x1 (Int.toNat x27) (0:Int)
 let v5:=IntKind.u64.wrap v4
 let v6:=IntKind.u64.wrap (v3*v5)
 let v7:=IntKind.i64.wrap (x6+x27)
 bif decide (0≤v7)&&decide (v7<(List.length x5:Int))then(let v8:=List.getD x5 (Int.toNat v7) (0:Int)
 let v9:=IntKind.u64.wrap v8
 let v10:=IntKind.u64.wrap (v6+v9)
 let v11:=IntKind.u64.wrap (v10+x7)
 let v12:=IntKind.i64.wrap (x6+x27)
 let v13:=IntKind.u32.wrap v11
 bif decide (0≤v12)&&decide (v12<(List.length x5:Int))then(let v14:=List.set x5 (Int.toNat v12) v13
 bif decide ((32:Int)<0)then none
 else(let v15:=shrI .u64 v11 (32:Int)
 let v16:=IntKind.i64.wrap (x27+(1:Int))
 f8 x0 x1 v14 x6 v15 x21 x22 x26 v16))
 else none)
 else none)
 else none)
 else none)
 else(let v17:=(List.length x1:Int)
 let v18:=IntKind.i64.wrap (x6+v17)
 let v19:=IntKind.u32.wrap x7
 bif decide (0≤v18)&&decide (v18<(List.length x5:Int))then(let v20:=List.set x5 (Int.toNat v18) v19
 let v21:=IntKind.i64.wrap (x22+(1:Int))
 f4 x0 x1 v20 x21 v21)
 else none)
def e (f4:Dt43→Dt43→Dt43→Int→Int→Option (Dt43×Unit))(f8:Dt43→Dt43→Dt43→Int→Int→Int→Int→Int→Int→Option (Dt43×Unit))(a0:Dt43)(a1:Dt43):Option (Dt43×Unit):=
 (nat_trim.F (a0,())).bind fun y1=>
 (nat_trim.F (a1,())).bind fun y2=>
 let v3:=(List.length y1.1:Int)
 let v4:=(List.length y2.1:Int)
 let v5:=IntKind.i64.wrap (v3+v4)
 bif decide (0≤v5)&&(decide (v5≤v5)&&(decide (Int.toNat v5*4≤281474976710656)&&Nat.blt 0 4))then(let v6:=List.replicate (Int.toNat v5) (0:Int)
 let v7:=(List.length y1.1:Int)
 f4 y1.1 y2.1 v6 v7 (0:Int))
 else none
def L4 (k:Nat)(x0:Dt43)(x1:Dt43)(x5:Dt43)(x21:Int)(x22:Int):Option (Dt43×Unit):=heads (spec.env cals T Tryz.f113) (Func.pts Tryz.f113) k 4 (m4 x0 x1 x5 x21 x22)
def L8 (k:Nat)(x0:Dt43)(x1:Dt43)(x5:Dt43)(x6:Int)(x7:Int)(x21:Int)(x22:Int)(x26:Int)(x27:Int):Option (Dt43×Unit):=heads (spec.env cals T Tryz.f113) (Func.pts Tryz.f113) k 8 (m8 x0 x1 x5 x6 x7 x21 x22 x26 x27)
theorem L4_succ (k:Nat)(x0:Dt43)(x1:Dt43)(x5:Dt43)(x21:Int)(x22:Int):L4 (k+1) x0 x1 x5 x21 x22=b4 (L4 k) (L8 k) x0 x1 x5 x21 x22:=by kernel_rfl
theorem L8_succ (k:Nat)(x0:Dt43)(x1:Dt43)(x5:Dt43)(x6:Int)(x7:Int)(x21:Int)(x22:Int)(x26:Int)(x27:Int):L8 (k+1) x0 x1 x5 x6 x7 x21 x22 x26 x27=b8 (L4 k) (L8 k) x0 x1 x5 x6 x7 x21 x22 x26 x27:=by kernel_rfl
theorem eval (k:Nat)(a0:Dt43)(a1:Dt43):evalF spec cals T Tryz.f113 k (a0,a1,())=e (L4 k) (L8 k) a0 a1:=by kernel_rfl
theorem of (k:Nat)(a0:Dt43)(a1:Dt43){y:Dt43×Unit}(h:e (L4 k) (L8 k) a0 a1=some y):F (a0,a1,())=some y:=limF_of k ((eval k a0 a1).trans h)
end nat_Mul
namespace whole_Mul
def spec:Spec:=⟨[(true,Kt45),(true,Kt45)],[(true,Kt45)],.own,fun j=>match j with|_=>[]⟩
def cals:Cals:=(Cals.cons 113 nat_Mul.sig (Cals.cons 116 whole_Sign.sig (Cals.cons 147 whole_signed.sig (Cals.base tabs))))
def sig:Sig:=spec.sig cals T Tryz.f103
def F (x:Dt45×Dt45×Unit):Option (Dt45×Unit):=limF spec cals T Tryz.f103 x
theorem ck:CalsOk Tryz.prog cals:=(CalsOk.cons nat_Mul.cal (CalsOk.cons whole_Sign.cal (CalsOk.cons whole_signed.cal (CalsOk.base tabsOk))))
theorem cal:CalOk Tryz.prog tabs 103 sig:=calOk_lim' tabOk ck mix Tryz.func103 (by kernel_rfl) (by kernel_rfl) (by kernel_rfl) (by kernel_rfl)
def e (a0:Dt45)(a1:Dt45):Option (Dt45×Unit):=
 (nat_Mul.F (a0.2,a1.2,())).bind fun y1=>
 (whole_Sign.F ((a0.1,a0.2),())).bind fun y2=>
 (whole_Sign.F ((a1.1,a1.2),())).bind fun y3=>
 let v4:=([y2.1,y3.1]:List Int)
 (whole_signed.F (y1.1,v4,())).bind fun y5=>
 some ((y5.1.1,y5.1.2),())
theorem eval (k:Nat)(a0:Dt45)(a1:Dt45):evalF spec cals T Tryz.f103 k (a0,a1,())=e a0 a1:=by kernel_rfl
theorem of (k:Nat)(a0:Dt45)(a1:Dt45){y:Dt45×Unit}(h:e a0 a1=some y):F (a0,a1,())=some y:=limF_of k ((eval k a0 a1).trans h)
end whole_Mul
namespace nat_Add
def spec:Spec:=⟨[(false,Kt43),(false,Kt43)],[(false,Kt43)],.own,fun j=>match j with|6=>[(0,.lf (.z 86 (.int .u32) false)),(1,.lf (.z 86 (.int .u32) false)),(5,.lf (.o 86 (.int .u32) true)),(6,.lf (.v true)),(21,.lf (.v true)),(22,.lf (.v true))]|_=>[]⟩
def cals:Cals:=(Cals.cons 176 bits_Add32.sig (Cals.cons 149 nat_own.sig (Cals.base tabs)))
def sig:Sig:=spec.sig cals T Tryz.f169
def F (x:Dt43×Dt43×Unit):Option (Dt43×Unit):=limF spec cals T Tryz.f169 x
theorem ck:CalsOk Tryz.prog cals:=(CalsOk.cons bits_Add32.cal (CalsOk.cons nat_own.cal (CalsOk.base tabsOk)))
theorem cal:CalOk Tryz.prog tabs 169 sig:=calOk_lim' tabOk ck mix Tryz.func169 (by kernel_rfl) (by kernel_rfl) (by kernel_rfl) (by kernel_rfl)
def m6 (x0:Dt43)(x1:Dt43)(x5:Dt43)(x6:Int)(x21:Int)(x22:Int):S:=⟨[(0,.one (.lf (.val false Kt43 x0))),(1,.one (.lf (.val false Kt43 x1))),(5,.one (.lf (.own 0))),(6,.one (.lf (.val true (.int .u32) x6))),(21,.one (.lf (.val true (.int .i64) x21))),(22,.one (.lf (.val true (.int .i64) x22)))],⟨[some ⟨86,(.int .u32),true,true,x5⟩],[]⟩⟩
def b6 (f6:Dt43→Dt43→Dt43→Int→Int→Int→Option (Dt43×Unit))(x0:Dt43)(x1:Dt43)(x5:Dt43)(x6:Int)(x21:Int)(x22:Int):Option (Dt43×Unit):=
 let v1:=decide (x22<x21)
 bif v1 then(let v2:=(List.length x1:Int)
 let v3:=decide (x22<v2)
 bif v3 then(bif decide (0≤x22)&&decide (x22<(List.length x1:Int))then(let v4:=List.getD x1 (Int.toNat x22) (0:Int)
 bif decide (0≤x22)&&decide (x22<(List.length x0:Int))then(let v5:=List.getD x0 (Int.toNat x22) (0:Int)
 (bits_Add32.F (v5,v4,x6,())).bind fun y6=>
 bif decide (0≤x22)&&decide (x22<(List.length x5:Int))then(let v7:=List.set x5 (Int.toNat x22) y6.1
 let v8:=IntKind.i64.wrap (x22+(1:Int))
 f6 x0 x1 v7 y6.2.1 x21 v8)
 else none)
 else none)
 else none)
 else(bif decide (0≤x22)&&decide (x22<(List.length x0:Int))then(let v9:=List.getD x0 (Int.toNat x22) (0:Int)
 (bits_Add32.F (v9,(0:Int),x6,())).bind fun y10=>
 bif decide (0≤x22)&&decide (x22<(List.length x5:Int))then(let v11:=List.set x5 (Int.toNat x22) y10.1
 let v12:=IntKind.i64.wrap (x22+(1:Int))
 f6 x0 x1 v11 y10.2.1 x21 v12)
 else none)
 else none))
 else(let v13:=(List.length x0:Int)
 bif decide (0≤v13)&&decide (v13<(List.length x5:Int))then(let v14:=List.set x5 (Int.toNat v13) x6
 (nat_own.F (v14,())).bind fun y15=>
 some (y15.1,()))
 else none)
def e (f6:Dt43→Dt43→Dt43→Int→Int→Int→Option (Dt43×Unit))(a0:Dt43)(a1:Dt43):Option (Dt43×Unit):=
 let v1:=(List.length a0:Int)
 let v2:=(List.length a1:Int)
 let v3:=decide (v1<v2)
 bif v3 then(let v4:=(List.length a1:Int)
 let v5:=IntKind.i64.wrap (v4+(1:Int))
 bif decide (0≤v5)&&(decide (v5≤v5)&&(decide (Int.toNat v5*4≤281474976710656)&&Nat.blt 0 4))then(let v6:=List.replicate (Int.toNat v5) (0:Int)
 let v7:=(List.length a1:Int)
 f6 a1 a0 v6 (0:Int) v7 (0:Int))
 else none)
 else(let v8:=(List.length a0:Int)
 let v9:=IntKind.i64.wrap (v8+(1:Int))
 bif decide (0≤v9)&&(decide (v9≤v9)&&(decide (Int.toNat v9*4≤281474976710656)&&Nat.blt 0 4))then(let v10:=List.replicate (Int.toNat v9) (0:Int)
 let v11:=(List.length a0:Int)
 f6 a0 a1 v10 (0:Int) v11 (0:Int))
 else none)
def L6 (k:Nat)(x0:Dt43)(x1:Dt43)(x5:Dt43)(x6:Int)(x21:Int)(x22:Int):Option (Dt43×Unit):=heads (spec.env cals T Tryz.f169) (Func.pts Tryz.f169) k 6 (m6 x0 x1 x5 x6 x21 x22)
theorem L6_succ (k:Nat)(x0:Dt43)(x1:Dt43)(x5:Dt43)(x6:Int)(x21:Int)(x22:Int):L6 (k+1) x0 x1 x5 x6 x21 x22=b6 (L6 k) x0 x1 x5 x6 x21 x22:=by kernel_rfl
theorem eval (k:Nat)(a0:Dt43)(a1:Dt43):evalF spec cals T Tryz.f169 k (a0,a1,())=e (L6 k) a0 a1:=by kernel_rfl
theorem of (k:Nat)(a0:Dt43)(a1:Dt43){y:Dt43×Unit}(h:e (L6 k) a0 a1=some y):F (a0,a1,())=some y:=limF_of k ((eval k a0 a1).trans h)
end nat_Add
namespace nat_Sub
def spec:Spec:=⟨[(false,Kt43),(false,Kt43)],[(false,Kt43),(false,(.int .i64))],.own,fun j=>match j with|7=>[(0,.lf (.z 86 (.int .u32) false)),(1,.lf (.z 86 (.int .u32) false)),(6,.lf (.o 86 (.int .u32) true)),(7,.lf (.v true)),(20,.lf (.v true)),(21,.lf (.v true))]|_=>[]⟩
def cals:Cals:=(Cals.cons 139 nat_Cmp.sig (Cals.cons 150 nat_trim.sig (Cals.cons 177 bits_Sub32.sig (Cals.cons 149 nat_own.sig (Cals.base tabs)))))
def sig:Sig:=spec.sig cals T Tryz.f170
def F (x:Dt43×Dt43×Unit):Option (Dt43×Int×Unit):=limF spec cals T Tryz.f170 x
theorem ck:CalsOk Tryz.prog cals:=(CalsOk.cons nat_Cmp.cal (CalsOk.cons nat_trim.cal (CalsOk.cons bits_Sub32.cal (CalsOk.cons nat_own.cal (CalsOk.base tabsOk)))))
theorem cal:CalOk Tryz.prog tabs 170 sig:=calOk_lim' tabOk ck mix Tryz.func170 (by kernel_rfl) (by kernel_rfl) (by kernel_rfl) (by kernel_rfl)
def m7 (x0:Dt43)(x1:Dt43)(x6:Dt43)(x7:Int)(x20:Int)(x21:Int):S:=⟨[(0,.one (.lf (.val false Kt43 x0))),(1,.one (.lf (.val false Kt43 x1))),(6,.one (.lf (.own 0))),(7,.one (.lf (.val true (.int .u32) x7))),(20,.one (.lf (.val true (.int .i64) x20))),(21,.one (.lf (.val true (.int .i64) x21)))],⟨[some ⟨86,(.int .u32),true,true,x6⟩],[]⟩⟩
def b7 (f7:Dt43→Dt43→Dt43→Int→Int→Int→Option (Dt43×Int×Unit))(x0:Dt43)(x1:Dt43)(x6:Dt43)(x7:Int)(x20:Int)(x21:Int):Option (Dt43×Int×Unit):=
 let v1:=decide (x21<x20)
 bif v1 then(let v2:=(List.length x1:Int)
 let v3:=decide (x21<v2)
 bif v3 then(bif decide (0≤x21)&&decide (x21<(List.length x1:Int))then(let v4:=List.getD x1 (Int.toNat x21) (0:Int)
 bif decide (0≤x21)&&decide (x21<(List.length x0:Int))then(let v5:=List.getD x0 (Int.toNat x21) (0:Int)
 (bits_Sub32.F (v5,v4,x7,())).bind fun y6=>
 bif decide (0≤x21)&&decide (x21<(List.length x6:Int))then(let v7:=List.set x6 (Int.toNat x21) y6.1
 let v8:=IntKind.i64.wrap (x21+(1:Int))
 f7 x0 x1 v7 y6.2.1 x20 v8)
 else none)
 else none)
 else none)
 else(bif decide (0≤x21)&&decide (x21<(List.length x0:Int))then(let v9:=List.getD x0 (Int.toNat x21) (0:Int)
 (bits_Sub32.F (v9,(0:Int),x7,())).bind fun y10=>
 bif decide (0≤x21)&&decide (x21<(List.length x6:Int))then(let v11:=List.set x6 (Int.toNat x21) y10.1
 let v12:=IntKind.i64.wrap (x21+(1:Int))
 f7 x0 x1 v11 y10.2.1 x20 v12)
 else none)
 else none))
 else((nat_own.F (x6,())).bind fun y13=>
 some (y13.1,(0:Int),()))
def e (f7:Dt43→Dt43→Dt43→Int→Int→Int→Option (Dt43×Int×Unit))(a0:Dt43)(a1:Dt43):Option (Dt43×Int×Unit):=
 (nat_Cmp.F (a0,a1,())).bind fun y1=>
 let v2:=decide (y1.1<(0:Int))
 bif v2 then(some (zt43,(10:Int),()))
 else((nat_trim.F (a1,())).bind fun y3=>
 let v4:=(List.length a0:Int)
 bif decide (0≤v4)&&(decide (v4≤v4)&&(decide (Int.toNat v4*4≤281474976710656)&&Nat.blt 0 4))then(let v5:=List.replicate (Int.toNat v4) (0:Int)
 let v6:=(List.length a0:Int)
 f7 a0 y3.1 v5 (0:Int) v6 (0:Int))
 else none)
def L7 (k:Nat)(x0:Dt43)(x1:Dt43)(x6:Dt43)(x7:Int)(x20:Int)(x21:Int):Option (Dt43×Int×Unit):=heads (spec.env cals T Tryz.f170) (Func.pts Tryz.f170) k 7 (m7 x0 x1 x6 x7 x20 x21)
theorem L7_succ (k:Nat)(x0:Dt43)(x1:Dt43)(x6:Dt43)(x7:Int)(x20:Int)(x21:Int):L7 (k+1) x0 x1 x6 x7 x20 x21=b7 (L7 k) x0 x1 x6 x7 x20 x21:=by kernel_rfl
theorem eval (k:Nat)(a0:Dt43)(a1:Dt43):evalF spec cals T Tryz.f170 k (a0,a1,())=e (L7 k) a0 a1:=by kernel_rfl
theorem of (k:Nat)(a0:Dt43)(a1:Dt43){y:Dt43×Int×Unit}(h:e (L7 k) a0 a1=some y):F (a0,a1,())=some y:=limF_of k ((eval k a0 a1).trans h)
end nat_Sub
namespace whole_Add
def spec:Spec:=⟨[(true,Kt45),(true,Kt45)],[(true,Kt45)],.own,fun j=>match j with|_=>[]⟩
def cals:Cals:=(Cals.cons 116 whole_Sign.sig (Cals.cons 169 nat_Add.sig (Cals.cons 147 whole_signed.sig (Cals.cons 139 nat_Cmp.sig (Cals.cons 170 nat_Sub.sig (Cals.base tabs))))))
def sig:Sig:=spec.sig cals T Tryz.f148
def F (x:Dt45×Dt45×Unit):Option (Dt45×Unit):=limF spec cals T Tryz.f148 x
theorem ck:CalsOk Tryz.prog cals:=(CalsOk.cons whole_Sign.cal (CalsOk.cons nat_Add.cal (CalsOk.cons whole_signed.cal (CalsOk.cons nat_Cmp.cal (CalsOk.cons nat_Sub.cal (CalsOk.base tabsOk))))))
theorem cal:CalOk Tryz.prog tabs 148 sig:=calOk_lim' tabOk ck mix Tryz.func148 (by kernel_rfl) (by kernel_rfl) (by kernel_rfl) (by kernel_rfl)
def e (a0:Dt45)(a1:Dt45):Option (Dt45×Unit):=
 (whole_Sign.F ((a0.1,a0.2),())).bind fun y1=>
 (whole_Sign.F ((a1.1,a1.2),())).bind fun y2=>
 let v3:=IntKind.i64.wrap (y1.1*y2.1)
 let v4:=decide (v3≥(0:Int))
 bif v4 then((nat_Add.F (a0.2,a1.2,())).bind fun y5=>
 let v6:=bitsOp .or .i64 y1.1 y2.1
 let v7:=bitsOp .or .i64 v6 (1:Int)
 let v8:=([v7]:List Int)
 (whole_signed.F (y5.1,v8,())).bind fun y9=>
 some ((y9.1.1,y9.1.2),()))
 else((nat_Cmp.F (a0.2,a1.2,())).bind fun y10=>
 let v11:=decide (y10.1≥(0:Int))
 bif v11 then((nat_Sub.F (a0.2,a1.2,())).bind fun y12=>
 let v13:=([y1.1]:List Int)
 (whole_signed.F (y12.1,v13,())).bind fun y14=>
 some ((y14.1.1,y14.1.2),()))
 else((nat_Sub.F (a1.2,a0.2,())).bind fun y15=>
 let v16:=([y2.1]:List Int)
 (whole_signed.F (y15.1,v16,())).bind fun y17=>
 some ((y17.1.1,y17.1.2),())))
theorem eval (k:Nat)(a0:Dt45)(a1:Dt45):evalF spec cals T Tryz.f148 k (a0,a1,())=e a0 a1:=by kernel_rfl
theorem of (k:Nat)(a0:Dt45)(a1:Dt45){y:Dt45×Unit}(h:e a0 a1=some y):F (a0,a1,())=some y:=limF_of k ((eval k a0 a1).trans h)
end whole_Add
namespace ratio_Add
def spec:Spec:=⟨[(true,Kt47),(true,Kt47)],[(true,Kt47)],.own,fun j=>match j with|_=>[]⟩
def cals:Cals:=(Cals.cons 101 ratio_Norm.sig (Cals.cons 103 whole_Mul.sig (Cals.cons 148 whole_Add.sig (Cals.cons 113 nat_Mul.sig (Cals.cons 145 ratio_made.sig (Cals.base tabs))))))
def sig:Sig:=spec.sig cals T Tryz.f104
def F (x:Dt47×Dt47×Unit):Option (Dt47×Unit):=limF spec cals T Tryz.f104 x
theorem ck:CalsOk Tryz.prog cals:=(CalsOk.cons ratio_Norm.cal (CalsOk.cons whole_Mul.cal (CalsOk.cons whole_Add.cal (CalsOk.cons nat_Mul.cal (CalsOk.cons ratio_made.cal (CalsOk.base tabsOk))))))
theorem cal:CalOk Tryz.prog tabs 104 sig:=calOk_lim' tabOk ck mix Tryz.func104 (by kernel_rfl) (by kernel_rfl) (by kernel_rfl) (by kernel_rfl)
def e (a0:Dt47)(a1:Dt47):Option (Dt47×Unit):=
 (ratio_Norm.F (((a0.1.1,a0.1.2),a0.2),())).bind fun y1=>
 (ratio_Norm.F (((a1.1.1,a1.1.2),a1.2),())).bind fun y2=>
 (whole_Mul.F ((y1.1.1.1,y1.1.1.2),(false,y2.1.2),())).bind fun y3=>
 (whole_Mul.F ((y2.1.1.1,y2.1.1.2),(false,y1.1.2),())).bind fun y4=>
 (whole_Add.F ((y3.1.1,y3.1.2),(y4.1.1,y4.1.2),())).bind fun y5=>
 (nat_Mul.F (y1.1.2,y2.1.2,())).bind fun y6=>
 (ratio_made.F ((y5.1.1,y5.1.2),y6.1,())).bind fun y7=>
 some (((y7.1.1.1,y7.1.1.2),y7.1.2),())
theorem eval (k:Nat)(a0:Dt47)(a1:Dt47):evalF spec cals T Tryz.f104 k (a0,a1,())=e a0 a1:=by kernel_rfl
theorem of (k:Nat)(a0:Dt47)(a1:Dt47){y:Dt47×Unit}(h:e a0 a1=some y):F (a0,a1,())=some y:=limF_of k ((eval k a0 a1).trans h)
end ratio_Add
namespace linear_together
def spec:Spec:=⟨[(true,Kt73),(true,Kt73)],[(true,Kt73),(false,.bool)],.own,fun j=>match j with|_=>[]⟩
def cals:Cals:=(Cals.cons 104 ratio_Add.sig (Cals.cons 64 ratio_Sign.sig (Cals.base tabs)))
def sig:Sig:=spec.sig cals T Tryz.f156
def F (x:Dt73×Dt73×Unit):Option (Dt73×Bool×Unit):=limF spec cals T Tryz.f156 x
theorem ck:CalsOk Tryz.prog cals:=(CalsOk.cons ratio_Add.cal (CalsOk.cons ratio_Sign.cal (CalsOk.base tabsOk)))
theorem cal:CalOk Tryz.prog tabs 156 sig:=calOk_lim' tabOk ck mix Tryz.func156 (by kernel_rfl) (by kernel_rfl) (by kernel_rfl) (by kernel_rfl)
def e (a0:Dt73)(a1:Dt73):Option (Dt73×Bool×Unit):=
 (ratio_Add.F (((a0.2.1.1,a0.2.1.2),a0.2.2),((a1.2.1.1,a1.2.1.2),a1.2.2),())).bind fun y1=>
 (ratio_Sign.F (((y1.1.1.1,y1.1.1.2),y1.1.2),())).bind fun y2=>
 let v3:=(y2.1 != (0:Int))
 some ((a0.1,((y1.1.1.1,y1.1.1.2),y1.1.2)),v3,())
theorem eval (k:Nat)(a0:Dt73)(a1:Dt73):evalF spec cals T Tryz.f156 k (a0,a1,())=e a0 a1:=by kernel_rfl
theorem of (k:Nat)(a0:Dt73)(a1:Dt73){y:Dt73×Bool×Unit}(h:e a0 a1=some y):F (a0,a1,())=some y:=limF_of k ((eval k a0 a1).trans h)
end linear_together
namespace linear_merge_Mono
def spec:XSpec:=⟨none,false,[(false,Kt40),(false,Kt40),(false,(.fnc 155)),(false,(.fnc 156))],false,none,[(false,Kt40)],true,fun j=>match j with|2=>[(0,.lf (.z 73 Kt73 true)),(1,.lf (.z 73 Kt73 true)),(2,.lf (.v true)),(3,.lf (.v true)),(9,.lf (.o 73 Kt73 true))]|_=>[]⟩
def cals:Cals:=(Cals.cons 155 linear_byVar.sig (Cals.cons 156 linear_together.sig (Cals.base tabs)))
def sig:XSig:=spec.sig cals T Tryz.f154
def F (d:Unit)(x:Dt40×Dt40×Unit×Unit×Unit):Option (Unit×(Dt40×Unit)×Unit):=limX spec cals T Tryz.f154 d x
theorem ck:CalsOk Tryz.prog cals:=(CalsOk.cons linear_byVar.cal (CalsOk.cons linear_together.cal (CalsOk.base tabsOk)))
theorem cal:XOk Tryz.prog tabs 154 sig:=xok_of tabOk ck mix Tryz.func154 (by kernel_rfl) (by kernel_rfl) (by kernel_rfl) (by kernel_rfl)
def m2 (x0:Dt40)(x1:Dt40)(x2:Unit)(x3:Unit)(x9:Dt40):S:=⟨[(0,.one (.lf (.val true Kt40 x0))),(1,.one (.lf (.val true Kt40 x1))),(2,.one (.lf (.val true (.fnc 155) x2))),(3,.one (.lf (.val true (.fnc 156) x3))),(9,.one (.lf (.own 0)))],⟨[some ⟨73,Kt73,true,true,x9⟩],[]⟩⟩
def b2 (f2:Dt40→Dt40→Unit→Unit→Dt40→Option ((Unit×(Dt40×Unit)×Unit)×Nat×List Value))(x0:Dt40)(x1:Dt40)(x2:Unit)(x3:Unit)(x9:Dt40):Option ((Unit×(Dt40×Unit)×Unit)×Nat×List Value):=
 let v1:=(List.length x0:Int)
 let v2:=decide (v1>(0:Int))
 bif v2 then(let v3:=(List.length x1:Int)
 let v4:=decide (v3>(0:Int))
 bif v4 then(bif decide (0≤(0:Int))&&decide ((0:Int)<(List.length x0:Int))then(let v5:=(List.getD x0 (Int.toNat (0:Int)) zt73).1
 let v6:=(((List.getD x0 (Int.toNat (0:Int)) zt73).2).1).1
 let v7:=(((List.getD x0 (Int.toNat (0:Int)) zt73).2).1).2
 let v8:=((List.getD x0 (Int.toNat (0:Int)) zt73).2).2
 bif decide (0≤(0:Int))&&decide ((0:Int)<(List.length x1:Int))then(let v9:=(List.getD x1 (Int.toNat (0:Int)) zt73).1
 let v10:=(((List.getD x1 (Int.toNat (0:Int)) zt73).2).1).1
 let v11:=(((List.getD x1 (Int.toNat (0:Int)) zt73).2).1).2
 let v12:=((List.getD x1 (Int.toNat (0:Int)) zt73).2).2
 (linear_byVar.F ((v5,((v6,v7),v8)),(v9,((v10,v11),v12)),())).bind fun y13=>
 let v14:=decide (y13.1<(0:Int))
 bif v14 then(bif decide (0≤(0:Int))&&decide ((0:Int)<(List.length x0:Int))then(let v15:=(List.getD x0 (Int.toNat (0:Int)) zt73).1
 let v16:=(((List.getD x0 (Int.toNat (0:Int)) zt73).2).1).1
 let v17:=(((List.getD x0 (Int.toNat (0:Int)) zt73).2).1).2
 let v18:=((List.getD x0 (Int.toNat (0:Int)) zt73).2).2
 let v19:=([(v15,((v16,v17),v18))]:List Dt73)
 bif decide (List.length x9+List.length v19<2199023255552)then(let v20:=List.append x9 v19
 bif decide (0≤(1:Int))&&decide ((1:Int)≤(List.length x0:Int))then(let v21:=List.drop (Int.toNat (1:Int)) x0
 f2 v21 x1 x2 x3 v20)
 else none)
 else none)
 else none)
 else(let v22:=decide (y13.1>(0:Int))
 bif v22 then(bif decide (0≤(0:Int))&&decide ((0:Int)<(List.length x1:Int))then(let v23:=(List.getD x1 (Int.toNat (0:Int)) zt73).1
 let v24:=(((List.getD x1 (Int.toNat (0:Int)) zt73).2).1).1
 let v25:=(((List.getD x1 (Int.toNat (0:Int)) zt73).2).1).2
 let v26:=((List.getD x1 (Int.toNat (0:Int)) zt73).2).2
 let v27:=([(v23,((v24,v25),v26))]:List Dt73)
 bif decide (List.length x9+List.length v27<2199023255552)then(let v28:=List.append x9 v27
 bif decide (0≤(1:Int))&&decide ((1:Int)≤(List.length x1:Int))then(let v29:=List.drop (Int.toNat (1:Int)) x1
 f2 x0 v29 x2 x3 v28)
 else none)
 else none)
 else none)
 else(bif decide (0≤(0:Int))&&decide ((0:Int)<(List.length x0:Int))then(let v30:=(List.getD x0 (Int.toNat (0:Int)) zt73).1
 let v31:=(((List.getD x0 (Int.toNat (0:Int)) zt73).2).1).1
 let v32:=(((List.getD x0 (Int.toNat (0:Int)) zt73).2).1).2
 let v33:=((List.getD x0 (Int.toNat (0:Int)) zt73).2).2
 bif decide (0≤(0:Int))&&decide ((0:Int)<(List.length x1:Int))then(let v34:=(List.getD x1 (Int.toNat (0:Int)) zt73).1
 let v35:=(((List.getD x1 (Int.toNat (0:Int)) zt73).2).1).1
 let v36:=(((List.getD x1 (Int.toNat (0:Int)) zt73).2).1).2
 let v37:=((List.getD x1 (Int.toNat (0:Int)) zt73).2).2
 (linear_together.F ((v30,((v31,v32),v33)),(v34,((v35,v36),v37)),())).bind fun y38=>
 bif y38.2.1 then(let v39:=([(y38.1.1,((y38.1.2.1.1,y38.1.2.1.2),y38.1.2.2))]:List Dt73)
 bif decide (List.length x9+List.length v39<2199023255552)then(let v40:=List.append x9 v39
 bif decide (0≤(1:Int))&&decide ((1:Int)≤(List.length x0:Int))then(let v41:=List.drop (Int.toNat (1:Int)) x0
 bif decide (0≤(1:Int))&&decide ((1:Int)≤(List.length x1:Int))then(let v42:=List.drop (Int.toNat (1:Int)) x1
 f2 v41 v42 x2 x3 v40)
 else none)
 else none)
 else none)
 else(bif decide (0≤(1:Int))&&decide ((1:Int)≤(List.length x0:Int))then(let v43:=List.drop (Int.toNat (1:Int)) x0
 bif decide (0≤(1:Int))&&decide ((1:Int)≤(List.length x1:Int))then(let v44:=List.drop (Int.toNat (1:Int)) x1
 f2 v43 v44 x2 x3 x9)
 else none)
 else none))
 else none)
 else none)))
 else none)
 else none)
 else(bif decide (List.length x9+List.length x0<2199023255552)then(let v45:=List.append x9 x0
 bif decide (List.length v45+List.length x1<2199023255552)then(let v46:=List.append v45 x1
 some (((),(v46,()),()),0,[]))
 else none)
 else none))
 else(bif decide (List.length x9+List.length x0<2199023255552)then(let v47:=List.append x9 x0
 bif decide (List.length v47+List.length x1<2199023255552)then(let v48:=List.append v47 x1
 some (((),(v48,()),()),0,[]))
 else none)
 else none)
def e (f2:Dt40→Dt40→Unit→Unit→Dt40→Option ((Unit×(Dt40×Unit)×Unit)×Nat×List Value))(G:Gh)(d:Unit)(a0:Dt40)(a1:Dt40)(a2:Unit)(a3:Unit):Option ((Unit×(Dt40×Unit)×Unit)×Nat×List Value):=
 f2 a0 a1 a2 a3 zt40
def L2 (k:Nat)(x0:Dt40)(x1:Dt40)(x2:Unit)(x3:Unit)(x9:Dt40):Option ((Unit×(Dt40×Unit)×Unit)×Nat×List Value):=heads (spec.env cals T Tryz.f154) (Func.pts Tryz.f154) k 2 (m2 x0 x1 x2 x3 x9)
theorem L2_succ (k:Nat)(x0:Dt40)(x1:Dt40)(x2:Unit)(x3:Unit)(x9:Dt40):L2 (k+1) x0 x1 x2 x3 x9=b2 (L2 k) x0 x1 x2 x3 x9:=by kernel_rfl
theorem eval (k:Nat)(G:Gh)(d:Unit)(a0:Dt40)(a1:Dt40)(a2:Unit)(a3:Unit):evalX spec cals T Tryz.f154 k G d (a0,a1,a2,a3,())=e (L2 k) G d a0 a1 a2 a3:=by kernel_rfl
theorem of (d:Unit)(a0:Dt40)(a1:Dt40)(a2:Unit)(a3:Unit)(y:(Unit×(Dt40×Unit)×Unit))(h:∀G:Gh,∃k:Nat,e (L2 k) G d a0 a1 a2 a3=some (y,(0,[]))):F d (a0,a1,a2,a3,())=some y:=limX_of (q:=spec) (C:=cals) (T:=T) (f:=Tryz.f154) (d:=d) (x:=(a0,a1,a2,a3,())) y fun G=>(h G).imp fun k hk=>(eval k G d a0 a1 a2 a3).trans hk
end linear_merge_Mono
namespace linear_sum
def spec:XSpec:=⟨none,false,[(false,Kt40),(false,Kt40)],false,none,[(false,Kt40)],true,fun j=>match j with|_=>[]⟩
def cals:Cals:=(Cals.consX 154 false linear_merge_Mono.sig (Cals.base tabs))
def sig:XSig:=spec.sig cals T Tryz.f120
def F (d:Unit)(x:Dt40×Dt40×Unit):Option (Unit×(Dt40×Unit)×Unit):=limX spec cals T Tryz.f120 d x
theorem ck:CalsOk Tryz.prog cals:=(CalsOk.consX linear_merge_Mono.cal (CalsOk.base tabsOk))
theorem cal:XOk Tryz.prog tabs 120 sig:=xok_of tabOk ck mix Tryz.func120 (by kernel_rfl) (by kernel_rfl) (by kernel_rfl) (by kernel_rfl)
def e (G:Gh)(d:Unit)(a0:Dt40)(a1:Dt40):Option ((Unit×(Dt40×Unit)×Unit)×Nat×List Value):=
 (linear_merge_Mono.F () (a0,a1,(),(),())).bind fun y1=>
 some (((),(y1.2.1.1,()),()),0,[])
theorem eval (k:Nat)(G:Gh)(d:Unit)(a0:Dt40)(a1:Dt40):evalX spec cals T Tryz.f120 k G d (a0,a1,())=e G d a0 a1:=by kernel_rfl
theorem of (d:Unit)(a0:Dt40)(a1:Dt40)(y:(Unit×(Dt40×Unit)×Unit))(h:∀G:Gh,∃k:Nat,e G d a0 a1=some (y,(0,[]))):F d (a0,a1,())=some y:=limX_of (q:=spec) (C:=cals) (T:=T) (f:=Tryz.f120) (d:=d) (x:=(a0,a1,())) y fun G=>(h G).imp fun k hk=>(eval k G d a0 a1).trans hk
end linear_sum
namespace linear_Norm
def spec:Spec:=⟨[(false,Kt40)],[(false,Kt40)],.own,fun j=>match j with|_=>[]⟩
def base:Cals:=(Cals.consX 120 false linear_sum.sig (Cals.cons 64 ratio_Sign.sig (Cals.cons 101 ratio_Norm.sig (Cals.base tabs))))
theorem ckb:CalsOk Tryz.prog base:=(CalsOk.consX linear_sum.cal (CalsOk.cons ratio_Sign.cal (CalsOk.cons ratio_Norm.cal (CalsOk.base tabsOk))))
def Fr (n:Nat)(x:Dt40×Unit):Option (Dt40×Unit):=recF spec base T Tryz.f70 70 n x
def meas (x:Dt40×Unit):Nat:=List.length x.1+1
def F (x:Dt40×Unit):Option (Dt40×Unit):=Fr (meas x) x
def sig:Sig:=⟨spec.ps,spec.rs,spec.md,F⟩
theorem cal:CalOk Tryz.prog tabs 70 sig:=calOk_deep (ps:=spec.ps) (rs:=spec.rs) (md:=spec.md) (F:=Fr) (fun n=>calOk_rec tabOk ckb mix Tryz.func70 (by kernel_rfl) (by kernel_rfl) (by kernel_rfl) (by kernel_rfl) n) meas
def e (self:(Dt40×Unit)→Option (Dt40×Unit))(a0:Dt40):Option (Dt40×Unit):=
 let v1:=(List.length a0:Int)
 let v2:=(v1==(0:Int))
 bif v2 then(some (zt40,()))
 else(let v3:=(v1==(1:Int))
 bif v3 then(bif decide (0≤(0:Int))&&decide ((0:Int)<(List.length a0:Int))then(let v4:=(((List.getD a0 (Int.toNat (0:Int)) zt73).2).1).1
 let v5:=(((List.getD a0 (Int.toNat (0:Int)) zt73).2).1).2
 let v6:=((List.getD a0 (Int.toNat (0:Int)) zt73).2).2
 (ratio_Sign.F (((v4,v5),v6),())).bind fun y7=>
 let v8:=(y7.1==(0:Int))
 bif v8 then(some (zt40,()))
 else(bif decide (0≤(0:Int))&&decide ((0:Int)<(List.length a0:Int))then(let v9:=(List.getD a0 (Int.toNat (0:Int)) zt73).1
 bif decide (0≤(0:Int))&&decide ((0:Int)<(List.length a0:Int))then(let v10:=(((List.getD a0 (Int.toNat (0:Int)) zt73).2).1).1
 let v11:=(((List.getD a0 (Int.toNat (0:Int)) zt73).2).1).2
 let v12:=((List.getD a0 (Int.toNat (0:Int)) zt73).2).2
 (ratio_Norm.F (((v10,v11),v12),())).bind fun y13=>
 let v14:=([(v9,((y13.1.1.1,y13.1.1.2),y13.1.2))]:List Dt73)
 some (v14,()))
 else none)
 else none))
 else none)
 else(let v15:=(List.length a0:Int)
 bif decide ((2:Int)=0)then none
 else(let v16:=IntKind.i64.wrap (Int.tdiv v15 (2:Int))
 bif decide (0≤v16)&&decide (v16≤(List.length a0:Int))then(let v17:=List.take (Int.toNat v16) a0
 (self (v17,())).bind fun y18=>
 bif decide (0≤v16)&&decide (v16≤(List.length a0:Int))then(let v19:=List.drop (Int.toNat v16) a0
 (self (v19,())).bind fun y20=>
 (linear_sum.F () (y18.1,y20.1,())).bind fun y21=>
 some (y21.2.1.1,()))
 else none)
 else none)))
theorem eval (k n:Nat)(a0:Dt40):evalF spec (recC spec base T Tryz.f70 70 n) T Tryz.f70 k (a0,())=e (Fr n) a0:=by kernel_rfl
theorem of (k n:Nat)(a0:Dt40){y:Dt40×Unit}(h:e (Fr n) a0=some y):Fr (n+1) (a0,())=some y:=recF_of k ((eval k n a0).trans h)
end linear_Norm
namespace nat_Text
def spec:Spec:=⟨[(false,Kt43),(false,(.int .i64))],[(false,.str),(false,(.int .i64))],.own,fun j=>match j with|5=>[(1,.lf (.v false)),(6,.lf (.o 5 (.int .u8) true)),(7,.lf (.z 86 (.int .u32) true))]|14=>[(6,.lf (.o 5 (.int .u8) true)),(9,.lf (.o 5 (.int .u8) true)),(43,.lf (.v true)),(44,.lf (.v true))]|_=>[]⟩
def cals:Cals:=(Cals.cons 149 nat_own.sig (Cals.cons 151 nat_short.sig (Cals.cons 150 nat_trim.sig (Cals.base tabs))))
def sig:Sig:=spec.sig cals T Tryz.f164
def F (x:Dt43×Int×Unit):Option (ByteArray×Int×Unit):=limF spec cals T Tryz.f164 x
theorem ck:CalsOk Tryz.prog cals:=(CalsOk.cons nat_own.cal (CalsOk.cons nat_short.cal (CalsOk.cons nat_trim.cal (CalsOk.base tabsOk))))
theorem cal:CalOk Tryz.prog tabs 164 sig:=calOk_lim' tabOk ck mix Tryz.func164 (by kernel_rfl) (by kernel_rfl) (by kernel_rfl) (by kernel_rfl)
def m5 (x1:Int)(x6:Dt43)(x7:Dt43):S:=⟨[(1,.one (.lf (.val false (.int .i64) x1))),(6,.one (.lf (.own 0))),(7,.one (.lf (.val true Kt43 x7)))],⟨[some ⟨5,(.int .u8),true,true,x6⟩],[]⟩⟩
def m14 (x6:Dt43)(x9:Dt43)(x43:Int)(x44:Int):S:=⟨[(6,.one (.lf (.own 0))),(9,.one (.lf (.own 1))),(43,.one (.lf (.val true (.int .i64) x43))),(44,.one (.lf (.val true (.int .i64) x44)))],⟨[some ⟨5,(.int .u8),true,true,x6⟩,some ⟨5,(.int .u8),true,true,x9⟩],[]⟩⟩
def b5 (f5:Int→Dt43→Dt43→Option (ByteArray×Int×Unit))(f14:Dt43→Dt43→Int→Int→Option (ByteArray×Int×Unit))(x1:Int)(x6:Dt43)(x7:Dt43):Option (ByteArray×Int×Unit):=
 let v1:=(List.length x7:Int)
 let v2:=decide (v1>(0:Int))
 bif v2 then(let v3:=IntKind.u32.wrap x1
 (nat_short.F (x7,v3,())).bind fun y4=>
 (nat_trim.F (y4.1,())).bind fun y5=>
 bif decide (0≤y4.2.1)&&decide (y4.2.1<(ByteArray.size (⟨#[48,49,50,51,52,53,54,55,56,57,97,98,99,100,101,102]⟩:ByteArray):Int))then(let v6:=btI (⟨#[48,49,50,51,52,53,54,55,56,57,97,98,99,100,101,102]⟩:ByteArray) y4.2.1
 let v7:=([v6]:List Int)
 bif decide (List.length x6+List.length v7<140737488355328)then(let v8:=List.append x6 v7
 f5 x1 v8 y5.1)
 else none)
 else none)
 else(let v9:=(List.length x6:Int)
 let v10:=(v9==(0:Int))
 bif v10 then(some ((⟨#[48]⟩:ByteArray),(0:Int),()))
 else(let v11:=(List.length x6:Int)
 bif decide (0≤v11)&&(decide (v11≤v11)&&(decide (Int.toNat v11*1≤281474976710656)&&Nat.blt 0 1))then(let v12:=List.replicate (Int.toNat v11) (0:Int)
 let v13:=(List.length x6:Int)
 f14 x6 v12 v13 (0:Int))
 else none))
def b14 (f5:Int→Dt43→Dt43→Option (ByteArray×Int×Unit))(f14:Dt43→Dt43→Int→Int→Option (ByteArray×Int×Unit))(x6:Dt43)(x9:Dt43)(x43:Int)(x44:Int):Option (ByteArray×Int×Unit):=
 let v1:=decide (x44<x43)
 bif v1 then(let v2:=(List.length x6:Int)
 let v3:=IntKind.i64.wrap (v2-(1:Int))
 let v4:=IntKind.i64.wrap (v3-x44)
 bif decide (0≤x44)&&decide (x44<(List.length x6:Int))then(let v5:=List.getD x6 (Int.toNat x44) (0:Int)
 bif decide (0≤v4)&&decide (v4<(List.length x9:Int))then(let v6:=List.set x9 (Int.toNat v4) v5
 let v7:=IntKind.i64.wrap (x44+(1:Int))
 f14 x6 v6 x43 v7)
 else none)
 else none)
 else(let v8:=strOfNums x9
 some (v8,(0:Int),()))
def e (f5:Int→Dt43→Dt43→Option (ByteArray×Int×Unit))(f14:Dt43→Dt43→Int→Int→Option (ByteArray×Int×Unit))(a0:Dt43)(a1:Int):Option (ByteArray×Int×Unit):=
 let v1:=decide (a1<(2:Int))
 bif v1 then(some ((⟨#[]⟩:ByteArray),(14:Int),()))
 else(let v2:=decide (a1>(16:Int))
 bif v2 then(some ((⟨#[]⟩:ByteArray),(14:Int),()))
 else((nat_own.F (a0,())).bind fun y3=>
 f5 a1 zt43 y3.1))
def L5 (k:Nat)(x1:Int)(x6:Dt43)(x7:Dt43):Option (ByteArray×Int×Unit):=heads (spec.env cals T Tryz.f164) (Func.pts Tryz.f164) k 5 (m5 x1 x6 x7)
def L14 (k:Nat)(x6:Dt43)(x9:Dt43)(x43:Int)(x44:Int):Option (ByteArray×Int×Unit):=heads (spec.env cals T Tryz.f164) (Func.pts Tryz.f164) k 14 (m14 x6 x9 x43 x44)
theorem L5_succ (k:Nat)(x1:Int)(x6:Dt43)(x7:Dt43):L5 (k+1) x1 x6 x7=b5 (L5 k) (L14 k) x1 x6 x7:=by kernel_rfl
theorem L14_succ (k:Nat)(x6:Dt43)(x9:Dt43)(x43:Int)(x44:Int):L14 (k+1) x6 x9 x43 x44=b14 (L5 k) (L14 k) x6 x9 x43 x44:=by kernel_rfl
theorem eval (k:Nat)(a0:Dt43)(a1:Int):evalF spec cals T Tryz.f164 k (a0,a1,())=e (L5 k) (L14 k) a0 a1:=by kernel_rfl
theorem of (k:Nat)(a0:Dt43)(a1:Int){y:ByteArray×Int×Unit}(h:e (L5 k) (L14 k) a0 a1=some y):F (a0,a1,())=some y:=limF_of k ((eval k a0 a1).trans h)
end nat_Text
namespace whole_Text
def spec:Spec:=⟨[(true,Kt45)],[(false,.str)],.own,fun j=>match j with|_=>[]⟩
def cals:Cals:=(Cals.cons 164 nat_Text.sig (Cals.cons 116 whole_Sign.sig (Cals.base tabs)))
def sig:Sig:=spec.sig cals T Tryz.f138
def F (x:Dt45×Unit):Option (ByteArray×Unit):=limF spec cals T Tryz.f138 x
theorem ck:CalsOk Tryz.prog cals:=(CalsOk.cons nat_Text.cal (CalsOk.cons whole_Sign.cal (CalsOk.base tabsOk)))
theorem cal:CalOk Tryz.prog tabs 138 sig:=calOk_lim' tabOk ck mix Tryz.func138 (by kernel_rfl) (by kernel_rfl) (by kernel_rfl) (by kernel_rfl)
def e (a0:Dt45):Option (ByteArray×Unit):=
 (nat_Text.F (a0.2,(10:Int),())).bind fun y1=>
 (whole_Sign.F ((a0.1,a0.2),())).bind fun y2=>
 let v3:=decide (y2.1<(0:Int))
 bif v3 then(bif decide ((⟨#[45]⟩:ByteArray).size+y1.1.size≤9223372036854775807)then(let v4:=(⟨#[45]⟩:ByteArray)++y1.1
 some (v4,()))
 else none)
 else(some (y1.1,()))
theorem eval (k:Nat)(a0:Dt45):evalF spec cals T Tryz.f138 k (a0,())=e a0:=by kernel_rfl
theorem of (k:Nat)(a0:Dt45){y:ByteArray×Unit}(h:e a0=some y):F (a0,())=some y:=limF_of k ((eval k a0).trans h)
end whole_Text
namespace ratio_decimal
def spec:Spec:=⟨[(false,Kt43)],[(false,.str)],.own,fun j=>match j with|_=>[]⟩
def cals:Cals:=(Cals.cons 164 nat_Text.sig (Cals.base tabs))
def sig:Sig:=spec.sig cals T Tryz.f140
def F (x:Dt43×Unit):Option (ByteArray×Unit):=limF spec cals T Tryz.f140 x
theorem ck:CalsOk Tryz.prog cals:=(CalsOk.cons nat_Text.cal (CalsOk.base tabsOk))
theorem cal:CalOk Tryz.prog tabs 140 sig:=calOk_lim' tabOk ck mix Tryz.func140 (by kernel_rfl) (by kernel_rfl) (by kernel_rfl) (by kernel_rfl)
def e (a0:Dt43):Option (ByteArray×Unit):=
 (nat_Text.F (a0,(10:Int),())).bind fun y1=>
 some (y1.1,())
theorem eval (k:Nat)(a0:Dt43):evalF spec cals T Tryz.f140 k (a0,())=e a0:=by kernel_rfl
theorem of (k:Nat)(a0:Dt43){y:ByteArray×Unit}(h:e a0=some y):F (a0,())=some y:=limF_of k ((eval k a0).trans h)
end ratio_decimal
namespace ratio_Text
def spec:Spec:=⟨[(true,Kt47)],[(false,.str)],.own,fun j=>match j with|_=>[]⟩
def cals:Cals:=(Cals.cons 101 ratio_Norm.sig (Cals.cons 138 whole_Text.sig (Cals.cons 139 nat_Cmp.sig (Cals.cons 140 ratio_decimal.sig (Cals.base tabs)))))
def sig:Sig:=spec.sig cals T Tryz.f96
def F (x:Dt47×Unit):Option (ByteArray×Unit):=limF spec cals T Tryz.f96 x
theorem ck:CalsOk Tryz.prog cals:=(CalsOk.cons ratio_Norm.cal (CalsOk.cons whole_Text.cal (CalsOk.cons nat_Cmp.cal (CalsOk.cons ratio_decimal.cal (CalsOk.base tabsOk)))))
theorem cal:CalOk Tryz.prog tabs 96 sig:=calOk_lim' tabOk ck mix Tryz.func96 (by kernel_rfl) (by kernel_rfl) (by kernel_rfl) (by kernel_rfl)
def e (a0:Dt47):Option (ByteArray×Unit):=
 (ratio_Norm.F (((a0.1.1,a0.1.2),a0.2),())).bind fun y1=>
 (whole_Text.F ((y1.1.1.1,y1.1.1.2),())).bind fun y2=>
 let v3:=([(1:Int)]:List Int)
 (nat_Cmp.F (y1.1.2,v3,())).bind fun y4=>
 let v5:=(y4.1 != (0:Int))
 bif v5 then((ratio_decimal.F (y1.1.2,())).bind fun y6=>
 bif decide ((⟨#[47]⟩:ByteArray).size+y6.1.size≤9223372036854775807)then(let v7:=(⟨#[47]⟩:ByteArray)++y6.1
 bif decide (y2.1.size+v7.size≤9223372036854775807)then(let v8:=y2.1++v7
 some (v8,()))
 else none)
 else none)
 else(some (y2.1,()))
theorem eval (k:Nat)(a0:Dt47):evalF spec cals T Tryz.f96 k (a0,())=e a0:=by kernel_rfl
theorem of (k:Nat)(a0:Dt47){y:ByteArray×Unit}(h:e a0=some y):F (a0,())=some y:=limF_of k ((eval k a0).trans h)
end ratio_Text
namespace nat_Of
def spec:Spec:=⟨[(false,(.int .u64))],[(false,Kt43)],.own,fun j=>match j with|_=>[]⟩
def cals:Cals:=(Cals.cons 149 nat_own.sig (Cals.base tabs))
def sig:Sig:=spec.sig cals T Tryz.f110
def F (x:Int×Unit):Option (Dt43×Unit):=limF spec cals T Tryz.f110 x
theorem ck:CalsOk Tryz.prog cals:=(CalsOk.cons nat_own.cal (CalsOk.base tabsOk))
theorem cal:CalOk Tryz.prog tabs 110 sig:=calOk_lim' tabOk ck mix Tryz.func110 (by kernel_rfl) (by kernel_rfl) (by kernel_rfl) (by kernel_rfl)
def e (a0:Int):Option (Dt43×Unit):=
 let v1:=IntKind.u32.wrap a0
 bif decide ((32:Int)<0)then none
 else(let v2:=shrI .u64 a0 (32:Int)
 let v3:=IntKind.u32.wrap v2
 let v4:=([v1,v3]:List Int)
 (nat_own.F (v4,())).bind fun y5=>
 some (y5.1,()))
theorem eval (k:Nat)(a0:Int):evalF spec cals T Tryz.f110 k (a0,())=e a0:=by kernel_rfl
theorem of (k:Nat)(a0:Int){y:Dt43×Unit}(h:e a0=some y):F (a0,())=some y:=limF_of k ((eval k a0).trans h)
end nat_Of
namespace whole_Of
def spec:Spec:=⟨[(false,(.int .i64))],[(true,Kt45)],.own,fun j=>match j with|_=>[]⟩
def cals:Cals:=(Cals.cons 110 nat_Of.sig (Cals.cons 147 whole_signed.sig (Cals.base tabs)))
def sig:Sig:=spec.sig cals T Tryz.f109
def F (x:Int×Unit):Option (Dt45×Unit):=limF spec cals T Tryz.f109 x
theorem ck:CalsOk Tryz.prog cals:=(CalsOk.cons nat_Of.cal (CalsOk.cons whole_signed.cal (CalsOk.base tabsOk)))
theorem cal:CalOk Tryz.prog tabs 109 sig:=calOk_lim' tabOk ck mix Tryz.func109 (by kernel_rfl) (by kernel_rfl) (by kernel_rfl) (by kernel_rfl)
def e (a0:Int):Option (Dt45×Unit):=
 let v1:=decide (a0<(0:Int))
 bif v1 then(let v2:=IntKind.u64.wrap a0
 let v3:=negI .u64 v2
 (nat_Of.F (v3,())).bind fun y4=>
 let v5:=([(-1:Int)]:List Int)
 (whole_signed.F (y4.1,v5,())).bind fun y6=>
 some ((y6.1.1,y6.1.2),()))
 else(let v7:=IntKind.u64.wrap a0
 (nat_Of.F (v7,())).bind fun y8=>
 (whole_signed.F (y8.1,zt43,())).bind fun y9=>
 some ((y9.1.1,y9.1.2),()))
theorem eval (k:Nat)(a0:Int):evalF spec cals T Tryz.f109 k (a0,())=e a0:=by kernel_rfl
theorem of (k:Nat)(a0:Int){y:Dt45×Unit}(h:e a0=some y):F (a0,())=some y:=limF_of k ((eval k a0).trans h)
end whole_Of
namespace linear_Text
def spec:Spec:=⟨[(false,Kt40)],[(false,.str)],.own,fun j=>match j with|3=>[(3,.lf (.v true)),(7,.lf (.o 73 Kt73 true)),(8,.lf (.v true)),(9,.lf (.v true))]|_=>[]⟩
def cals:Cals:=(Cals.cons 70 linear_Norm.sig (Cals.cons 96 ratio_Text.sig (Cals.cons 109 whole_Of.sig (Cals.cons 138 whole_Text.sig (Cals.base tabs)))))
def sig:Sig:=spec.sig cals T Tryz.f95
def F (x:Dt40×Unit):Option (ByteArray×Unit):=limF spec cals T Tryz.f95 x
theorem ck:CalsOk Tryz.prog cals:=(CalsOk.cons linear_Norm.cal (CalsOk.cons ratio_Text.cal (CalsOk.cons whole_Of.cal (CalsOk.cons whole_Text.cal (CalsOk.base tabsOk)))))
theorem cal:CalOk Tryz.prog tabs 95 sig:=calOk_lim' tabOk ck mix Tryz.func95 (by kernel_rfl) (by kernel_rfl) (by kernel_rfl) (by kernel_rfl)
def m3 (x3:ByteArray)(x7:Dt40)(x8:Int)(x9:Int):S:=⟨[(3,.one (.lf (.val true .str x3))),(7,.one (.lf (.own 0))),(8,.one (.lf (.val true (.int .i64) x8))),(9,.one (.lf (.val true (.int .i64) x9)))],⟨[some ⟨73,Kt73,true,true,x7⟩],[]⟩⟩
def b3 (f3:ByteArray→Dt40→Int→Int→Option (ByteArray×Unit))(x3:ByteArray)(x7:Dt40)(x8:Int)(x9:Int):Option (ByteArray×Unit):=
 let v1:=decide (x9<x8)
 bif v1 then(bif decide (0≤x9)&&decide (x9<(List.length x7:Int))then(let v2:=(List.getD x7 (Int.toNat x9) zt73).1
 let v3:=(((List.getD x7 (Int.toNat x9) zt73).2).1).1
 let v4:=(((List.getD x7 (Int.toNat x9) zt73).2).1).2
 let v5:=((List.getD x7 (Int.toNat x9) zt73).2).2
 let v6:=decide (x9>(0:Int))
 bif v6 then(bif decide (x3.size+(⟨#[43]⟩:ByteArray).size≤9223372036854775807)then(let v7:=x3++(⟨#[43]⟩:ByteArray)
 (ratio_Text.F (((v3,v4),v5),())).bind fun y8=>
 bif decide (y8.1.size+(⟨#[42,120]⟩:ByteArray).size≤9223372036854775807)then(let v9:=y8.1++(⟨#[42,120]⟩:ByteArray)
 (whole_Of.F (v2,())).bind fun y10=>
 (whole_Text.F ((y10.1.1,y10.1.2),())).bind fun y11=>
 bif decide (v9.size+y11.1.size≤9223372036854775807)then(let v12:=v9++y11.1
 bif decide (v7.size+v12.size≤9223372036854775807)then(let v13:=v7++v12
 let v14:=IntKind.i64.wrap (x9+(1:Int))
 f3 v13 x7 x8 v14)
 else none)
 else none)
 else none)
 else none)
 else((ratio_Text.F (((v3,v4),v5),())).bind fun y15=>
 bif decide (y15.1.size+(⟨#[42,120]⟩:ByteArray).size≤9223372036854775807)then(let v16:=y15.1++(⟨#[42,120]⟩:ByteArray)
 (whole_Of.F (v2,())).bind fun y17=>
 (whole_Text.F ((y17.1.1,y17.1.2),())).bind fun y18=>
 bif decide (v16.size+y18.1.size≤9223372036854775807)then(let v19:=v16++y18.1
 bif decide (x3.size+v19.size≤9223372036854775807)then(let v20:=x3++v19
 let v21:=IntKind.i64.wrap (x9+(1:Int))
 f3 v20 x7 x8 v21)
 else none)
 else none)
 else none))
 else none)
 else(let v22:=(x3.toList==(⟨#[]⟩:ByteArray).toList)
 bif v22 then(some ((⟨#[48]⟩:ByteArray),()))
 else(some (x3,())))
def e (f3:ByteArray→Dt40→Int→Int→Option (ByteArray×Unit))(a0:Dt40):Option (ByteArray×Unit):=
 (linear_Norm.F (a0,())).bind fun y1=>
 let v2:=(List.length y1.1:Int)
 f3 (⟨#[]⟩:ByteArray) y1.1 v2 (0:Int)
def L3 (k:Nat)(x3:ByteArray)(x7:Dt40)(x8:Int)(x9:Int):Option (ByteArray×Unit):=heads (spec.env cals T Tryz.f95) (Func.pts Tryz.f95) k 3 (m3 x3 x7 x8 x9)
theorem L3_succ (k:Nat)(x3:ByteArray)(x7:Dt40)(x8:Int)(x9:Int):L3 (k+1) x3 x7 x8 x9=b3 (L3 k) x3 x7 x8 x9:=by kernel_rfl
theorem eval (k:Nat)(a0:Dt40):evalF spec cals T Tryz.f95 k (a0,())=e (L3 k) a0:=by kernel_rfl
theorem of (k:Nat)(a0:Dt40){y:ByteArray×Unit}(h:e (L3 k) a0=some y):F (a0,())=some y:=limF_of k ((eval k a0).trans h)
end linear_Text
namespace atoms_key
def spec:Spec:=⟨[(true,Kt69)],[(false,.str)],.own,fun j=>match j with|_=>[]⟩
def cals:Cals:=(Cals.cons 95 linear_Text.sig (Cals.cons 96 ratio_Text.sig (Cals.base tabs)))
def sig:Sig:=spec.sig cals T Tryz.f66
def F (x:Dt69×Unit):Option (ByteArray×Unit):=limF spec cals T Tryz.f66 x
theorem ck:CalsOk Tryz.prog cals:=(CalsOk.cons linear_Text.cal (CalsOk.cons ratio_Text.cal (CalsOk.base tabsOk)))
theorem cal:CalOk Tryz.prog tabs 66 sig:=calOk_lim' tabOk ck mix Tryz.func66 (by kernel_rfl) (by kernel_rfl) (by kernel_rfl) (by kernel_rfl)
def e (a0:Dt69):Option (ByteArray×Unit):=
 bif a0.2.2.2 then((linear_Text.F (a0.2.1,())).bind fun y1=>
 bif decide ((⟨#[60]⟩:ByteArray).size+y1.1.size≤9223372036854775807)then(let v2:=(⟨#[60]⟩:ByteArray)++y1.1
 bif decide (v2.size+(⟨#[32]⟩:ByteArray).size≤9223372036854775807)then(let v3:=v2++(⟨#[32]⟩:ByteArray)
 (ratio_Text.F (((a0.2.2.1.1.1,a0.2.2.1.1.2),a0.2.2.1.2),())).bind fun y4=>
 bif decide (v3.size+y4.1.size≤9223372036854775807)then(let v5:=v3++y4.1
 bif decide (v5.size+(⟨#[32]⟩:ByteArray).size≤9223372036854775807)then(let v6:=v5++(⟨#[32]⟩:ByteArray)
 bif decide (v6.size+a0.1.size≤9223372036854775807)then(let v7:=v6++a0.1
 some (v7,()))
 else none)
 else none)
 else none)
 else none)
 else none)
 else((linear_Text.F (a0.2.1,())).bind fun y8=>
 bif decide ((⟨#[61]⟩:ByteArray).size+y8.1.size≤9223372036854775807)then(let v9:=(⟨#[61]⟩:ByteArray)++y8.1
 bif decide (v9.size+(⟨#[32]⟩:ByteArray).size≤9223372036854775807)then(let v10:=v9++(⟨#[32]⟩:ByteArray)
 (ratio_Text.F (((a0.2.2.1.1.1,a0.2.2.1.1.2),a0.2.2.1.2),())).bind fun y11=>
 bif decide (v10.size+y11.1.size≤9223372036854775807)then(let v12:=v10++y11.1
 bif decide (v12.size+(⟨#[32]⟩:ByteArray).size≤9223372036854775807)then(let v13:=v12++(⟨#[32]⟩:ByteArray)
 bif decide (v13.size+a0.1.size≤9223372036854775807)then(let v14:=v13++a0.1
 some (v14,()))
 else none)
 else none)
 else none)
 else none)
 else none)
theorem eval (k:Nat)(a0:Dt69):evalF spec cals T Tryz.f66 k (a0,())=e a0:=by kernel_rfl
theorem of (k:Nat)(a0:Dt69){y:ByteArray×Unit}(h:e a0=some y):F (a0,())=some y:=limF_of k ((eval k a0).trans h)
end atoms_key
namespace slices_Equal_Nat
def spec:Spec:=⟨[(false,Kt43),(false,Kt43)],[(false,.bool)],.own,fun j=>match j with|4=>[(0,.lf (.z 86 (.int .u32) false)),(1,.lf (.z 86 (.int .u32) false)),(12,.lf (.v true)),(13,.lf (.v true))]|_=>[]⟩
def cals:Cals:=(Cals.base tabs)
def sig:Sig:=spec.sig cals T Tryz.f162
def F (x:Dt43×Dt43×Unit):Option (Bool×Unit):=limF spec cals T Tryz.f162 x
theorem ck:CalsOk Tryz.prog cals:=(CalsOk.base tabsOk)
theorem cal:CalOk Tryz.prog tabs 162 sig:=calOk_lim' tabOk ck mix Tryz.func162 (by kernel_rfl) (by kernel_rfl) (by kernel_rfl) (by kernel_rfl)
def m4 (x0:Dt43)(x1:Dt43)(x12:Int)(x13:Int):S:=⟨[(0,.one (.lf (.val false Kt43 x0))),(1,.one (.lf (.val false Kt43 x1))),(12,.one (.lf (.val true (.int .i64) x12))),(13,.one (.lf (.val true (.int .i64) x13)))],⟨[],[]⟩⟩
def b4 (f4:Dt43→Dt43→Int→Int→Option (Bool×Unit))(x0:Dt43)(x1:Dt43)(x12:Int)(x13:Int):Option (Bool×Unit):=
 let v1:=decide (x13<x12)
 bif v1 then(bif decide (0≤x13)&&decide (x13<(List.length x0:Int))then(let v2:=List.getD x0 (Int.toNat x13) (0:Int)
 bif decide (0≤x13)&&decide (x13<(List.length x1:Int))then(let v3:=List.getD x1 (Int.toNat x13) (0:Int)
 let v4:=(v2 != v3)
 bif v4 then(some (false,()))
 else(let v5:=IntKind.i64.wrap (x13+(1:Int))
 f4 x0 x1 x12 v5))
 else none)
 else none)
 else(some (true,()))
def e (f4:Dt43→Dt43→Int→Int→Option (Bool×Unit))(a0:Dt43)(a1:Dt43):Option (Bool×Unit):=
 let v1:=(List.length a0:Int)
 let v2:=(List.length a1:Int)
 let v3:=(v1 != v2)
 bif v3 then(some (false,()))
 else(let v4:=(List.length a0:Int)
 f4 a0 a1 v4 (0:Int))
def L4 (k:Nat)(x0:Dt43)(x1:Dt43)(x12:Int)(x13:Int):Option (Bool×Unit):=heads (spec.env cals T Tryz.f162) (Func.pts Tryz.f162) k 4 (m4 x0 x1 x12 x13)
theorem L4_succ (k:Nat)(x0:Dt43)(x1:Dt43)(x12:Int)(x13:Int):L4 (k+1) x0 x1 x12 x13=b4 (L4 k) x0 x1 x12 x13:=by kernel_rfl
theorem eval (k:Nat)(a0:Dt43)(a1:Dt43):evalF spec cals T Tryz.f162 k (a0,a1,())=e (L4 k) a0 a1:=by kernel_rfl
theorem of (k:Nat)(a0:Dt43)(a1:Dt43){y:Bool×Unit}(h:e (L4 k) a0 a1=some y):F (a0,a1,())=some y:=limF_of k ((eval k a0 a1).trans h)
end slices_Equal_Nat
namespace atoms_sameRat
def spec:Spec:=⟨[(true,Kt47),(true,Kt47)],[(false,.bool)],.own,fun j=>match j with|_=>[]⟩
def cals:Cals:=(Cals.cons 162 slices_Equal_Nat.sig (Cals.base tabs))
def sig:Sig:=spec.sig cals T Tryz.f132
def F (x:Dt47×Dt47×Unit):Option (Bool×Unit):=limF spec cals T Tryz.f132 x
theorem ck:CalsOk Tryz.prog cals:=(CalsOk.cons slices_Equal_Nat.cal (CalsOk.base tabsOk))
theorem cal:CalOk Tryz.prog tabs 132 sig:=calOk_lim' tabOk ck mix Tryz.func132 (by kernel_rfl) (by kernel_rfl) (by kernel_rfl) (by kernel_rfl)
def e (a0:Dt47)(a1:Dt47):Option (Bool×Unit):=
 let v1:=(a0.1.1==a1.1.1)
 bif v1 then((slices_Equal_Nat.F (a0.1.2,a1.1.2,())).bind fun y2=>
 bif y2.1 then((slices_Equal_Nat.F (a0.2,a1.2,())).bind fun y3=>
 some (y3.1,()))
 else(some (false,())))
 else(some (false,()))
theorem eval (k:Nat)(a0:Dt47)(a1:Dt47):evalF spec cals T Tryz.f132 k (a0,a1,())=e a0 a1:=by kernel_rfl
theorem of (k:Nat)(a0:Dt47)(a1:Dt47){y:Bool×Unit}(h:e a0 a1=some y):F (a0,a1,())=some y:=limF_of k ((eval k a0 a1).trans h)
end atoms_sameRat
namespace atoms_sameForm_1
def spec:Spec:=⟨[(true,Kt73),(true,Kt73)],[(false,.bool)],.own,fun j=>match j with|_=>[]⟩
def cals:Cals:=(Cals.cons 132 atoms_sameRat.sig (Cals.base tabs))
def sig:Sig:=spec.sig cals T Tryz.f131
def F (x:Dt73×Dt73×Unit):Option (Bool×Unit):=limF spec cals T Tryz.f131 x
theorem ck:CalsOk Tryz.prog cals:=(CalsOk.cons atoms_sameRat.cal (CalsOk.base tabsOk))
theorem cal:CalOk Tryz.prog tabs 131 sig:=calOk_lim' tabOk ck mix Tryz.func131 (by kernel_rfl) (by kernel_rfl) (by kernel_rfl) (by kernel_rfl)
def e (a0:Dt73)(a1:Dt73):Option (Bool×Unit):=
 let v1:=(a0.1==a1.1)
 bif v1 then((atoms_sameRat.F (((a0.2.1.1,a0.2.1.2),a0.2.2),((a1.2.1.1,a1.2.1.2),a1.2.2),())).bind fun y2=>
 some (y2.1,()))
 else(some (false,()))
theorem eval (k:Nat)(a0:Dt73)(a1:Dt73):evalF spec cals T Tryz.f131 k (a0,a1,())=e a0 a1:=by kernel_rfl
theorem of (k:Nat)(a0:Dt73)(a1:Dt73){y:Bool×Unit}(h:e a0 a1=some y):F (a0,a1,())=some y:=limF_of k ((eval k a0 a1).trans h)
end atoms_sameForm_1
namespace slices_EqualFunc_Form
def spec:Spec:=⟨[(false,Kt40),(false,Kt40),(false,(.fnc 131))],[(false,.bool)],.own,fun j=>match j with|4=>[(1,.lf (.z 73 Kt73 false)),(2,.lf (.v false)),(15,.lf (.z 73 Kt73 false)),(16,.lf (.v true)),(17,.lf (.v true))]|_=>[]⟩
def cals:Cals:=(Cals.cons 131 atoms_sameForm_1.sig (Cals.base tabs))
def sig:Sig:=spec.sig cals T Tryz.f130
def F (x:Dt40×Dt40×Unit×Unit):Option (Bool×Unit):=limF spec cals T Tryz.f130 x
theorem ck:CalsOk Tryz.prog cals:=(CalsOk.cons atoms_sameForm_1.cal (CalsOk.base tabsOk))
theorem cal:CalOk Tryz.prog tabs 130 sig:=calOk_lim' tabOk ck mix Tryz.func130 (by kernel_rfl) (by kernel_rfl) (by kernel_rfl) (by kernel_rfl)
def m4 (x1:Dt40)(x2:Unit)(x15:Dt40)(x16:Int)(x17:Int):S:=⟨[(1,.one (.lf (.val false Kt40 x1))),(2,.one (.lf (.val false (.fnc 131) x2))),(15,.one (.lf (.val false Kt40 x15))),(16,.one (.lf (.val true (.int .i64) x16))),(17,.one (.lf (.val true (.int .i64) x17)))],⟨[],[]⟩⟩
def b4 (f4:Dt40→Unit→Dt40→Int→Int→Option (Bool×Unit))(x1:Dt40)(x2:Unit)(x15:Dt40)(x16:Int)(x17:Int):Option (Bool×Unit):=
 let v1:=decide (x17<x16)
 bif v1 then(bif decide (0≤x17)&&decide (x17<(List.length x15:Int))then(let v2:=(List.getD x15 (Int.toNat x17) zt73).1
 let v3:=(((List.getD x15 (Int.toNat x17) zt73).2).1).1
 let v4:=(((List.getD x15 (Int.toNat x17) zt73).2).1).2
 let v5:=((List.getD x15 (Int.toNat x17) zt73).2).2
 bif decide (0≤x17)&&decide (x17<(List.length x1:Int))then(let v6:=(List.getD x1 (Int.toNat x17) zt73).1
 let v7:=(((List.getD x1 (Int.toNat x17) zt73).2).1).1
 let v8:=(((List.getD x1 (Int.toNat x17) zt73).2).1).2
 let v9:=((List.getD x1 (Int.toNat x17) zt73).2).2
 (atoms_sameForm_1.F ((v2,((v3,v4),v5)),(v6,((v7,v8),v9)),())).bind fun y10=>
 let v11:=not y10.1
 bif v11 then(some (false,()))
 else(let v12:=IntKind.i64.wrap (x17+(1:Int))
 f4 x1 x2 x15 x16 v12))
 else none)
 else none)
 else(some (true,()))
def e (f4:Dt40→Unit→Dt40→Int→Int→Option (Bool×Unit))(a0:Dt40)(a1:Dt40)(a2:Unit):Option (Bool×Unit):=
 let v1:=(List.length a0:Int)
 let v2:=(List.length a1:Int)
 let v3:=(v1 != v2)
 bif v3 then(some (false,()))
 else(let v4:=(List.length a0:Int)
 f4 a1 a2 a0 v4 (0:Int))
def L4 (k:Nat)(x1:Dt40)(x2:Unit)(x15:Dt40)(x16:Int)(x17:Int):Option (Bool×Unit):=heads (spec.env cals T Tryz.f130) (Func.pts Tryz.f130) k 4 (m4 x1 x2 x15 x16 x17)
theorem L4_succ (k:Nat)(x1:Dt40)(x2:Unit)(x15:Dt40)(x16:Int)(x17:Int):L4 (k+1) x1 x2 x15 x16 x17=b4 (L4 k) x1 x2 x15 x16 x17:=by kernel_rfl
theorem eval (k:Nat)(a0:Dt40)(a1:Dt40)(a2:Unit):evalF spec cals T Tryz.f130 k (a0,a1,a2,())=e (L4 k) a0 a1 a2:=by kernel_rfl
theorem of (k:Nat)(a0:Dt40)(a1:Dt40)(a2:Unit){y:Bool×Unit}(h:e (L4 k) a0 a1 a2=some y):F (a0,a1,a2,())=some y:=limF_of k ((eval k a0 a1 a2).trans h)
end slices_EqualFunc_Form
namespace atoms_sameForm
def spec:Spec:=⟨[(false,Kt40),(false,Kt40)],[(false,.bool)],.own,fun j=>match j with|_=>[]⟩
def cals:Cals:=(Cals.cons 130 slices_EqualFunc_Form.sig (Cals.base tabs))
def sig:Sig:=spec.sig cals T Tryz.f87
def F (x:Dt40×Dt40×Unit):Option (Bool×Unit):=limF spec cals T Tryz.f87 x
theorem ck:CalsOk Tryz.prog cals:=(CalsOk.cons slices_EqualFunc_Form.cal (CalsOk.base tabsOk))
theorem cal:CalOk Tryz.prog tabs 87 sig:=calOk_lim' tabOk ck mix Tryz.func87 (by kernel_rfl) (by kernel_rfl) (by kernel_rfl) (by kernel_rfl)
def e (a0:Dt40)(a1:Dt40):Option (Bool×Unit):=
 (slices_EqualFunc_Form.F (a0,a1,(),())).bind fun y1=>
 some (y1.1,())
theorem eval (k:Nat)(a0:Dt40)(a1:Dt40):evalF spec cals T Tryz.f87 k (a0,a1,())=e a0 a1:=by kernel_rfl
theorem of (k:Nat)(a0:Dt40)(a1:Dt40){y:Bool×Unit}(h:e a0 a1=some y):F (a0,a1,())=some y:=limF_of k ((eval k a0 a1).trans h)
end atoms_sameForm
namespace atoms_own
def spec:Spec:=⟨[(true,Kt69)],[(true,Kt69)],.own,fun j=>match j with|_=>[]⟩
def cals:Cals:=(Cals.cons 70 linear_Norm.sig (Cals.cons 101 ratio_Norm.sig (Cals.base tabs)))
def sig:Sig:=spec.sig cals T Tryz.f117
def F (x:Dt69×Unit):Option (Dt69×Unit):=limF spec cals T Tryz.f117 x
theorem ck:CalsOk Tryz.prog cals:=(CalsOk.cons linear_Norm.cal (CalsOk.cons ratio_Norm.cal (CalsOk.base tabsOk)))
theorem cal:CalOk Tryz.prog tabs 117 sig:=calOk_lim' tabOk ck mix Tryz.func117 (by kernel_rfl) (by kernel_rfl) (by kernel_rfl) (by kernel_rfl)
def e (a0:Dt69):Option (Dt69×Unit):=
 (linear_Norm.F (a0.2.1,())).bind fun y1=>
 (ratio_Norm.F (((a0.2.2.1.1.1,a0.2.2.1.1.2),a0.2.2.1.2),())).bind fun y2=>
 some ((a0.1,(y1.1,(((y2.1.1.1,y2.1.1.2),y2.1.2),a0.2.2.2))),())
theorem eval (k:Nat)(a0:Dt69):evalF spec cals T Tryz.f117 k (a0,())=e a0:=by kernel_rfl
theorem of (k:Nat)(a0:Dt69){y:Dt69×Unit}(h:e a0=some y):F (a0,())=some y:=limF_of k ((eval k a0).trans h)
end atoms_own
namespace atoms_normal
def spec:Spec:=⟨[(true,Kt69)],[(false,.bool)],.own,fun j=>match j with|_=>[]⟩
def cals:Cals:=(Cals.cons 117 atoms_own.sig (Cals.cons 132 atoms_sameRat.sig (Cals.cons 87 atoms_sameForm.sig (Cals.base tabs))))
def sig:Sig:=spec.sig cals T Tryz.f99
def F (x:Dt69×Unit):Option (Bool×Unit):=limF spec cals T Tryz.f99 x
theorem ck:CalsOk Tryz.prog cals:=(CalsOk.cons atoms_own.cal (CalsOk.cons atoms_sameRat.cal (CalsOk.cons atoms_sameForm.cal (CalsOk.base tabsOk))))
theorem cal:CalOk Tryz.prog tabs 99 sig:=calOk_lim' tabOk ck mix Tryz.func99 (by kernel_rfl) (by kernel_rfl) (by kernel_rfl) (by kernel_rfl)
def e (a0:Dt69):Option (Bool×Unit):=
 (atoms_own.F ((a0.1,(a0.2.1,(((a0.2.2.1.1.1,a0.2.2.1.1.2),a0.2.2.1.2),a0.2.2.2))),())).bind fun y1=>
 (atoms_sameRat.F (((y1.1.2.2.1.1.1,y1.1.2.2.1.1.2),y1.1.2.2.1.2),((a0.2.2.1.1.1,a0.2.2.1.1.2),a0.2.2.1.2),())).bind fun y2=>
 bif y2.1 then((atoms_sameForm.F (y1.1.2.1,a0.2.1,())).bind fun y3=>
 some (y3.1,()))
 else(some (false,()))
theorem eval (k:Nat)(a0:Dt69):evalF spec cals T Tryz.f99 k (a0,())=e a0:=by kernel_rfl
theorem of (k:Nat)(a0:Dt69){y:Bool×Unit}(h:e a0=some y):F (a0,())=some y:=limF_of k ((eval k a0).trans h)
end atoms_normal
namespace ratio_Whole
def spec:Spec:=⟨[(false,(.int .i64))],[(true,Kt47)],.own,fun j=>match j with|_=>[]⟩
def cals:Cals:=(Cals.cons 109 whole_Of.sig (Cals.base tabs))
def sig:Sig:=spec.sig cals T Tryz.f62
def F (x:Int×Unit):Option (Dt47×Unit):=limF spec cals T Tryz.f62 x
theorem ck:CalsOk Tryz.prog cals:=(CalsOk.cons whole_Of.cal (CalsOk.base tabsOk))
theorem cal:CalOk Tryz.prog tabs 62 sig:=calOk_lim' tabOk ck mix Tryz.func62 (by kernel_rfl) (by kernel_rfl) (by kernel_rfl) (by kernel_rfl)
def e (a0:Int):Option (Dt47×Unit):=
 (whole_Of.F (a0,())).bind fun y1=>
 let v2:=([(1:Int)]:List Int)
 some (((y1.1.1,y1.1.2),v2),())
theorem eval (k:Nat)(a0:Int):evalF spec cals T Tryz.f62 k (a0,())=e a0:=by kernel_rfl
theorem of (k:Nat)(a0:Int){y:Dt47×Unit}(h:e a0=some y):F (a0,())=some y:=limF_of k ((eval k a0).trans h)
end ratio_Whole
namespace ratio_Mul
def spec:Spec:=⟨[(true,Kt47),(true,Kt47)],[(true,Kt47)],.own,fun j=>match j with|_=>[]⟩
def cals:Cals:=(Cals.cons 101 ratio_Norm.sig (Cals.cons 103 whole_Mul.sig (Cals.cons 113 nat_Mul.sig (Cals.cons 145 ratio_made.sig (Cals.base tabs)))))
def sig:Sig:=spec.sig cals T Tryz.f105
def F (x:Dt47×Dt47×Unit):Option (Dt47×Unit):=limF spec cals T Tryz.f105 x
theorem ck:CalsOk Tryz.prog cals:=(CalsOk.cons ratio_Norm.cal (CalsOk.cons whole_Mul.cal (CalsOk.cons nat_Mul.cal (CalsOk.cons ratio_made.cal (CalsOk.base tabsOk)))))
theorem cal:CalOk Tryz.prog tabs 105 sig:=calOk_lim' tabOk ck mix Tryz.func105 (by kernel_rfl) (by kernel_rfl) (by kernel_rfl) (by kernel_rfl)
def e (a0:Dt47)(a1:Dt47):Option (Dt47×Unit):=
 (ratio_Norm.F (((a0.1.1,a0.1.2),a0.2),())).bind fun y1=>
 (ratio_Norm.F (((a1.1.1,a1.1.2),a1.2),())).bind fun y2=>
 (whole_Mul.F ((y1.1.1.1,y1.1.1.2),(y2.1.1.1,y2.1.1.2),())).bind fun y3=>
 (nat_Mul.F (y1.1.2,y2.1.2,())).bind fun y4=>
 (ratio_made.F ((y3.1.1,y3.1.2),y4.1,())).bind fun y5=>
 some (((y5.1.1.1,y5.1.1.2),y5.1.2),())
theorem eval (k:Nat)(a0:Dt47)(a1:Dt47):evalF spec cals T Tryz.f105 k (a0,a1,())=e a0 a1:=by kernel_rfl
theorem of (k:Nat)(a0:Dt47)(a1:Dt47){y:Dt47×Unit}(h:e a0 a1=some y):F (a0,a1,())=some y:=limF_of k ((eval k a0 a1).trans h)
end ratio_Mul
namespace linear_Scale
def spec:Spec:=⟨[(true,Kt47),(false,Kt40)],[(false,Kt40)],.own,fun j=>match j with|5=>[(2,.box 47 [.v false,.z 86 (.int .u32) false,.z 86 (.int .u32) false]),(5,.lf (.o 73 Kt73 true)),(13,.lf (.v true)),(14,.lf (.v true))]|_=>[]⟩
def cals:Cals:=(Cals.cons 64 ratio_Sign.sig (Cals.cons 70 linear_Norm.sig (Cals.cons 105 ratio_Mul.sig (Cals.base tabs))))
def sig:Sig:=spec.sig cals T Tryz.f71
def F (x:Dt47×Dt40×Unit):Option (Dt40×Unit):=limF spec cals T Tryz.f71 x
theorem ck:CalsOk Tryz.prog cals:=(CalsOk.cons ratio_Sign.cal (CalsOk.cons linear_Norm.cal (CalsOk.cons ratio_Mul.cal (CalsOk.base tabsOk))))
theorem cal:CalOk Tryz.prog tabs 71 sig:=calOk_lim' tabOk ck mix Tryz.func71 (by kernel_rfl) (by kernel_rfl) (by kernel_rfl) (by kernel_rfl)
def m5 (x2_0:Bool)(x2_1:Dt43)(x2_2:Dt43)(x5:Dt40)(x13:Int)(x14:Int):S:=⟨[(2,.box 0 0),(5,.one (.lf (.own 0))),(13,.one (.lf (.val true (.int .i64) x13))),(14,.one (.lf (.val true (.int .i64) x14)))],⟨[some ⟨73,Kt73,true,true,x5⟩],[some ⟨47,[.val false .bool x2_0,.val false Kt43 x2_1,.val false Kt43 x2_2]⟩]⟩⟩
def b5 (f5:Bool→Dt43→Dt43→Dt40→Int→Int→Option (Dt40×Unit))(x2_0:Bool)(x2_1:Dt43)(x2_2:Dt43)(x5:Dt40)(x13:Int)(x14:Int):Option (Dt40×Unit):=
 let v1:=decide (x14<x13)
 bif v1 then(bif decide (0≤x14)&&decide (x14<(List.length x5:Int))then(let v2:=(((List.getD x5 (Int.toNat x14) zt73).2).1).1
 let v3:=(((List.getD x5 (Int.toNat x14) zt73).2).1).2
 let v4:=((List.getD x5 (Int.toNat x14) zt73).2).2
 (ratio_Mul.F (((x2_0,x2_1),x2_2),((v2,v3),v4),())).bind fun y5=>
 bif decide (0≤x14)&&decide (x14<(List.length x5:Int))then(let v6:=List.set x5 (Int.toNat x14) ((List.getD x5 (Int.toNat x14) zt73).1,((y5.1.1.1,y5.1.1.2),y5.1.2))
 let v7:=IntKind.i64.wrap (x14+(1:Int))
 f5 x2_0 x2_1 x2_2 v6 x13 v7)
 else none)
 else none)
 else(some (x5,()))
def e (f5:Bool→Dt43→Dt43→Dt40→Int→Int→Option (Dt40×Unit))(a0:Dt47)(a1:Dt40):Option (Dt40×Unit):=
 (ratio_Sign.F (((a0.1.1,a0.1.2),a0.2),())).bind fun y1=>
 let v2:=(y1.1==(0:Int))
 bif v2 then(some (zt40,()))
 else((linear_Norm.F (a1,())).bind fun y3=>
 let v4:=(List.length y3.1:Int)
 f5 a0.1.1 a0.1.2 a0.2 y3.1 v4 (0:Int))
def L5 (k:Nat)(x2_0:Bool)(x2_1:Dt43)(x2_2:Dt43)(x5:Dt40)(x13:Int)(x14:Int):Option (Dt40×Unit):=heads (spec.env cals T Tryz.f71) (Func.pts Tryz.f71) k 5 (m5 x2_0 x2_1 x2_2 x5 x13 x14)
theorem L5_succ (k:Nat)(x2_0:Bool)(x2_1:Dt43)(x2_2:Dt43)(x5:Dt40)(x13:Int)(x14:Int):L5 (k+1) x2_0 x2_1 x2_2 x5 x13 x14=b5 (L5 k) x2_0 x2_1 x2_2 x5 x13 x14:=by kernel_rfl
theorem eval (k:Nat)(a0:Dt47)(a1:Dt40):evalF spec cals T Tryz.f71 k (a0,a1,())=e (L5 k) a0 a1:=by kernel_rfl
theorem of (k:Nat)(a0:Dt47)(a1:Dt40){y:Dt40×Unit}(h:e (L5 k) a0 a1=some y):F (a0,a1,())=some y:=limF_of k ((eval k a0 a1).trans h)
end linear_Scale
namespace whole_Neg
def spec:Spec:=⟨[(true,Kt45)],[(true,Kt45)],.own,fun j=>match j with|_=>[]⟩
def cals:Cals:=(Cals.cons 116 whole_Sign.sig (Cals.cons 147 whole_signed.sig (Cals.base tabs)))
def sig:Sig:=spec.sig cals T Tryz.f118
def F (x:Dt45×Unit):Option (Dt45×Unit):=limF spec cals T Tryz.f118 x
theorem ck:CalsOk Tryz.prog cals:=(CalsOk.cons whole_Sign.cal (CalsOk.cons whole_signed.cal (CalsOk.base tabsOk)))
theorem cal:CalOk Tryz.prog tabs 118 sig:=calOk_lim' tabOk ck mix Tryz.func118 (by kernel_rfl) (by kernel_rfl) (by kernel_rfl) (by kernel_rfl)
def e (a0:Dt45):Option (Dt45×Unit):=
 (whole_Sign.F ((a0.1,a0.2),())).bind fun y1=>
 let v2:=([(-1:Int),y1.1]:List Int)
 (whole_signed.F (a0.2,v2,())).bind fun y3=>
 some ((y3.1.1,y3.1.2),())
theorem eval (k:Nat)(a0:Dt45):evalF spec cals T Tryz.f118 k (a0,())=e a0:=by kernel_rfl
theorem of (k:Nat)(a0:Dt45){y:Dt45×Unit}(h:e a0=some y):F (a0,())=some y:=limF_of k ((eval k a0).trans h)
end whole_Neg
namespace ratio_Of
def spec:Spec:=⟨[(true,Kt45),(true,Kt45)],[(true,Kt47),(false,(.int .i64))],.own,fun j=>match j with|_=>[]⟩
def cals:Cals:=(Cals.cons 116 whole_Sign.sig (Cals.cons 118 whole_Neg.sig (Cals.cons 145 ratio_made.sig (Cals.base tabs))))
def sig:Sig:=spec.sig cals T Tryz.f114
def F (x:Dt45×Dt45×Unit):Option (Dt47×Int×Unit):=limF spec cals T Tryz.f114 x
theorem ck:CalsOk Tryz.prog cals:=(CalsOk.cons whole_Sign.cal (CalsOk.cons whole_Neg.cal (CalsOk.cons ratio_made.cal (CalsOk.base tabsOk))))
theorem cal:CalOk Tryz.prog tabs 114 sig:=calOk_lim' tabOk ck mix Tryz.func114 (by kernel_rfl) (by kernel_rfl) (by kernel_rfl) (by kernel_rfl)
def e (a0:Dt45)(a1:Dt45):Option (Dt47×Int×Unit):=
 (whole_Sign.F ((a1.1,a1.2),())).bind fun y1=>
 let v2:=(y1.1==(0:Int))
 bif v2 then(some (zt47,(11:Int),()))
 else((whole_Sign.F ((a1.1,a1.2),())).bind fun y3=>
 let v4:=decide (y3.1<(0:Int))
 bif v4 then((whole_Neg.F ((a0.1,a0.2),())).bind fun y5=>
 (ratio_made.F ((y5.1.1,y5.1.2),a1.2,())).bind fun y6=>
 some (((y6.1.1.1,y6.1.1.2),y6.1.2),(0:Int),()))
 else((ratio_made.F ((a0.1,a0.2),a1.2,())).bind fun y7=>
 some (((y7.1.1.1,y7.1.1.2),y7.1.2),(0:Int),())))
theorem eval (k:Nat)(a0:Dt45)(a1:Dt45):evalF spec cals T Tryz.f114 k (a0,a1,())=e a0 a1:=by kernel_rfl
theorem of (k:Nat)(a0:Dt45)(a1:Dt45){y:Dt47×Int×Unit}(h:e a0 a1=some y):F (a0,a1,())=some y:=limF_of k ((eval k a0 a1).trans h)
end ratio_Of
namespace ratio_Inv
def spec:Spec:=⟨[(true,Kt47)],[(true,Kt47),(false,(.int .i64))],.own,fun j=>match j with|_=>[]⟩
def cals:Cals:=(Cals.cons 101 ratio_Norm.sig (Cals.cons 114 ratio_Of.sig (Cals.base tabs)))
def sig:Sig:=spec.sig cals T Tryz.f115
def F (x:Dt47×Unit):Option (Dt47×Int×Unit):=limF spec cals T Tryz.f115 x
theorem ck:CalsOk Tryz.prog cals:=(CalsOk.cons ratio_Norm.cal (CalsOk.cons ratio_Of.cal (CalsOk.base tabsOk)))
theorem cal:CalOk Tryz.prog tabs 115 sig:=calOk_lim' tabOk ck mix Tryz.func115 (by kernel_rfl) (by kernel_rfl) (by kernel_rfl) (by kernel_rfl)
def e (a0:Dt47):Option (Dt47×Int×Unit):=
 (ratio_Norm.F (((a0.1.1,a0.1.2),a0.2),())).bind fun y1=>
 (ratio_Of.F ((false,y1.1.2),(y1.1.1.1,y1.1.1.2),())).bind fun y2=>
 some (((y2.1.1.1,y2.1.1.2),y2.1.2),y2.2.1,())
theorem eval (k:Nat)(a0:Dt47):evalF spec cals T Tryz.f115 k (a0,())=e a0:=by kernel_rfl
theorem of (k:Nat)(a0:Dt47){y:Dt47×Int×Unit}(h:e a0=some y):F (a0,())=some y:=limF_of k ((eval k a0).trans h)
end ratio_Inv
namespace linear_Prime
def spec:Spec:=⟨[(false,Kt40)],[(false,Kt40),(true,Kt47)],.own,fun j=>match j with|7=>[(0,.lf (.o 73 Kt73 true)),(3,.box 47 [.v true,.v true,.v true]),(4,.lf (.o 86 (.int .u32) true)),(5,.lf (.o 86 (.int .u32) true)),(23,.lf (.o 73 Kt73 true)),(24,.lf (.v true)),(25,.lf (.v true))]|_=>[]⟩
def cals:Cals:=(Cals.cons 70 linear_Norm.sig (Cals.cons 62 ratio_Whole.sig (Cals.cons 110 nat_Of.sig (Cals.cons 111 nat_Gcd.sig (Cals.cons 112 nat_Div.sig (Cals.cons 113 nat_Mul.sig (Cals.cons 64 ratio_Sign.sig (Cals.cons 114 ratio_Of.sig (Cals.cons 115 ratio_Inv.sig (Cals.cons 71 linear_Scale.sig (Cals.base tabs)))))))))))
def sig:Sig:=spec.sig cals T Tryz.f63
def F (x:Dt40×Unit):Option (Dt40×Dt47×Unit):=limF spec cals T Tryz.f63 x
theorem ck:CalsOk Tryz.prog cals:=(CalsOk.cons linear_Norm.cal (CalsOk.cons ratio_Whole.cal (CalsOk.cons nat_Of.cal (CalsOk.cons nat_Gcd.cal (CalsOk.cons nat_Div.cal (CalsOk.cons nat_Mul.cal (CalsOk.cons ratio_Sign.cal (CalsOk.cons ratio_Of.cal (CalsOk.cons ratio_Inv.cal (CalsOk.cons linear_Scale.cal (CalsOk.base tabsOk)))))))))))
theorem cal:CalOk Tryz.prog tabs 63 sig:=calOk_lim' tabOk ck mix Tryz.func63 (by kernel_rfl) (by kernel_rfl) (by kernel_rfl) (by kernel_rfl)
def m7 (x0:Dt40)(x3_0:Bool)(x4:Dt43)(x5:Dt43)(x24:Int)(x25:Int):S:=⟨[(0,.one (.lf (.own 0))),(3,.box 0 0),(4,.one (.lf (.own 1))),(5,.one (.lf (.own 2))),(23,.one (.lf (.own 0))),(24,.one (.lf (.val true (.int .i64) x24))),(25,.one (.lf (.val true (.int .i64) x25)))],⟨[some ⟨73,Kt73,true,true,x0⟩,some ⟨86,(.int .u32),true,true,x4⟩,some ⟨86,(.int .u32),true,true,x5⟩],[some ⟨47,[.val true .bool x3_0,.nil,.nil]⟩]⟩⟩
def b7 (f7:Dt40→Bool→Dt43→Dt43→Int→Int→Option (Dt40×Dt47×Unit))(x0:Dt40)(x3_0:Bool)(x4:Dt43)(x5:Dt43)(x24:Int)(x25:Int):Option (Dt40×Dt47×Unit):=
 let v1:=decide (x25<x24)
 bif v1 then(bif decide (0≤x25)&&decide (x25<(List.length x0:Int))then(let v2:=(List.getD x0 (Int.toNat x25) zt73).1
 let v3:=(((List.getD x0 (Int.toNat x25) zt73).2).1).1
 let v4:=(((List.getD x0 (Int.toNat x25) zt73).2).1).2
 let v5:=((List.getD x0 (Int.toNat x25) zt73).2).2
 (nat_Gcd.F (x4,v4,())).bind fun y6=>
 (nat_Gcd.F (x5,v5,())).bind fun y7=>
 (nat_Div.F (v5,y7.1,())).bind fun y8=>
 (nat_Mul.F (x5,y8.1,())).bind fun y9=>
 let v10:=IntKind.i64.wrap (x25+(1:Int))
 f7 x0 x3_0 y6.1 y9.1 x24 v10)
 else none)
 else(bif decide (0≤(0:Int))&&decide ((0:Int)<(List.length x0:Int))then(let v11:=(((List.getD x0 (Int.toNat (0:Int)) zt73).2).1).1
 let v12:=(((List.getD x0 (Int.toNat (0:Int)) zt73).2).1).2
 let v13:=((List.getD x0 (Int.toNat (0:Int)) zt73).2).2
 (ratio_Sign.F (((v11,v12),v13),())).bind fun y14=>
 let v15:=decide (y14.1<(0:Int))
 (ratio_Of.F ((v15,x4),(false,x5),())).bind fun y16=>
 (ratio_Inv.F (((y16.1.1.1,y16.1.1.2),y16.1.2),())).bind fun y17=>
 (linear_Scale.F (((y17.1.1.1,y17.1.1.2),y17.1.2),x0,())).bind fun y18=>
 some (y18.1,((y16.1.1.1,y16.1.1.2),y16.1.2),()))
 else none)
def e (f7:Dt40→Bool→Dt43→Dt43→Int→Int→Option (Dt40×Dt47×Unit))(a0:Dt40):Option (Dt40×Dt47×Unit):=
 (linear_Norm.F (a0,())).bind fun y1=>
 let v2:=(List.length y1.1:Int)
 let v3:=(v2==(0:Int))
 bif v3 then((ratio_Whole.F ((1:Int),())).bind fun y4=>
 some (zt40,((y4.1.1.1,y4.1.1.2),y4.1.2),()))
 else((nat_Of.F ((1:Int),())).bind fun y5=>
 let v6:=(List.length y1.1:Int)
 f7 y1.1 false zt43 y5.1 v6 (0:Int))
def L7 (k:Nat)(x0:Dt40)(x3_0:Bool)(x4:Dt43)(x5:Dt43)(x24:Int)(x25:Int):Option (Dt40×Dt47×Unit):=heads (spec.env cals T Tryz.f63) (Func.pts Tryz.f63) k 7 (m7 x0 x3_0 x4 x5 x24 x25)
theorem L7_succ (k:Nat)(x0:Dt40)(x3_0:Bool)(x4:Dt43)(x5:Dt43)(x24:Int)(x25:Int):L7 (k+1) x0 x3_0 x4 x5 x24 x25=b7 (L7 k) x0 x3_0 x4 x5 x24 x25:=by kernel_rfl
theorem eval (k:Nat)(a0:Dt40):evalF spec cals T Tryz.f63 k (a0,())=e (L7 k) a0:=by kernel_rfl
theorem of (k:Nat)(a0:Dt40){y:Dt40×Dt47×Unit}(h:e (L7 k) a0=some y):F (a0,())=some y:=limF_of k ((eval k a0).trans h)
end linear_Prime
namespace atoms_may
def spec:Spec:=⟨[(true,Kt69)],[(false,.bool)],.own,fun j=>match j with|_=>[]⟩
def cals:Cals:=(Cals.cons 99 atoms_normal.sig (Cals.cons 64 ratio_Sign.sig (Cals.cons 63 linear_Prime.sig (Cals.cons 87 atoms_sameForm.sig (Cals.base tabs)))))
def sig:Sig:=spec.sig cals T Tryz.f100
def F (x:Dt69×Unit):Option (Bool×Unit):=limF spec cals T Tryz.f100 x
theorem ck:CalsOk Tryz.prog cals:=(CalsOk.cons atoms_normal.cal (CalsOk.cons ratio_Sign.cal (CalsOk.cons linear_Prime.cal (CalsOk.cons atoms_sameForm.cal (CalsOk.base tabsOk)))))
theorem cal:CalOk Tryz.prog tabs 100 sig:=calOk_lim' tabOk ck mix Tryz.func100 (by kernel_rfl) (by kernel_rfl) (by kernel_rfl) (by kernel_rfl)
def e (a0:Dt69):Option (Bool×Unit):=
 (atoms_normal.F ((a0.1,(a0.2.1,(((a0.2.2.1.1.1,a0.2.2.1.1.2),a0.2.2.1.2),a0.2.2.2))),())).bind fun y1=>
 let v2:=not y1.1
 bif v2 then(some (false,()))
 else(let v3:=(!(a0.1.toList==(⟨#[]⟩:ByteArray).toList))
 bif v3 then(let v4:=(List.length a0.2.1:Int)
 let v5:=(v4==(0:Int))
 bif v5 then((ratio_Sign.F (((a0.2.2.1.1.1,a0.2.2.1.1.2),a0.2.2.1.2),())).bind fun y6=>
 let v7:=(y6.1==(0:Int))
 bif v7 then(let v8:=not a0.2.2.2
 some (v8,()))
 else(some (false,())))
 else(some (false,())))
 else((linear_Prime.F (a0.2.1,())).bind fun y9=>
 let v10:=(List.length y9.1:Int)
 let v11:=decide (v10>(0:Int))
 bif v11 then((atoms_sameForm.F (y9.1,a0.2.1,())).bind fun y12=>
 some (y12.1,()))
 else(some (false,()))))
theorem eval (k:Nat)(a0:Dt69):evalF spec cals T Tryz.f100 k (a0,())=e a0:=by kernel_rfl
theorem of (k:Nat)(a0:Dt69){y:Bool×Unit}(h:e a0=some y):F (a0,())=some y:=limF_of k ((eval k a0).trans h)
end atoms_may
namespace atoms_load
def spec:Spec:=⟨[(false,Kt22)],[(false,.mp),(false,.bool)],.fresh,fun j=>match j with|8=>[(5,.mpo),(48,.lf (.z 69 Kt69 false)),(49,.lf (.v true)),(50,.lf (.v true))]|_=>[]⟩
def cals:Cals:=(Cals.cons 64 ratio_Sign.sig (Cals.cons 99 atoms_normal.sig (Cals.cons 66 atoms_key.sig (Cals.cons 100 atoms_may.sig (Cals.base tabs)))))
def sig:Sig:=spec.sig cals T Tryz.f52
def F (x:Dt22×Unit):Option ((List (ByteArray×Int))×Bool×Unit):=limF spec cals T Tryz.f52 x
theorem ck:CalsOk Tryz.prog cals:=(CalsOk.cons ratio_Sign.cal (CalsOk.cons atoms_normal.cal (CalsOk.cons atoms_key.cal (CalsOk.cons atoms_may.cal (CalsOk.base tabsOk)))))
theorem cal:CalOk Tryz.prog tabs 52 sig:=calOk_lim' tabOk ck mix Tryz.func52 (by kernel_rfl) (by kernel_rfl) (by kernel_rfl) (by kernel_rfl)
def m8 (x5:(List (ByteArray×Int)))(x48:Dt22)(x49:Int)(x50:Int):S:=⟨[(5,.mpo 0),(48,.one (.lf (.val false Kt22 x48))),(49,.one (.lf (.val true (.int .i64) x49))),(50,.one (.lf (.val true (.int .i64) x50)))],⟨[some ⟨0,eK,true,true,x5⟩],[]⟩⟩
def b8 (f8:(List (ByteArray×Int))→Dt22→Int→Int→Option ((List (ByteArray×Int))×Bool×Unit))(x5:(List (ByteArray×Int)))(x48:Dt22)(x49:Int)(x50:Int):Option ((List (ByteArray×Int))×Bool×Unit):=
 let v1:=decide (x50<x49)
 bif v1 then(bif decide (0≤x50)&&decide (x50<(List.length x48:Int))then(let v2:=(List.getD x48 (Int.toNat x50) zt69).1
 let v3:=((List.getD x48 (Int.toNat x50) zt69).2).1
 let v4:=(((((List.getD x48 (Int.toNat x50) zt69).2).2).1).1).1
 let v5:=(((((List.getD x48 (Int.toNat x50) zt69).2).2).1).1).2
 let v6:=((((List.getD x48 (Int.toNat x50) zt69).2).2).1).2
 let v7:=(((List.getD x48 (Int.toNat x50) zt69).2).2).2
 (atoms_key.F ((v2,(v3,(((v4,v5),v6),v7))),())).bind fun y8=>
 let v9:=mpFind y8.1 x5
 bif Option.isSome v9 then(some (([]:List (ByteArray×Int)),false,()))
 else((atoms_may.F ((v2,(v3,(((v4,v5),v6),v7))),())).bind fun y10=>
 let v11:=not y10.1
 bif v11 then(some (([]:List (ByteArray×Int)),false,()))
 else(let v12:=IntKind.i64.wrap (x50+(2:Int))
 let v13:=mpPut y8.1 v12 x5
 let v14:=IntKind.i64.wrap (x50+(1:Int))
 f8 v13 x48 x49 v14)))
 else none)
 else(some (x5,true,()))
def e (f8:(List (ByteArray×Int))→Dt22→Int→Int→Option ((List (ByteArray×Int))×Bool×Unit))(a0:Dt22):Option ((List (ByteArray×Int))×Bool×Unit):=
 let v1:=(List.length a0:Int)
 let v2:=(v1==(0:Int))
 bif v2 then(some (([]:List (ByteArray×Int)),false,()))
 else(let v3:=(List.length a0:Int)
 let v4:=decide (v3>(262144:Int))
 bif v4 then(some (([]:List (ByteArray×Int)),false,()))
 else(bif decide (0≤(0:Int))&&decide ((0:Int)<(List.length a0:Int))then(let v5:=(List.getD a0 (Int.toNat (0:Int)) zt69).1
 let v6:=((List.getD a0 (Int.toNat (0:Int)) zt69).2).1
 let v7:=(((((List.getD a0 (Int.toNat (0:Int)) zt69).2).2).1).1).1
 let v8:=(((((List.getD a0 (Int.toNat (0:Int)) zt69).2).2).1).1).2
 let v9:=((((List.getD a0 (Int.toNat (0:Int)) zt69).2).2).1).2
 let v10:=(((List.getD a0 (Int.toNat (0:Int)) zt69).2).2).2
 let v11:=(!(v5.toList==(⟨#[]⟩:ByteArray).toList))
 bif v11 then(some (([]:List (ByteArray×Int)),false,()))
 else(let v12:=(List.length v6:Int)
 let v13:=decide (v12>(0:Int))
 bif v13 then(some (([]:List (ByteArray×Int)),false,()))
 else((ratio_Sign.F (((v7,v8),v9),())).bind fun y14=>
 let v15:=(y14.1 != (0:Int))
 bif v15 then(some (([]:List (ByteArray×Int)),false,()))
 else(bif v10 then(some (([]:List (ByteArray×Int)),false,()))
 else((atoms_normal.F ((v5,(v6,(((v7,v8),v9),v10))),())).bind fun y16=>
 let v17:=not y16.1
 bif v17 then(some (([]:List (ByteArray×Int)),false,()))
 else(bif decide (0≤(1:Int))&&decide ((1:Int)≤(List.length a0:Int))then(let v18:=List.drop (Int.toNat (1:Int)) a0
 let v19:=(List.length v18:Int)
 f8 ([]:List (ByteArray×Int)) v18 v19 (0:Int))
 else none))))))
 else none))
def L8 (k:Nat)(x5:(List (ByteArray×Int)))(x48:Dt22)(x49:Int)(x50:Int):Option ((List (ByteArray×Int))×Bool×Unit):=heads (spec.env cals T Tryz.f52) (Func.pts Tryz.f52) k 8 (m8 x5 x48 x49 x50)
theorem L8_succ (k:Nat)(x5:(List (ByteArray×Int)))(x48:Dt22)(x49:Int)(x50:Int):L8 (k+1) x5 x48 x49 x50=b8 (L8 k) x5 x48 x49 x50:=by kernel_rfl
theorem eval (k:Nat)(a0:Dt22):evalF spec cals T Tryz.f52 k (a0,())=e (L8 k) a0:=by kernel_rfl
theorem of (k:Nat)(a0:Dt22){y:(List (ByteArray×Int))×Bool×Unit}(h:e (L8 k) a0=some y):F (a0,())=some y:=limF_of k ((eval k a0).trans h)
end atoms_load
namespace atoms_literal
def spec:Spec:=⟨[(false,Kt22),(false,(.int .i64))],[(true,Kt69),(false,.bool)],.shared,fun j=>match j with|_=>[]⟩
def cals:Cals:=(Cals.base tabs)
def sig:Sig:=spec.sig cals T Tryz.f53
def F (x:Dt22×Int×Unit):Option (Dt69×Bool×Unit):=limF spec cals T Tryz.f53 x
theorem ck:CalsOk Tryz.prog cals:=(CalsOk.base tabsOk)
theorem cal:CalOk Tryz.prog tabs 53 sig:=calOk_lim' tabOk ck mix Tryz.func53 (by kernel_rfl) (by kernel_rfl) (by kernel_rfl) (by kernel_rfl)
def e (a0:Dt22)(a1:Int):Option (Dt69×Bool×Unit):=
 let v1:=decide (a1<(0:Int))
 bif v1 then(let v2:=negI .i64 a1
 let v3:=decide (v2<(1:Int))
 bif v3 then(some (zt69,false,()))
 else(let v4:=(List.length a0:Int)
 let v5:=decide (v2>v4)
 bif v5 then(some (zt69,false,()))
 else(let v6:=IntKind.i64.wrap (v2-(1:Int))
 bif decide (0≤v6)&&decide (v6<(List.length a0:Int))then(let v7:=(List.getD a0 (Int.toNat v6) zt69).1
 let v8:=((List.getD a0 (Int.toNat v6) zt69).2).1
 let v9:=(((((List.getD a0 (Int.toNat v6) zt69).2).2).1).1).1
 let v10:=(((((List.getD a0 (Int.toNat v6) zt69).2).2).1).1).2
 let v11:=((((List.getD a0 (Int.toNat v6) zt69).2).2).1).2
 let v12:=(((List.getD a0 (Int.toNat v6) zt69).2).2).2
 some ((v7,(v8,(((v9,v10),v11),v12))),true,()))
 else none)))
 else(let v13:=decide (a1<(1:Int))
 bif v13 then(some (zt69,false,()))
 else(let v14:=(List.length a0:Int)
 let v15:=decide (a1>v14)
 bif v15 then(some (zt69,false,()))
 else(let v16:=IntKind.i64.wrap (a1-(1:Int))
 bif decide (0≤v16)&&decide (v16<(List.length a0:Int))then(let v17:=(List.getD a0 (Int.toNat v16) zt69).1
 let v18:=((List.getD a0 (Int.toNat v16) zt69).2).1
 let v19:=(((((List.getD a0 (Int.toNat v16) zt69).2).2).1).1).1
 let v20:=(((((List.getD a0 (Int.toNat v16) zt69).2).2).1).1).2
 let v21:=((((List.getD a0 (Int.toNat v16) zt69).2).2).1).2
 let v22:=(((List.getD a0 (Int.toNat v16) zt69).2).2).2
 some ((v17,(v18,(((v19,v20),v21),v22))),true,()))
 else none)))
theorem eval (k:Nat)(a0:Dt22)(a1:Int):evalF spec cals T Tryz.f53 k (a0,a1,())=e a0 a1:=by kernel_rfl
theorem of (k:Nat)(a0:Dt22)(a1:Int){y:Dt69×Bool×Unit}(h:e a0 a1=some y):F (a0,a1,())=some y:=limF_of k ((eval k a0 a1).trans h)
end atoms_literal
namespace whole_Sub
def spec:Spec:=⟨[(true,Kt45),(true,Kt45)],[(true,Kt45)],.own,fun j=>match j with|_=>[]⟩
def cals:Cals:=(Cals.cons 118 whole_Neg.sig (Cals.cons 148 whole_Add.sig (Cals.base tabs)))
def sig:Sig:=spec.sig cals T Tryz.f146
def F (x:Dt45×Dt45×Unit):Option (Dt45×Unit):=limF spec cals T Tryz.f146 x
theorem ck:CalsOk Tryz.prog cals:=(CalsOk.cons whole_Neg.cal (CalsOk.cons whole_Add.cal (CalsOk.base tabsOk)))
theorem cal:CalOk Tryz.prog tabs 146 sig:=calOk_lim' tabOk ck mix Tryz.func146 (by kernel_rfl) (by kernel_rfl) (by kernel_rfl) (by kernel_rfl)
def e (a0:Dt45)(a1:Dt45):Option (Dt45×Unit):=
 (whole_Neg.F ((a1.1,a1.2),())).bind fun y1=>
 (whole_Add.F ((a0.1,a0.2),(y1.1.1,y1.1.2),())).bind fun y2=>
 some ((y2.1.1,y2.1.2),())
theorem eval (k:Nat)(a0:Dt45)(a1:Dt45):evalF spec cals T Tryz.f146 k (a0,a1,())=e a0 a1:=by kernel_rfl
theorem of (k:Nat)(a0:Dt45)(a1:Dt45){y:Dt45×Unit}(h:e a0 a1=some y):F (a0,a1,())=some y:=limF_of k ((eval k a0 a1).trans h)
end whole_Sub
namespace whole_Cmp
def spec:Spec:=⟨[(true,Kt45),(true,Kt45)],[(false,(.int .i64))],.own,fun j=>match j with|_=>[]⟩
def cals:Cals:=(Cals.cons 146 whole_Sub.sig (Cals.cons 116 whole_Sign.sig (Cals.base tabs)))
def sig:Sig:=spec.sig cals T Tryz.f102
def F (x:Dt45×Dt45×Unit):Option (Int×Unit):=limF spec cals T Tryz.f102 x
theorem ck:CalsOk Tryz.prog cals:=(CalsOk.cons whole_Sub.cal (CalsOk.cons whole_Sign.cal (CalsOk.base tabsOk)))
theorem cal:CalOk Tryz.prog tabs 102 sig:=calOk_lim' tabOk ck mix Tryz.func102 (by kernel_rfl) (by kernel_rfl) (by kernel_rfl) (by kernel_rfl)
def e (a0:Dt45)(a1:Dt45):Option (Int×Unit):=
 (whole_Sub.F ((a0.1,a0.2),(a1.1,a1.2),())).bind fun y1=>
 (whole_Sign.F ((y1.1.1,y1.1.2),())).bind fun y2=>
 some (y2.1,())
theorem eval (k:Nat)(a0:Dt45)(a1:Dt45):evalF spec cals T Tryz.f102 k (a0,a1,())=e a0 a1:=by kernel_rfl
theorem of (k:Nat)(a0:Dt45)(a1:Dt45){y:Int×Unit}(h:e a0 a1=some y):F (a0,a1,())=some y:=limF_of k ((eval k a0 a1).trans h)
end whole_Cmp
namespace ratio_Cmp
def spec:Spec:=⟨[(true,Kt47),(true,Kt47)],[(false,(.int .i64))],.own,fun j=>match j with|_=>[]⟩
def cals:Cals:=(Cals.cons 101 ratio_Norm.sig (Cals.cons 103 whole_Mul.sig (Cals.cons 102 whole_Cmp.sig (Cals.base tabs))))
def sig:Sig:=spec.sig cals T Tryz.f54
def F (x:Dt47×Dt47×Unit):Option (Int×Unit):=limF spec cals T Tryz.f54 x
theorem ck:CalsOk Tryz.prog cals:=(CalsOk.cons ratio_Norm.cal (CalsOk.cons whole_Mul.cal (CalsOk.cons whole_Cmp.cal (CalsOk.base tabsOk))))
theorem cal:CalOk Tryz.prog tabs 54 sig:=calOk_lim' tabOk ck mix Tryz.func54 (by kernel_rfl) (by kernel_rfl) (by kernel_rfl) (by kernel_rfl)
def e (a0:Dt47)(a1:Dt47):Option (Int×Unit):=
 (ratio_Norm.F (((a0.1.1,a0.1.2),a0.2),())).bind fun y1=>
 (ratio_Norm.F (((a1.1.1,a1.1.2),a1.2),())).bind fun y2=>
 (whole_Mul.F ((y1.1.1.1,y1.1.1.2),(false,y2.1.2),())).bind fun y3=>
 (whole_Mul.F ((y2.1.1.1,y2.1.1.2),(false,y1.1.2),())).bind fun y4=>
 (whole_Cmp.F ((y3.1.1,y3.1.2),(y4.1.1,y4.1.2),())).bind fun y5=>
 some (y5.1,())
theorem eval (k:Nat)(a0:Dt47)(a1:Dt47):evalF spec cals T Tryz.f54 k (a0,a1,())=e a0 a1:=by kernel_rfl
theorem of (k:Nat)(a0:Dt47)(a1:Dt47){y:Int×Unit}(h:e a0 a1=some y):F (a0,a1,())=some y:=limF_of k ((eval k a0 a1).trans h)
end ratio_Cmp
namespace linear_Value
def spec:Spec:=⟨[(false,Kt40),(false,Kt23)],[(true,Kt47)],.own,fun j=>match j with|3=>[(1,.lf (.z 47 Kt47 false)),(4,.box 47 [.v true,.v true,.v true]),(5,.box 47 [.v true,.o 86 (.int .u32) true,.o 86 (.int .u32) true]),(9,.lf (.z 73 Kt73 false)),(10,.lf (.v true)),(11,.lf (.v true))]|_=>[]⟩
def cals:Cals:=(Cals.cons 105 ratio_Mul.sig (Cals.cons 104 ratio_Add.sig (Cals.cons 101 ratio_Norm.sig (Cals.base tabs))))
def sig:Sig:=spec.sig cals T Tryz.f55
def F (x:Dt40×Dt23×Unit):Option (Dt47×Unit):=limF spec cals T Tryz.f55 x
theorem ck:CalsOk Tryz.prog cals:=(CalsOk.cons ratio_Mul.cal (CalsOk.cons ratio_Add.cal (CalsOk.cons ratio_Norm.cal (CalsOk.base tabsOk))))
theorem cal:CalOk Tryz.prog tabs 55 sig:=calOk_lim' tabOk ck mix Tryz.func55 (by kernel_rfl) (by kernel_rfl) (by kernel_rfl) (by kernel_rfl)
def m3 (x1:Dt23)(x4_0:Bool)(x5_0:Bool)(x5_1:Dt43)(x5_2:Dt43)(x9:Dt40)(x10:Int)(x11:Int):S:=⟨[(1,.one (.lf (.val false Kt23 x1))),(4,.box 0 0),(5,.box 1 0),(9,.one (.lf (.val false Kt40 x9))),(10,.one (.lf (.val true (.int .i64) x10))),(11,.one (.lf (.val true (.int .i64) x11)))],⟨[some ⟨86,(.int .u32),true,true,x5_1⟩,some ⟨86,(.int .u32),true,true,x5_2⟩],[some ⟨47,[.val true .bool x4_0,.nil,.nil]⟩,some ⟨47,[.val true .bool x5_0,.own 0,.own 1]⟩]⟩⟩
def b3 (f3:Dt23→Bool→Bool→Dt43→Dt43→Dt40→Int→Int→Option (Dt47×Unit))(x1:Dt23)(x4_0:Bool)(x5_0:Bool)(x5_1:Dt43)(x5_2:Dt43)(x9:Dt40)(x10:Int)(x11:Int):Option (Dt47×Unit):=
 let v1:=decide (x11<x10)
 bif v1 then(bif decide (0≤x11)&&decide (x11<(List.length x9:Int))then(let v2:=(List.getD x9 (Int.toNat x11) zt73).1
 let v3:=(((List.getD x9 (Int.toNat x11) zt73).2).1).1
 let v4:=(((List.getD x9 (Int.toNat x11) zt73).2).1).2
 let v5:=((List.getD x9 (Int.toNat x11) zt73).2).2
 let v6:=decide (v2≥(0:Int))
 bif v6 then(let v7:=(List.length x1:Int)
 let v8:=decide (v2<v7)
 bif v8 then(bif decide (0≤v2)&&decide (v2<(List.length x1:Int))then(let v9:=((List.getD x1 (Int.toNat v2) zt47).1).1
 let v10:=((List.getD x1 (Int.toNat v2) zt47).1).2
 let v11:=(List.getD x1 (Int.toNat v2) zt47).2
 (ratio_Mul.F (((v3,v4),v5),((v9,v10),v11),())).bind fun y12=>
 (ratio_Add.F (((x5_0,x5_1),x5_2),((y12.1.1.1,y12.1.1.2),y12.1.2),())).bind fun y13=>
 let v14:=IntKind.i64.wrap (x11+(1:Int))
 f3 x1 x4_0 y13.1.1.1 y13.1.1.2 y13.1.2 x9 x10 v14)
 else none)
 else(let v15:=IntKind.i64.wrap (x11+(1:Int))
 f3 x1 x4_0 x5_0 x5_1 x5_2 x9 x10 v15))
 else(let v16:=IntKind.i64.wrap (x11+(1:Int))
 f3 x1 x4_0 x5_0 x5_1 x5_2 x9 x10 v16))
 else none)
 else((ratio_Norm.F (((x5_0,x5_1),x5_2),())).bind fun y17=>
 some (((y17.1.1.1,y17.1.1.2),y17.1.2),()))
def e (f3:Dt23→Bool→Bool→Dt43→Dt43→Dt40→Int→Int→Option (Dt47×Unit))(a0:Dt40)(a1:Dt23):Option (Dt47×Unit):=
 let v1:=(List.length a0:Int)
 f3 a1 false false zt43 zt43 a0 v1 (0:Int)
def L3 (k:Nat)(x1:Dt23)(x4_0:Bool)(x5_0:Bool)(x5_1:Dt43)(x5_2:Dt43)(x9:Dt40)(x10:Int)(x11:Int):Option (Dt47×Unit):=heads (spec.env cals T Tryz.f55) (Func.pts Tryz.f55) k 3 (m3 x1 x4_0 x5_0 x5_1 x5_2 x9 x10 x11)
theorem L3_succ (k:Nat)(x1:Dt23)(x4_0:Bool)(x5_0:Bool)(x5_1:Dt43)(x5_2:Dt43)(x9:Dt40)(x10:Int)(x11:Int):L3 (k+1) x1 x4_0 x5_0 x5_1 x5_2 x9 x10 x11=b3 (L3 k) x1 x4_0 x5_0 x5_1 x5_2 x9 x10 x11:=by kernel_rfl
theorem eval (k:Nat)(a0:Dt40)(a1:Dt23):evalF spec cals T Tryz.f55 k (a0,a1,())=e (L3 k) a0 a1:=by kernel_rfl
theorem of (k:Nat)(a0:Dt40)(a1:Dt23){y:Dt47×Unit}(h:e (L3 k) a0 a1=some y):F (a0,a1,())=some y:=limF_of k ((eval k a0 a1).trans h)
end linear_Value
namespace atoms_Holds_1
def spec:Spec:=⟨[(true,Kt103),(false,(.rp Kt69))],[(false,.bool)],.own,fun j=>match j with|_=>[]⟩
def cals:Cals:=(Cals.base tabs)
def sig:Sig:=spec.sig cals T Tryz.f57
def F (x:Dt103×Dt69×Unit):Option (Bool×Unit):=limF spec cals T Tryz.f57 x
theorem ck:CalsOk Tryz.prog cals:=(CalsOk.base tabsOk)
theorem cal:CalOk Tryz.prog tabs 57 sig:=calOk_lim' tabOk ck mix Tryz.func57 (by kernel_rfl) (by kernel_rfl) (by kernel_rfl) (by kernel_rfl)
def e (a0:Dt103)(a1:Dt69):Option (Bool×Unit):=
 let v1:=(a0.1.toList==a1.1.toList)
 some (v1,())
theorem eval (k:Nat)(a0:Dt103)(a1:Dt69):evalF spec cals T Tryz.f57 k (a0,a1,())=e a0 a1:=by kernel_rfl
theorem of (k:Nat)(a0:Dt103)(a1:Dt69){y:Bool×Unit}(h:e a0 a1=some y):F (a0,a1,())=some y:=limF_of k ((eval k a0 a1).trans h)
end atoms_Holds_1
namespace slices_IndexFunc_Binding
def spec:Spec:=⟨[(false,Kt24),(false,(.clo 57 Kt69))],[(false,(.int .i64))],.own,fun j=>match j with|2=>[(0,.lf (.z 103 Kt103 false)),(1,.lf (.v false)),(7,.lf (.v true)),(8,.lf (.v true))]|_=>[]⟩
def cals:Cals:=(Cals.cons 57 atoms_Holds_1.sig (Cals.base tabs))
def sig:Sig:=spec.sig cals T Tryz.f56
def F (x:Dt24×Dt69×Unit):Option (Int×Unit):=limF spec cals T Tryz.f56 x
theorem ck:CalsOk Tryz.prog cals:=(CalsOk.cons atoms_Holds_1.cal (CalsOk.base tabsOk))
theorem cal:CalOk Tryz.prog tabs 56 sig:=calOk_lim' tabOk ck mix Tryz.func56 (by kernel_rfl) (by kernel_rfl) (by kernel_rfl) (by kernel_rfl)
def m2 (x0:Dt24)(x1:Dt69)(x7:Int)(x8:Int):S:=⟨[(0,.one (.lf (.val false Kt24 x0))),(1,.one (.lf (.val false (.clo 57 Kt69) x1))),(7,.one (.lf (.val true (.int .i64) x7))),(8,.one (.lf (.val true (.int .i64) x8)))],⟨[],[]⟩⟩
def b2 (f2:Dt24→Dt69→Int→Int→Option (Int×Unit))(x0:Dt24)(x1:Dt69)(x7:Int)(x8:Int):Option (Int×Unit):=
 let v1:=decide (x8<x7)
 bif v1 then(bif decide (0≤x8)&&decide (x8<(List.length x0:Int))then(let v2:=(List.getD x0 (Int.toNat x8) zt103).1
 let v3:=((List.getD x0 (Int.toNat x8) zt103).2).1
 let v4:=(((List.getD x0 (Int.toNat x8) zt103).2).2).1
 let v5:=(((((List.getD x0 (Int.toNat x8) zt103).2).2).2).1).1
 let v6:=(((((List.getD x0 (Int.toNat x8) zt103).2).2).2).1).2
 let v7:=((((List.getD x0 (Int.toNat x8) zt103).2).2).2).2
 (atoms_Holds_1.F ((v2,(v3,(v4,((v5,v6),v7)))),x1,())).bind fun y8=>
 bif y8.1 then(some (x8,()))
 else(let v9:=IntKind.i64.wrap (x8+(1:Int))
 f2 x0 x1 x7 v9))
 else none)
 else(some ((-1:Int),()))
def e (f2:Dt24→Dt69→Int→Int→Option (Int×Unit))(a0:Dt24)(a1:Dt69):Option (Int×Unit):=
 let v1:=(List.length a0:Int)
 f2 a0 a1 v1 (0:Int)
def L2 (k:Nat)(x0:Dt24)(x1:Dt69)(x7:Int)(x8:Int):Option (Int×Unit):=heads (spec.env cals T Tryz.f56) (Func.pts Tryz.f56) k 2 (m2 x0 x1 x7 x8)
theorem L2_succ (k:Nat)(x0:Dt24)(x1:Dt69)(x7:Int)(x8:Int):L2 (k+1) x0 x1 x7 x8=b2 (L2 k) x0 x1 x7 x8:=by kernel_rfl
theorem eval (k:Nat)(a0:Dt24)(a1:Dt69):evalF spec cals T Tryz.f56 k (a0,a1,())=e (L2 k) a0 a1:=by kernel_rfl
theorem of (k:Nat)(a0:Dt24)(a1:Dt69){y:Int×Unit}(h:e (L2 k) a0 a1=some y):F (a0,a1,())=some y:=limF_of k ((eval k a0 a1).trans h)
end slices_IndexFunc_Binding
namespace atoms_Holds
def spec:Spec:=⟨[(false,Kt22),(false,(.int .i64)),(false,Kt23),(false,Kt24)],[(false,.bool),(false,(.int .i64))],.own,fun j=>match j with|_=>[]⟩
def cals:Cals:=(Cals.cons 52 atoms_load.sig (Cals.cons 53 atoms_literal.sig (Cals.cons 55 linear_Value.sig (Cals.cons 54 ratio_Cmp.sig (Cals.cons 56 slices_IndexFunc_Binding.sig (Cals.base tabs))))))
def sig:Sig:=spec.sig cals T Tryz.f14
def F (x:Dt22×Int×Dt23×Dt24×Unit):Option (Bool×Int×Unit):=limF spec cals T Tryz.f14 x
theorem ck:CalsOk Tryz.prog cals:=(CalsOk.cons atoms_load.cal (CalsOk.cons atoms_literal.cal (CalsOk.cons linear_Value.cal (CalsOk.cons ratio_Cmp.cal (CalsOk.cons slices_IndexFunc_Binding.cal (CalsOk.base tabsOk))))))
theorem cal:CalOk Tryz.prog tabs 14 sig:=calOk_lim' tabOk ck mix Tryz.func14 (by kernel_rfl) (by kernel_rfl) (by kernel_rfl) (by kernel_rfl)
def e (a0:Dt22)(a1:Int)(a2:Dt23)(a3:Dt24):Option (Bool×Int×Unit):=
 (atoms_load.F (a0,())).bind fun y1=>
 (atoms_literal.F (a0,a1,())).bind fun y2=>
 let v3:=not y1.2.1
 bif v3 then(some (false,(170:Int),()))
 else(let v4:=not y2.2.1
 bif v4 then(some (false,(170:Int),()))
 else(let v5:=(y2.1.1.toList==(⟨#[]⟩:ByteArray).toList)
 bif v5 then((linear_Value.F (y2.1.2.1,a2,())).bind fun y6=>
 (ratio_Cmp.F (((y6.1.1.1,y6.1.1.2),y6.1.2),((y2.1.2.2.1.1.1,y2.1.2.2.1.1.2),y2.1.2.2.1.2),())).bind fun y7=>
 let v8:=decide (y7.1<(0:Int))
 bif v8 then(let v9:=decide (a1>(0:Int))
 let v10:=(true==v9)
 some (v10,(0:Int),()))
 else(let v11:=(y7.1==(0:Int))
 bif v11 then(let v12:=not y2.1.2.2.2
 let v13:=decide (a1>(0:Int))
 let v14:=(v12==v13)
 some (v14,(0:Int),()))
 else(let v15:=decide (a1>(0:Int))
 let v16:=(false==v15)
 some (v16,(0:Int),()))))
 else((slices_IndexFunc_Binding.F (a3,(y2.1.1,(y2.1.2.1,(((y2.1.2.2.1.1.1,y2.1.2.2.1.1.2),y2.1.2.2.1.2),y2.1.2.2.2))),())).bind fun y17=>
 let v18:=decide (y17.1<(0:Int))
 bif v18 then(some (false,(150:Int),()))
 else(bif decide (0≤y17.1)&&decide (y17.1<(List.length a3:Int))then(let v19:=((List.getD a3 (Int.toNat y17.1) zt103).2).1
 let v20:=(v19 != (1:Int))
 bif v20 then(some (false,(150:Int),()))
 else(bif decide (0≤y17.1)&&decide (y17.1<(List.length a3:Int))then(let v21:=(((List.getD a3 (Int.toNat y17.1) zt103).2).2).1
 let v22:=decide (a1>(0:Int))
 let v23:=(v21==v22)
 some (v23,(0:Int),()))
 else none))
 else none))))
theorem eval (k:Nat)(a0:Dt22)(a1:Int)(a2:Dt23)(a3:Dt24):evalF spec cals T Tryz.f14 k (a0,a1,a2,a3,())=e a0 a1 a2 a3:=by kernel_rfl
theorem of (k:Nat)(a0:Dt22)(a1:Int)(a2:Dt23)(a3:Dt24){y:Bool×Int×Unit}(h:e a0 a1 a2 a3=some y):F (a0,a1,a2,a3,())=some y:=limF_of k ((eval k a0 a1 a2 a3).trans h)
end atoms_Holds
namespace m_Nat
def spec:Spec:=⟨[(false,Kt43)],[(false,Kt43)],.own,fun j=>match j with|3=>[(0,.lf (.z 86 (.int .u32) false)),(3,.lf (.o 86 (.int .u32) true)),(4,.lf (.v true))]|_=>[]⟩
def cals:Cals:=(Cals.base tabs)
def sig:Sig:=spec.sig cals T Tryz.f107
def F (x:Dt43×Unit):Option (Dt43×Unit):=limF spec cals T Tryz.f107 x
theorem ck:CalsOk Tryz.prog cals:=(CalsOk.base tabsOk)
theorem cal:CalOk Tryz.prog tabs 107 sig:=calOk_lim' tabOk ck mix Tryz.func107 (by kernel_rfl) (by kernel_rfl) (by kernel_rfl) (by kernel_rfl)
def m3 (x0:Dt43)(x3:Dt43)(x4:Int):S:=⟨[(0,.one (.lf (.val false Kt43 x0))),(3,.one (.lf (.own 0))),(4,.one (.lf (.val true (.int .i64) x4)))],⟨[some ⟨86,(.int .u32),true,true,x3⟩],[]⟩⟩
def b3 (f3:Dt43→Dt43→Int→Option (Dt43×Unit))(x0:Dt43)(x3:Dt43)(x4:Int):Option (Dt43×Unit):=
 let v1:=(List.length x0:Int)
 let v2:=decide (x4<v1)
 bif v2 then(bif decide (0≤x4)&&decide (x4<(List.length x0:Int))then(let v3:=List.getD x0 (Int.toNat x4) (0:Int)
 let v4:=([v3]:List Int)
 bif decide (List.length x3+List.length v4<35184372088832)then(let v5:=List.append x3 v4
 let v6:=IntKind.i64.wrap (x4+(1:Int))
 f3 x0 v5 v6)
 else none)
 else none)
 else(some (x3,()))
def e (f3:Dt43→Dt43→Int→Option (Dt43×Unit))(a0:Dt43):Option (Dt43×Unit):=
 f3 a0 zt43 (0:Int)
def L3 (k:Nat)(x0:Dt43)(x3:Dt43)(x4:Int):Option (Dt43×Unit):=heads (spec.env cals T Tryz.f107) (Func.pts Tryz.f107) k 3 (m3 x0 x3 x4)
theorem L3_succ (k:Nat)(x0:Dt43)(x3:Dt43)(x4:Int):L3 (k+1) x0 x3 x4=b3 (L3 k) x0 x3 x4:=by kernel_rfl
theorem eval (k:Nat)(a0:Dt43):evalF spec cals T Tryz.f107 k (a0,())=e (L3 k) a0:=by kernel_rfl
theorem of (k:Nat)(a0:Dt43){y:Dt43×Unit}(h:e (L3 k) a0=some y):F (a0,())=some y:=limF_of k ((eval k a0).trans h)
end m_Nat
namespace m_Int
def spec:Spec:=⟨[(true,Kt45)],[(true,Kt45)],.own,fun j=>match j with|_=>[]⟩
def cals:Cals:=(Cals.cons 107 m_Nat.sig (Cals.base tabs))
def sig:Sig:=spec.sig cals T Tryz.f106
def F (x:Dt45×Unit):Option (Dt45×Unit):=limF spec cals T Tryz.f106 x
theorem ck:CalsOk Tryz.prog cals:=(CalsOk.cons m_Nat.cal (CalsOk.base tabsOk))
theorem cal:CalOk Tryz.prog tabs 106 sig:=calOk_lim' tabOk ck mix Tryz.func106 (by kernel_rfl) (by kernel_rfl) (by kernel_rfl) (by kernel_rfl)
def e (a0:Dt45):Option (Dt45×Unit):=
 (m_Nat.F (a0.2,())).bind fun y1=>
 some ((a0.1,y1.1),())
theorem eval (k:Nat)(a0:Dt45):evalF spec cals T Tryz.f106 k (a0,())=e a0:=by kernel_rfl
theorem of (k:Nat)(a0:Dt45){y:Dt45×Unit}(h:e a0=some y):F (a0,())=some y:=limF_of k ((eval k a0).trans h)
end m_Int
namespace m_Rat
def spec:Spec:=⟨[(true,Kt47)],[(true,Kt47)],.own,fun j=>match j with|_=>[]⟩
def cals:Cals:=(Cals.cons 106 m_Int.sig (Cals.cons 107 m_Nat.sig (Cals.base tabs)))
def sig:Sig:=spec.sig cals T Tryz.f58
def F (x:Dt47×Unit):Option (Dt47×Unit):=limF spec cals T Tryz.f58 x
theorem ck:CalsOk Tryz.prog cals:=(CalsOk.cons m_Int.cal (CalsOk.cons m_Nat.cal (CalsOk.base tabsOk)))
theorem cal:CalOk Tryz.prog tabs 58 sig:=calOk_lim' tabOk ck mix Tryz.func58 (by kernel_rfl) (by kernel_rfl) (by kernel_rfl) (by kernel_rfl)
def e (a0:Dt47):Option (Dt47×Unit):=
 (m_Int.F ((a0.1.1,a0.1.2),())).bind fun y1=>
 (m_Nat.F (a0.2,())).bind fun y2=>
 some (((y1.1.1,y1.1.2),y2.1),())
theorem eval (k:Nat)(a0:Dt47):evalF spec cals T Tryz.f58 k (a0,())=e a0:=by kernel_rfl
theorem of (k:Nat)(a0:Dt47){y:Dt47×Unit}(h:e a0=some y):F (a0,())=some y:=limF_of k ((eval k a0).trans h)
end m_Rat
namespace m_Form
def spec:Spec:=⟨[(false,Kt40)],[(false,Kt40)],.own,fun j=>match j with|3=>[(0,.lf (.z 73 Kt73 false)),(3,.lf (.o 73 Kt73 true)),(4,.lf (.v true))]|_=>[]⟩
def cals:Cals:=(Cals.cons 58 m_Rat.sig (Cals.base tabs))
def sig:Sig:=spec.sig cals T Tryz.f42
def F (x:Dt40×Unit):Option (Dt40×Unit):=limF spec cals T Tryz.f42 x
theorem ck:CalsOk Tryz.prog cals:=(CalsOk.cons m_Rat.cal (CalsOk.base tabsOk))
theorem cal:CalOk Tryz.prog tabs 42 sig:=calOk_lim' tabOk ck mix Tryz.func42 (by kernel_rfl) (by kernel_rfl) (by kernel_rfl) (by kernel_rfl)
def m3 (x0:Dt40)(x3:Dt40)(x4:Int):S:=⟨[(0,.one (.lf (.val false Kt40 x0))),(3,.one (.lf (.own 0))),(4,.one (.lf (.val true (.int .i64) x4)))],⟨[some ⟨73,Kt73,true,true,x3⟩],[]⟩⟩
def b3 (f3:Dt40→Dt40→Int→Option (Dt40×Unit))(x0:Dt40)(x3:Dt40)(x4:Int):Option (Dt40×Unit):=
 let v1:=(List.length x0:Int)
 let v2:=decide (x4<v1)
 bif v2 then(bif decide (0≤x4)&&decide (x4<(List.length x0:Int))then(let v3:=(List.getD x0 (Int.toNat x4) zt73).1
 bif decide (0≤x4)&&decide (x4<(List.length x0:Int))then(let v4:=(((List.getD x0 (Int.toNat x4) zt73).2).1).1
 let v5:=(((List.getD x0 (Int.toNat x4) zt73).2).1).2
 let v6:=((List.getD x0 (Int.toNat x4) zt73).2).2
 (m_Rat.F (((v4,v5),v6),())).bind fun y7=>
 let v8:=([(v3,((y7.1.1.1,y7.1.1.2),y7.1.2))]:List Dt73)
 bif decide (List.length x3+List.length v8<2199023255552)then(let v9:=List.append x3 v8
 let v10:=IntKind.i64.wrap (x4+(1:Int))
 f3 x0 v9 v10)
 else none)
 else none)
 else none)
 else(some (x3,()))
def e (f3:Dt40→Dt40→Int→Option (Dt40×Unit))(a0:Dt40):Option (Dt40×Unit):=
 f3 a0 zt40 (0:Int)
def L3 (k:Nat)(x0:Dt40)(x3:Dt40)(x4:Int):Option (Dt40×Unit):=heads (spec.env cals T Tryz.f42) (Func.pts Tryz.f42) k 3 (m3 x0 x3 x4)
theorem L3_succ (k:Nat)(x0:Dt40)(x3:Dt40)(x4:Int):L3 (k+1) x0 x3 x4=b3 (L3 k) x0 x3 x4:=by kernel_rfl
theorem eval (k:Nat)(a0:Dt40):evalF spec cals T Tryz.f42 k (a0,())=e (L3 k) a0:=by kernel_rfl
theorem of (k:Nat)(a0:Dt40){y:Dt40×Unit}(h:e (L3 k) a0=some y):F (a0,())=some y:=limF_of k ((eval k a0).trans h)
end m_Form
namespace w_twin
def spec:Spec:=⟨[(false,Kt22)],[(false,Kt22)],.own,fun j=>match j with|3=>[(0,.lf (.z 69 Kt69 false)),(3,.lf (.o 69 Kt69 true)),(4,.lf (.v true))]|_=>[]⟩
def cals:Cals:=(Cals.cons 42 m_Form.sig (Cals.cons 58 m_Rat.sig (Cals.base tabs)))
def sig:Sig:=spec.sig cals T Tryz.f15
def F (x:Dt22×Unit):Option (Dt22×Unit):=limF spec cals T Tryz.f15 x
theorem ck:CalsOk Tryz.prog cals:=(CalsOk.cons m_Form.cal (CalsOk.cons m_Rat.cal (CalsOk.base tabsOk)))
theorem cal:CalOk Tryz.prog tabs 15 sig:=calOk_lim' tabOk ck mix Tryz.func15 (by kernel_rfl) (by kernel_rfl) (by kernel_rfl) (by kernel_rfl)
def m3 (x0:Dt22)(x3:Dt22)(x4:Int):S:=⟨[(0,.one (.lf (.val false Kt22 x0))),(3,.one (.lf (.own 0))),(4,.one (.lf (.val true (.int .i64) x4)))],⟨[some ⟨69,Kt69,true,true,x3⟩],[]⟩⟩
def b3 (f3:Dt22→Dt22→Int→Option (Dt22×Unit))(x0:Dt22)(x3:Dt22)(x4:Int):Option (Dt22×Unit):=
 let v1:=(List.length x0:Int)
 let v2:=decide (x4<v1)
 bif v2 then(bif decide (0≤x4)&&decide (x4<(List.length x0:Int))then(let v3:=(List.getD x0 (Int.toNat x4) zt69).1
 bif decide (0≤x4)&&decide (x4<(List.length x0:Int))then(let v4:=((List.getD x0 (Int.toNat x4) zt69).2).1
 (m_Form.F (v4,())).bind fun y5=>
 bif decide (0≤x4)&&decide (x4<(List.length x0:Int))then(let v6:=(((((List.getD x0 (Int.toNat x4) zt69).2).2).1).1).1
 let v7:=(((((List.getD x0 (Int.toNat x4) zt69).2).2).1).1).2
 let v8:=((((List.getD x0 (Int.toNat x4) zt69).2).2).1).2
 (m_Rat.F (((v6,v7),v8),())).bind fun y9=>
 bif decide (0≤x4)&&decide (x4<(List.length x0:Int))then(let v10:=(((List.getD x0 (Int.toNat x4) zt69).2).2).2
 bif decide (0≤x4)&&decide (x4<(List.length x3:Int))then(let v11:=List.set x3 (Int.toNat x4) (v3,(y5.1,(((y9.1.1.1,y9.1.1.2),y9.1.2),v10)))
 let v12:=IntKind.i64.wrap (x4+(1:Int))
 f3 x0 v11 v12)
 else none)
 else none)
 else none)
 else none)
 else none)
 else(some (x3,()))
def e (f3:Dt22→Dt22→Int→Option (Dt22×Unit))(a0:Dt22):Option (Dt22×Unit):=
 let v1:=(List.length a0:Int)
 bif decide (0≤v1)&&(decide (v1≤v1)&&(decide (Int.toNat v1*104≤281474976710656)&&Nat.blt 0 104))then(let v2:=List.replicate (Int.toNat v1) zt69
 f3 a0 v2 (0:Int))
 else none
def L3 (k:Nat)(x0:Dt22)(x3:Dt22)(x4:Int):Option (Dt22×Unit):=heads (spec.env cals T Tryz.f15) (Func.pts Tryz.f15) k 3 (m3 x0 x3 x4)
theorem L3_succ (k:Nat)(x0:Dt22)(x3:Dt22)(x4:Int):L3 (k+1) x0 x3 x4=b3 (L3 k) x0 x3 x4:=by kernel_rfl
theorem eval (k:Nat)(a0:Dt22):evalF spec cals T Tryz.f15 k (a0,())=e (L3 k) a0:=by kernel_rfl
theorem of (k:Nat)(a0:Dt22){y:Dt22×Unit}(h:e (L3 k) a0=some y):F (a0,())=some y:=limF_of k ((eval k a0).trans h)
end w_twin
namespace m_Rats
def spec:Spec:=⟨[(false,Kt23)],[(false,Kt23)],.own,fun j=>match j with|3=>[(0,.lf (.z 47 Kt47 false)),(3,.lf (.o 47 Kt47 true)),(4,.lf (.v true))]|_=>[]⟩
def cals:Cals:=(Cals.cons 58 m_Rat.sig (Cals.base tabs))
def sig:Sig:=spec.sig cals T Tryz.f16
def F (x:Dt23×Unit):Option (Dt23×Unit):=limF spec cals T Tryz.f16 x
theorem ck:CalsOk Tryz.prog cals:=(CalsOk.cons m_Rat.cal (CalsOk.base tabsOk))
theorem cal:CalOk Tryz.prog tabs 16 sig:=calOk_lim' tabOk ck mix Tryz.func16 (by kernel_rfl) (by kernel_rfl) (by kernel_rfl) (by kernel_rfl)
def m3 (x0:Dt23)(x3:Dt23)(x4:Int):S:=⟨[(0,.one (.lf (.val false Kt23 x0))),(3,.one (.lf (.own 0))),(4,.one (.lf (.val true (.int .i64) x4)))],⟨[some ⟨47,Kt47,true,true,x3⟩],[]⟩⟩
def b3 (f3:Dt23→Dt23→Int→Option (Dt23×Unit))(x0:Dt23)(x3:Dt23)(x4:Int):Option (Dt23×Unit):=
 let v1:=(List.length x0:Int)
 let v2:=decide (x4<v1)
 bif v2 then(bif decide (0≤x4)&&decide (x4<(List.length x0:Int))then(let v3:=((List.getD x0 (Int.toNat x4) zt47).1).1
 let v4:=((List.getD x0 (Int.toNat x4) zt47).1).2
 let v5:=(List.getD x0 (Int.toNat x4) zt47).2
 (m_Rat.F (((v3,v4),v5),())).bind fun y6=>
 let v7:=([((y6.1.1.1,y6.1.1.2),y6.1.2)]:List Dt47)
 bif decide (List.length x3+List.length v7<2513169434916)then(let v8:=List.append x3 v7
 let v9:=IntKind.i64.wrap (x4+(1:Int))
 f3 x0 v8 v9)
 else none)
 else none)
 else(some (x3,()))
def e (f3:Dt23→Dt23→Int→Option (Dt23×Unit))(a0:Dt23):Option (Dt23×Unit):=
 f3 a0 zt23 (0:Int)
def L3 (k:Nat)(x0:Dt23)(x3:Dt23)(x4:Int):Option (Dt23×Unit):=heads (spec.env cals T Tryz.f16) (Func.pts Tryz.f16) k 3 (m3 x0 x3 x4)
theorem L3_succ (k:Nat)(x0:Dt23)(x3:Dt23)(x4:Int):L3 (k+1) x0 x3 x4=b3 (L3 k) x0 x3 x4:=by kernel_rfl
theorem eval (k:Nat)(a0:Dt23):evalF spec cals T Tryz.f16 k (a0,())=e (L3 k) a0:=by kernel_rfl
theorem of (k:Nat)(a0:Dt23){y:Dt23×Unit}(h:e (L3 k) a0=some y):F (a0,())=some y:=limF_of k ((eval k a0).trans h)
end m_Rats
end
end Go.Fx.Tryz
