import Derived.Test.YthmdbafinpmojaaGreatWA
import Derived.Test.YthmdbafinpmojaaGreatSA
import Derived.Test.YthmdbafinpmojaaGreatW08c
import Derived.Test.YthmdbafinpmojaaGreatW08d
set_option linter.unusedVariables false
set_option linter.unusedSimpArgs false
namespace Go.Fx.Tryz
open Go Go.Proofs Go.Fx Go.RowKit
set_option maxRecDepth 100000
noncomputable def n_:ak:=aF.au
noncomputable def rT (j:Nat):Code:=akc Tryz.f14 j
abbrev DN (xs:List fB.dJ):Row:=⟨68,fB.fD,true,true,xs⟩
abbrev Gy (xs:List fB.bZ):Row:=⟨70,fB.fU,true,true,xs⟩
abbrev Xp (lv:Int)(md:Bool)(vc vl:Value):Option pF:=some ⟨81,[.val true (.int .i64) lv,.val true .hd vc,.val true .bool md,.val true .hd vl]⟩
abbrev csS:CS:= .kX 81 [.v true,.v true,.v true,.v true]
abbrev csR:CS:= .box 32 [.v true,.v true,.v true]
abbrev Xq:List (Nat×CS):=[(0,csS),(2,csR),(3,.box 32 [.o 68 fB.fD true,.v true,.v true]),(21,.lf (.v false)),(22,.lf (.v true)),(23,.lf (.v true))]
noncomputable def bT0:Code:= .block 0 (.loop (.seq (rT 5) (.seq (.cond (.tmp 24) .skip (.exit 0)) (.seq (.block 1 (.seq (rT 6) (rT 7))) (rT 8)))))
noncomputable def bT2:Code:= .block 2 (.loop (.seq (rT 10) (.seq (.cond (.tmp 42) .skip (.exit 2)) (.seq (.block 3 (.seq (rT 11) (rT 12))) (rT 13)))))
theorem ag6:Tryz.f14.body=some (.seq (rT 0) (.seq (.seq (rT 1) (.cond (.tmp 10) (.seq (rT 2) .ret) .skip)) (.seq (rT 3) (.seq (.seq (rT 4) bT0) (.seq (.seq (rT 9) bT2) (.seq (rT 14) .ret)))))):=by kernel_rfl
noncomputable def iK (j:Nat):Array Oper:=match rT j with
 | .region _ ops _=>ops
 |_=> #[]
theorem rT7:rT 7= .region 7 (iK 7) true:=by kernel_rfl
theorem ase:rT 12= .region 12 (iK 12) true:=by kernel_rfl
theorem rT1:rT 1= .region 1 (iK 1) false:=by kernel_rfl
theorem rT4:rT 4= .region 4 (iK 4) false:=by kernel_rfl
theorem rT9:rT 9= .region 9 (iK 9) false:=by kernel_rfl
def os7:List (List Nat):=[[0,1,2,3,4,5,6,7],[0,2,1,3,4,5,6,7],[0,2,3,1,4,5,6,7],[0,2,3,4,1,5,6,7],[2,0,1,3,4,5,6,7],[2,0,3,1,4,5,6,7],[2,0,3,4,1,5,6,7],[2,3,0,1,4,5,6,7],[2,3,0,4,1,5,6,7],[2,3,4,0,1,5,6,7]]
theorem asf:B_ (iK 7) (iK 7).size (Array.replicate (iK 7).size false)=os7:=by kernel_rfl
theorem anC:B_ (iK 12) (iK 12).size (Array.replicate (iK 12).size false)=os7:=by kernel_rfl
abbrev ag7:Option pF:=some ⟨32,[.nil,.val true (.int .i64) (0:Int),.nil]⟩
section
variable (g:Nat) (lv:Int) (md:Bool) (vc vl:Value) (ch:List bZ) (li:List dJ) (gs:List fB.dJ) (cs:List fB.bZ) (n i:Int)
abbrev st0:S:=⟨[(0,.kX 0 0 g)],⟨[],[Xp lv md vc vl]⟩⟩
abbrev Ir:S:=⟨[(0,.kX 0 0 g),(2,.box 1 0)],⟨[],[Xp lv md vc vl,ag7]⟩⟩
abbrev st3:S:=⟨[(0,.kX 0 0 g),(2,.box 1 0),(3,.box 2 0)],⟨[],[Xp lv md vc vl,ag7,some ⟨32,[.nil,.val true (.int .i64) lv,.nil]⟩]⟩⟩
abbrev cs1:List (Nat×CS):=[(0,csS),(2,csR)]
abbrev cs3:List (Nat×CS):=[(0,csS),(2,csR),(3,csR)]
theorem t0:xH n_ T 54 9 (rT 0) (st0 g lv md vc vl) cs1=some (.nrm (Ir g lv md vc vl)):=by kernel_rfl
theorem t1b:bJ n_ T 54 (iK 1) [2] ⟨(Ir g lv true vc vl).fr++[(9,cb true)],(Ir g lv true vc vl).m⟩ (dS (cs1++[(10,.lf (.v true))]))=some ⟨(Ir g lv true vc vl).fr++[(10,cb false)],(Ir g lv true vc vl).m⟩:=by kernel_rfl
theorem t1c:xH n_ T 54 9 (.cond (.tmp 10) (.seq (rT 2) .ret) .skip) ⟨(Ir g lv true vc vl).fr++[(10,cb false)],(Ir g lv true vc vl).m⟩ cs1=some (.nrm (Ir g lv true vc vl)):=by kernel_rfl
theorem t3:xH n_ T 54 9 (rT 3) (Ir g lv md vc vl) cs3=some (.nrm (st3 g lv md vc vl)):=by kernel_rfl
theorem t4a:bJ n_ T 54 (iK 4) [0,1,2,3] (st3 g lv md vc vl) (dS (cs3++[(21,.lf (.v true))]))=some ⟨(st3 g lv md vc vl).fr++[(21,.one (.lf (.val true .hd vl)))],(st3 g lv md vc vl).m⟩:=by kernel_rfl
abbrev Nh:Mem:=⟨[some (DN gs)],[Xp lv md vc vl,ag7,some ⟨32,[.own 0,.val true (.int .i64) lv,.nil]⟩]⟩
abbrev S5:S:=⟨[(0,.kX 0 0 g),(2,.box 1 0),(3,.box 2 0),(21,.one (.lf (.val false (.sl 68 fD) li))),(22,ci .i64 n),(23,ci .i64 i)],Nh lv md vc vl gs⟩
theorem t4b:bJ n_ T 54 (iK 4) [4,5] ⟨(st3 g lv md vc vl).fr++[(21,.one (.lf (.val false (.sl 68 fD) li)))],(st3 g lv md vc vl).m⟩ (dS Xq)=some (S5 g lv md vc vl li [] (List.length li:Int) 0):=by kernel_rfl
theorem t5a:xH n_ T 54 9 (rT 5) (S5 g lv md vc vl li gs n i) (Xq++[(24,.lf (.v true))])=some (.nrm ⟨(S5 g lv md vc vl li gs n i).fr++[(24,cb (decide (i<n)))],Nh lv md vc vl gs⟩):=by kernel_rfl
theorem t5b (b:Bool):xH n_ T 54 9 (.cond (.tmp 24) .skip (.exit 0)) ⟨(S5 g lv md vc vl li gs n i).fr++[(24,cb b)],Nh lv md vc vl gs⟩ Xq=bif b then some (.nrm (S5 g lv md vc vl li gs n i))else some (.ext 0 (S5 g lv md vc vl li gs n i)):=by kernel_rfl
theorem t8:xH n_ T 54 9 (rT 8) (S5 g lv md vc vl li gs n i) Xq=some (.nrm (S5 g lv md vc vl li gs n (IntKind.i64.wrap (i+1)))):=by kernel_rfl
abbrev cs9:List (Nat×CS):=[(0,csS),(2,csR),(3,.box 32 [.o 68 fB.fD true,.v true,.v true])]
theorem t9a:bJ n_ T 54 (iK 9) [0,1,2,3,4] (S5 g lv md vc vl li gs n i) (dS (cs9++[(39,.lf (.v true))]))=some ⟨[(0,.kX 0 0 g),(2,.box 1 0),(3,.box 2 0),(39,.one (.lf (.val true .hd vc)))],Nh lv md vc vl gs⟩:=by kernel_rfl
abbrev Ey:List (Nat×CS):=[(0,csS),(2,csR),(3,.box 32 [.o 68 fB.fD true,.v true,.o 70 fB.fU true]),(39,.lf (.v false)),(40,.lf (.v true)),(41,.lf (.v true))]
abbrev AX:Mem:=⟨[some (DN gs),some (Gy cs)],[Xp lv md vc vl,ag7,some ⟨32,[.own 0,.val true (.int .i64) lv,.own 1]⟩]⟩
abbrev vO:S:=⟨[(0,.kX 0 0 g),(2,.box 1 0),(3,.box 2 0),(39,.one (.lf (.val false (.sl 70 fU) ch))),(40,ci .i64 n),(41,ci .i64 i)],AX lv md vc vl gs cs⟩
theorem t9b:bJ n_ T 54 (iK 9) [5,6] ⟨[(0,.kX 0 0 g),(2,.box 1 0),(3,.box 2 0),(39,.one (.lf (.val false (.sl 70 fU) ch)))],Nh lv md vc vl gs⟩ (dS Ey)=some (vO g lv md vc vl ch gs [] (List.length ch:Int) 0):=by kernel_rfl
theorem asg:xH n_ T 54 9 (rT 10) (vO g lv md vc vl ch gs cs n i) (Ey++[(42,.lf (.v true))])=some (.nrm ⟨(vO g lv md vc vl ch gs cs n i).fr++[(42,cb (decide (i<n)))],AX lv md vc vl gs cs⟩):=by kernel_rfl
theorem anD (b:Bool):xH n_ T 54 9 (.cond (.tmp 42) .skip (.exit 2)) ⟨(vO g lv md vc vl ch gs cs n i).fr++[(42,cb b)],AX lv md vc vl gs cs⟩ Ey=bif b then some (.nrm (vO g lv md vc vl ch gs cs n i))else some (.ext 2 (vO g lv md vc vl ch gs cs n i)):=by kernel_rfl
theorem t13:xH n_ T 54 9 (rT 13) (vO g lv md vc vl ch gs cs n i) Ey=some (.nrm (vO g lv md vc vl ch gs cs n (IntKind.i64.wrap (i+1)))):=by kernel_rfl
abbrev ash:List (Nat×CS):=[(0,csS),(2,.box 32 [.o 68 fB.fD true,.v true,.o 70 fB.fU true])]
theorem t14:xH n_ fB.T 54 9 (.seq (rT 14) .ret) (vO g lv md vc vl ch gs cs n i) ash=some (.rt ⟨[(0,.kX 0 0 g),(2,.box 1 0)],⟨[some (DN gs),some (Gy cs)],[Xp lv md vc vl,some ⟨32,[.own 0,.val true (.int .i64) lv,.own 1]⟩]⟩⟩):=by kernel_rfl
end
set_option maxRecDepth 100000
def JA (e:dJ):List aT:=[.val false .bool e.1.1,.val false .bool e.1.2.1.1.1.1,.val false (.sl 114 (.int .u32)) e.1.2.1.1.1.2,.val false (.sl 114 (.int .u32)) e.1.2.1.1.2,.val false .bool e.1.2.1.2.1.1,.val false (.sl 114 (.int .u32)) e.1.2.1.2.1.2,.val false (.sl 114 (.int .u32)) e.1.2.1.2.2,.val false (.int .i64) e.1.2.2,.val false .bool e.2.1,.val false .bool e.2.2.1.1.1.1,.val false (.sl 114 (.int .u32)) e.2.2.1.1.1.2,.val false (.sl 114 (.int .u32)) e.2.2.1.1.2,.val false .bool e.2.2.1.2.1.1,.val false (.sl 114 (.int .u32)) e.2.2.1.2.1.2,.val false (.sl 114 (.int .u32)) e.2.2.1.2.2,.val false (.int .i64) e.2.2.2]
def nH (rv:List Value)(y:dJ):fB.dJ:=((y.1.1,((((y.1.2.1.1.1.1,(List.getD rv 0 dV)),(List.getD rv 1 dV)),((y.1.2.1.2.1.1,(List.getD rv 2 dV)),(List.getD rv 3 dV))),y.1.2.2)),(y.2.1,((((y.2.2.1.1.1.1,(List.getD rv 4 dV)),(List.getD rv 5 dV)),((y.2.2.1.2.1.1,(List.getD rv 6 dV)),(List.getD rv 7 dV))),y.2.2.2)))
def sJ (y:dJ):List (List Int):=[y.1.2.1.1.1.2,y.1.2.1.1.2,y.1.2.1.2.1.2,y.1.2.1.2.2,y.2.2.1.1.1.2,y.2.2.1.1.2,y.2.2.1.2.1.2,y.2.2.1.2.2]
abbrev JB (rv:List Value)(y:dJ):List aT:=[.val true .bool y.1.1,.val true .bool y.1.2.1.1.1.1,.val true .hd (List.getD rv 0 dV),.val true .hd (List.getD rv 1 dV),.val true .bool y.1.2.1.2.1.1,.val true .hd (List.getD rv 2 dV),.val true .hd (List.getD rv 3 dV),.val true (.int .i64) y.1.2.2,.val true .bool y.2.1,.val true .bool y.2.2.1.1.1.1,.val true .hd (List.getD rv 4 dV),.val true .hd (List.getD rv 5 dV),.val true .bool y.2.2.1.2.1.1,.val true .hd (List.getD rv 6 dV),.val true .hd (List.getD rv 7 dV),.val true (.int .i64) y.2.2.2]
abbrev anE:List (Nat×CS):=Xq++[(5,.box 68 [.v false,.v false,.v false,.v false,.v false,.v false,.v false,.v false,.v false,.v false,.v false,.v false,.v false,.v false,.v false,.v false])]
section
variable (g:Nat) (lv:Int) (md:Bool) (vc vl:Value) (ch:List bZ) (li:List dJ) (gs:List fB.dJ) (cs:List fB.bZ) (n i:Int) (e y:dJ) (rv:List Value)
abbrev pW:Mem:=⟨(Nh lv md vc vl gs).rows,(Nh lv md vc vl gs).boxes++[some ⟨68,JA e⟩]⟩
abbrev Iu:S:=⟨(S5 g lv md vc vl li gs n i).fr++[(5,.box 3 0)],pW lv md vc vl gs e⟩
theorem asi:xH n_ T 54 9 (rT 6) (S5 g lv md vc vl li gs n i) anE=bif decide (0≤i)&&decide (i<(List.length li:Int))then some (.nrm (Iu g lv md vc vl li gs n i (List.getD li i.toNat aA)))else none:=by kernel_rfl
abbrev adO:List (Nat×SV):=(S5 g lv md vc vl li gs n i).fr++[(27,.box 2 0),(28,.one (.lf (.own 0)))]
theorem anF:bJ n_ T 54 (iK 7) [0,1,2] (Iu g lv md vc vl li gs n i e) (fun s'=>some (Out.nrm ([0,2,3,21,22,23,27,28,29].map s'.get) s'.m.trim))=some (.nrm ((adO g lv md vc vl li gs n i).map (·.2)++[.one (.agg (JA e))]) (pW lv md vc vl gs e)):=by kernel_rfl
theorem anG:bJ n_ fB.T 54 (iK 7) [4,5,6,7] ⟨adO g lv md vc vl li gs n i++[(30,.one (.agg (JB rv y)))],pW lv md vc vl gs e⟩ (dS Xq)=bif decide (List.length gs+List.length [nH rv y]<zy 256)then some (S5 g lv md vc vl li (List.append gs [nH rv y]) n i)else none:=by kernel_rfl
abbrev adP:List (Nat×SV):=(S5 g lv md vc vl li gs n i).fr++[(27,.box 2 0),(28,.one (.lf (.own 0)))]
theorem anH:bJ n_ T 54 (iK 7) [0,2,1] (Iu g lv md vc vl li gs n i e) (fun s'=>some (Out.nrm ([0,2,3,21,22,23,27,28,29].map s'.get) s'.m.trim))=some (.nrm ((adP g lv md vc vl li gs n i).map (·.2)++[.one (.agg (JA e))]) (pW lv md vc vl gs e)):=by kernel_rfl
theorem anI:bJ n_ fB.T 54 (iK 7) [4,5,6,7] ⟨adP g lv md vc vl li gs n i++[(30,.one (.agg (JB rv y)))],pW lv md vc vl gs e⟩ (dS Xq)=bif decide (List.length gs+List.length [nH rv y]<zy 256)then some (S5 g lv md vc vl li (List.append gs [nH rv y]) n i)else none:=by kernel_rfl
abbrev adQ:List (Nat×SV):=(S5 g lv md vc vl li gs n i).fr++[(27,.box 2 0)]
theorem anJ:bJ n_ T 54 (iK 7) [0,2] (Iu g lv md vc vl li gs n i e) (fun s'=>some (Out.nrm ([0,2,3,21,22,23,27,29].map s'.get) s'.m.trim))=some (.nrm ((adQ g lv md vc vl li gs n i).map (·.2)++[.one (.agg (JA e))]) (pW lv md vc vl gs e)):=by kernel_rfl
theorem anK:bJ n_ fB.T 54 (iK 7) [1,4,5,6,7] ⟨adQ g lv md vc vl li gs n i++[(30,.one (.agg (JB rv y)))],pW lv md vc vl gs e⟩ (dS Xq)=bif decide (List.length gs+List.length [nH rv y]<zy 256)then some (S5 g lv md vc vl li (List.append gs [nH rv y]) n i)else none:=by kernel_rfl
abbrev adR:List (Nat×SV):=(S5 g lv md vc vl li gs n i).fr++[(27,.box 2 0)]
theorem anL:bJ n_ T 54 (iK 7) [0,2] (Iu g lv md vc vl li gs n i e) (fun s'=>some (Out.nrm ([0,2,3,21,22,23,27,29].map s'.get) s'.m.trim))=some (.nrm ((adR g lv md vc vl li gs n i).map (·.2)++[.one (.agg (JA e))]) (pW lv md vc vl gs e)):=by kernel_rfl
theorem anM:bJ n_ fB.T 54 (iK 7) [4,1,5,6,7] ⟨adR g lv md vc vl li gs n i++[(30,.one (.agg (JB rv y)))],pW lv md vc vl gs e⟩ (dS Xq)=bif decide (List.length gs+List.length [nH rv y]<zy 256)then some (S5 g lv md vc vl li (List.append gs [nH rv y]) n i)else none:=by kernel_rfl
abbrev adS:List (Nat×SV):=(S5 g lv md vc vl li gs n i).fr++[(27,.box 2 0),(28,.one (.lf (.own 0)))]
theorem anN:bJ n_ T 54 (iK 7) [2,0,1] (Iu g lv md vc vl li gs n i e) (fun s'=>some (Out.nrm ([0,2,3,21,22,23,27,28,29].map s'.get) s'.m.trim))=some (.nrm ((adS g lv md vc vl li gs n i).map (·.2)++[.one (.agg (JA e))]) (pW lv md vc vl gs e)):=by kernel_rfl
theorem anO:bJ n_ fB.T 54 (iK 7) [4,5,6,7] ⟨adS g lv md vc vl li gs n i++[(30,.one (.agg (JB rv y)))],pW lv md vc vl gs e⟩ (dS Xq)=bif decide (List.length gs+List.length [nH rv y]<zy 256)then some (S5 g lv md vc vl li (List.append gs [nH rv y]) n i)else none:=by kernel_rfl
abbrev adT:List (Nat×SV):=(S5 g lv md vc vl li gs n i).fr++[(27,.box 2 0)]
theorem anP:bJ n_ T 54 (iK 7) [2,0] (Iu g lv md vc vl li gs n i e) (fun s'=>some (Out.nrm ([0,2,3,21,22,23,27,29].map s'.get) s'.m.trim))=some (.nrm ((adT g lv md vc vl li gs n i).map (·.2)++[.one (.agg (JA e))]) (pW lv md vc vl gs e)):=by kernel_rfl
theorem anQ:bJ n_ fB.T 54 (iK 7) [1,4,5,6,7] ⟨adT g lv md vc vl li gs n i++[(30,.one (.agg (JB rv y)))],pW lv md vc vl gs e⟩ (dS Xq)=bif decide (List.length gs+List.length [nH rv y]<zy 256)then some (S5 g lv md vc vl li (List.append gs [nH rv y]) n i)else none:=by kernel_rfl
abbrev adU:List (Nat×SV):=(S5 g lv md vc vl li gs n i).fr++[(27,.box 2 0)]
theorem anR:bJ n_ T 54 (iK 7) [2,0] (Iu g lv md vc vl li gs n i e) (fun s'=>some (Out.nrm ([0,2,3,21,22,23,27,29].map s'.get) s'.m.trim))=some (.nrm ((adU g lv md vc vl li gs n i).map (·.2)++[.one (.agg (JA e))]) (pW lv md vc vl gs e)):=by kernel_rfl
theorem anS:bJ n_ fB.T 54 (iK 7) [4,1,5,6,7] ⟨adU g lv md vc vl li gs n i++[(30,.one (.agg (JB rv y)))],pW lv md vc vl gs e⟩ (dS Xq)=bif decide (List.length gs+List.length [nH rv y]<zy 256)then some (S5 g lv md vc vl li (List.append gs [nH rv y]) n i)else none:=by kernel_rfl
abbrev adV:List (Nat×SV):=(S5 g lv md vc vl li gs n i).fr++[]
theorem anT:bJ n_ T 54 (iK 7) [2] (Iu g lv md vc vl li gs n i e) (fun s'=>some (Out.nrm ([0,2,3,21,22,23,29].map s'.get) s'.m.trim))=some (.nrm ((adV g lv md vc vl li gs n i).map (·.2)++[.one (.agg (JA e))]) (pW lv md vc vl gs e)):=by kernel_rfl
theorem anU:bJ n_ fB.T 54 (iK 7) [0,1,4,5,6,7] ⟨adV g lv md vc vl li gs n i++[(30,.one (.agg (JB rv y)))],pW lv md vc vl gs e⟩ (dS Xq)=bif decide (List.length gs+List.length [nH rv y]<zy 256)then some (S5 g lv md vc vl li (List.append gs [nH rv y]) n i)else none:=by kernel_rfl
abbrev adW:List (Nat×SV):=(S5 g lv md vc vl li gs n i).fr++[]
theorem anV:bJ n_ T 54 (iK 7) [2] (Iu g lv md vc vl li gs n i e) (fun s'=>some (Out.nrm ([0,2,3,21,22,23,29].map s'.get) s'.m.trim))=some (.nrm ((adW g lv md vc vl li gs n i).map (·.2)++[.one (.agg (JA e))]) (pW lv md vc vl gs e)):=by kernel_rfl
theorem anW:bJ n_ fB.T 54 (iK 7) [0,4,1,5,6,7] ⟨adW g lv md vc vl li gs n i++[(30,.one (.agg (JB rv y)))],pW lv md vc vl gs e⟩ (dS Xq)=bif decide (List.length gs+List.length [nH rv y]<zy 256)then some (S5 g lv md vc vl li (List.append gs [nH rv y]) n i)else none:=by kernel_rfl
abbrev adX:List (Nat×SV):=(S5 g lv md vc vl li gs n i).fr++[]
theorem anX:bJ n_ T 54 (iK 7) [2] (Iu g lv md vc vl li gs n i e) (fun s'=>some (Out.nrm ([0,2,3,21,22,23,29].map s'.get) s'.m.trim))=some (.nrm ((adX g lv md vc vl li gs n i).map (·.2)++[.one (.agg (JA e))]) (pW lv md vc vl gs e)):=by kernel_rfl
theorem anY:bJ n_ fB.T 54 (iK 7) [4,0,1,5,6,7] ⟨adX g lv md vc vl li gs n i++[(30,.one (.agg (JB rv y)))],pW lv md vc vl gs e⟩ (dS Xq)=bif decide (List.length gs+List.length [nH rv y]<zy 256)then some (S5 g lv md vc vl li (List.append gs [nH rv y]) n i)else none:=by kernel_rfl
theorem Ob (m:Mem):bM m fD (JA e)=some e:=by kernel_rfl
end
set_option maxRecDepth 100000
def JC (e:bZ):List aT:=[.val false (.int .i64) e.1,.val false .bool e.2.1,.val false (.int .i64) e.2.2.1,.val false .bool e.2.2.2.1,.val false .bool e.2.2.2.2.1.1.1.1,.val false (.sl 114 (.int .u32)) e.2.2.2.2.1.1.1.2,.val false (.sl 114 (.int .u32)) e.2.2.2.2.1.1.2,.val false .bool e.2.2.2.2.1.2.1.1,.val false (.sl 114 (.int .u32)) e.2.2.2.2.1.2.1.2,.val false (.sl 114 (.int .u32)) e.2.2.2.2.1.2.2,.val false (.int .i64) e.2.2.2.2.2]
def nI (rv:List Value)(y:bZ):fB.bZ:=(y.1,(y.2.1,(y.2.2.1,(y.2.2.2.1,((((y.2.2.2.2.1.1.1.1,(List.getD rv 0 dV)),(List.getD rv 1 dV)),((y.2.2.2.2.1.2.1.1,(List.getD rv 2 dV)),(List.getD rv 3 dV))),y.2.2.2.2.2)))))
def Nj (y:bZ):List (List Int):=[y.2.2.2.2.1.1.1.2,y.2.2.2.2.1.1.2,y.2.2.2.2.1.2.1.2,y.2.2.2.2.1.2.2]
abbrev JD (rv:List Value)(y:bZ):List aT:=[.val true (.int .i64) y.1,.val true .bool y.2.1,.val true (.int .i64) y.2.2.1,.val true .bool y.2.2.2.1,.val true .bool y.2.2.2.2.1.1.1.1,.val true .hd (List.getD rv 0 dV),.val true .hd (List.getD rv 1 dV),.val true .bool y.2.2.2.2.1.2.1.1,.val true .hd (List.getD rv 2 dV),.val true .hd (List.getD rv 3 dV),.val true (.int .i64) y.2.2.2.2.2]
abbrev anZ:List (Nat×CS):=Ey++[(7,.box 70 [.v false,.v false,.v false,.v false,.v false,.v false,.v false,.v false,.v false,.v false,.v false])]
section
variable (g:Nat) (lv:Int) (md:Bool) (vc vl:Value) (ch:List bZ) (li:List dJ) (gs:List fB.dJ) (cs:List fB.bZ) (n i:Int) (e y:bZ) (rv:List Value)
abbrev pX:Mem:=⟨(AX lv md vc vl gs cs).rows,(AX lv md vc vl gs cs).boxes++[some ⟨70,JC e⟩]⟩
abbrev Iw:S:=⟨(vO g lv md vc vl ch gs cs n i).fr++[(7,.box 3 0)],pX lv md vc vl gs cs e⟩
theorem asj:xH n_ T 54 9 (rT 11) (vO g lv md vc vl ch gs cs n i) anZ=bif decide (0≤i)&&decide (i<(List.length ch:Int))then some (.nrm (Iw g lv md vc vl ch gs cs n i (List.getD ch i.toNat dN)))else none:=by kernel_rfl
abbrev adY:List (Nat×SV):=(vO g lv md vc vl ch gs cs n i).fr++[(45,.box 2 2),(46,.one (.lf (.own 1)))]
theorem an0:bJ n_ T 54 (iK 12) [0,1,2] (Iw g lv md vc vl ch gs cs n i e) (fun s'=>some (Out.nrm ([0,2,3,39,40,41,45,46,47].map s'.get) s'.m.trim))=some (.nrm ((adY g lv md vc vl ch gs cs n i).map (·.2)++[.one (.agg (JC e))]) (pX lv md vc vl gs cs e)):=by kernel_rfl
theorem an1:bJ n_ fB.T 54 (iK 12) [4,5,6,7] ⟨adY g lv md vc vl ch gs cs n i++[(48,.one (.agg (JD rv y)))],pX lv md vc vl gs cs e⟩ (dS Ey)=bif decide (List.length cs+List.length [nI rv y]<zy 152)then some (vO g lv md vc vl ch gs (List.append cs [nI rv y]) n i)else none:=by kernel_rfl
abbrev adZ:List (Nat×SV):=(vO g lv md vc vl ch gs cs n i).fr++[(45,.box 2 2),(46,.one (.lf (.own 1)))]
theorem an2:bJ n_ T 54 (iK 12) [0,2,1] (Iw g lv md vc vl ch gs cs n i e) (fun s'=>some (Out.nrm ([0,2,3,39,40,41,45,46,47].map s'.get) s'.m.trim))=some (.nrm ((adZ g lv md vc vl ch gs cs n i).map (·.2)++[.one (.agg (JC e))]) (pX lv md vc vl gs cs e)):=by kernel_rfl
theorem an3:bJ n_ fB.T 54 (iK 12) [4,5,6,7] ⟨adZ g lv md vc vl ch gs cs n i++[(48,.one (.agg (JD rv y)))],pX lv md vc vl gs cs e⟩ (dS Ey)=bif decide (List.length cs+List.length [nI rv y]<zy 152)then some (vO g lv md vc vl ch gs (List.append cs [nI rv y]) n i)else none:=by kernel_rfl
abbrev ad1:List (Nat×SV):=(vO g lv md vc vl ch gs cs n i).fr++[(45,.box 2 2)]
theorem an4:bJ n_ T 54 (iK 12) [0,2] (Iw g lv md vc vl ch gs cs n i e) (fun s'=>some (Out.nrm ([0,2,3,39,40,41,45,47].map s'.get) s'.m.trim))=some (.nrm ((ad1 g lv md vc vl ch gs cs n i).map (·.2)++[.one (.agg (JC e))]) (pX lv md vc vl gs cs e)):=by kernel_rfl
theorem an5:bJ n_ fB.T 54 (iK 12) [1,4,5,6,7] ⟨ad1 g lv md vc vl ch gs cs n i++[(48,.one (.agg (JD rv y)))],pX lv md vc vl gs cs e⟩ (dS Ey)=bif decide (List.length cs+List.length [nI rv y]<zy 152)then some (vO g lv md vc vl ch gs (List.append cs [nI rv y]) n i)else none:=by kernel_rfl
abbrev ad2:List (Nat×SV):=(vO g lv md vc vl ch gs cs n i).fr++[(45,.box 2 2)]
theorem an6:bJ n_ T 54 (iK 12) [0,2] (Iw g lv md vc vl ch gs cs n i e) (fun s'=>some (Out.nrm ([0,2,3,39,40,41,45,47].map s'.get) s'.m.trim))=some (.nrm ((ad2 g lv md vc vl ch gs cs n i).map (·.2)++[.one (.agg (JC e))]) (pX lv md vc vl gs cs e)):=by kernel_rfl
theorem an7:bJ n_ fB.T 54 (iK 12) [4,1,5,6,7] ⟨ad2 g lv md vc vl ch gs cs n i++[(48,.one (.agg (JD rv y)))],pX lv md vc vl gs cs e⟩ (dS Ey)=bif decide (List.length cs+List.length [nI rv y]<zy 152)then some (vO g lv md vc vl ch gs (List.append cs [nI rv y]) n i)else none:=by kernel_rfl
abbrev ad3:List (Nat×SV):=(vO g lv md vc vl ch gs cs n i).fr++[(45,.box 2 2),(46,.one (.lf (.own 1)))]
theorem an8:bJ n_ T 54 (iK 12) [2,0,1] (Iw g lv md vc vl ch gs cs n i e) (fun s'=>some (Out.nrm ([0,2,3,39,40,41,45,46,47].map s'.get) s'.m.trim))=some (.nrm ((ad3 g lv md vc vl ch gs cs n i).map (·.2)++[.one (.agg (JC e))]) (pX lv md vc vl gs cs e)):=by kernel_rfl
theorem an9:bJ n_ fB.T 54 (iK 12) [4,5,6,7] ⟨ad3 g lv md vc vl ch gs cs n i++[(48,.one (.agg (JD rv y)))],pX lv md vc vl gs cs e⟩ (dS Ey)=bif decide (List.length cs+List.length [nI rv y]<zy 152)then some (vO g lv md vc vl ch gs (List.append cs [nI rv y]) n i)else none:=by kernel_rfl
abbrev ad4:List (Nat×SV):=(vO g lv md vc vl ch gs cs n i).fr++[(45,.box 2 2)]
theorem an_:bJ n_ T 54 (iK 12) [2,0] (Iw g lv md vc vl ch gs cs n i e) (fun s'=>some (Out.nrm ([0,2,3,39,40,41,45,47].map s'.get) s'.m.trim))=some (.nrm ((ad4 g lv md vc vl ch gs cs n i).map (·.2)++[.one (.agg (JC e))]) (pX lv md vc vl gs cs e)):=by kernel_rfl
theorem aoa:bJ n_ fB.T 54 (iK 12) [1,4,5,6,7] ⟨ad4 g lv md vc vl ch gs cs n i++[(48,.one (.agg (JD rv y)))],pX lv md vc vl gs cs e⟩ (dS Ey)=bif decide (List.length cs+List.length [nI rv y]<zy 152)then some (vO g lv md vc vl ch gs (List.append cs [nI rv y]) n i)else none:=by kernel_rfl
abbrev ad5:List (Nat×SV):=(vO g lv md vc vl ch gs cs n i).fr++[(45,.box 2 2)]
theorem aob:bJ n_ T 54 (iK 12) [2,0] (Iw g lv md vc vl ch gs cs n i e) (fun s'=>some (Out.nrm ([0,2,3,39,40,41,45,47].map s'.get) s'.m.trim))=some (.nrm ((ad5 g lv md vc vl ch gs cs n i).map (·.2)++[.one (.agg (JC e))]) (pX lv md vc vl gs cs e)):=by kernel_rfl
theorem aoc:bJ n_ fB.T 54 (iK 12) [4,1,5,6,7] ⟨ad5 g lv md vc vl ch gs cs n i++[(48,.one (.agg (JD rv y)))],pX lv md vc vl gs cs e⟩ (dS Ey)=bif decide (List.length cs+List.length [nI rv y]<zy 152)then some (vO g lv md vc vl ch gs (List.append cs [nI rv y]) n i)else none:=by kernel_rfl
abbrev ad6:List (Nat×SV):=(vO g lv md vc vl ch gs cs n i).fr++[]
theorem aod:bJ n_ T 54 (iK 12) [2] (Iw g lv md vc vl ch gs cs n i e) (fun s'=>some (Out.nrm ([0,2,3,39,40,41,47].map s'.get) s'.m.trim))=some (.nrm ((ad6 g lv md vc vl ch gs cs n i).map (·.2)++[.one (.agg (JC e))]) (pX lv md vc vl gs cs e)):=by kernel_rfl
theorem aoe:bJ n_ fB.T 54 (iK 12) [0,1,4,5,6,7] ⟨ad6 g lv md vc vl ch gs cs n i++[(48,.one (.agg (JD rv y)))],pX lv md vc vl gs cs e⟩ (dS Ey)=bif decide (List.length cs+List.length [nI rv y]<zy 152)then some (vO g lv md vc vl ch gs (List.append cs [nI rv y]) n i)else none:=by kernel_rfl
abbrev ad7:List (Nat×SV):=(vO g lv md vc vl ch gs cs n i).fr++[]
theorem aof:bJ n_ T 54 (iK 12) [2] (Iw g lv md vc vl ch gs cs n i e) (fun s'=>some (Out.nrm ([0,2,3,39,40,41,47].map s'.get) s'.m.trim))=some (.nrm ((ad7 g lv md vc vl ch gs cs n i).map (·.2)++[.one (.agg (JC e))]) (pX lv md vc vl gs cs e)):=by kernel_rfl
theorem aog:bJ n_ fB.T 54 (iK 12) [0,4,1,5,6,7] ⟨ad7 g lv md vc vl ch gs cs n i++[(48,.one (.agg (JD rv y)))],pX lv md vc vl gs cs e⟩ (dS Ey)=bif decide (List.length cs+List.length [nI rv y]<zy 152)then some (vO g lv md vc vl ch gs (List.append cs [nI rv y]) n i)else none:=by kernel_rfl
abbrev ad8:List (Nat×SV):=(vO g lv md vc vl ch gs cs n i).fr++[]
theorem aoh:bJ n_ T 54 (iK 12) [2] (Iw g lv md vc vl ch gs cs n i e) (fun s'=>some (Out.nrm ([0,2,3,39,40,41,47].map s'.get) s'.m.trim))=some (.nrm ((ad8 g lv md vc vl ch gs cs n i).map (·.2)++[.one (.agg (JC e))]) (pX lv md vc vl gs cs e)):=by kernel_rfl
theorem aoi:bJ n_ fB.T 54 (iK 12) [4,0,1,5,6,7] ⟨ad8 g lv md vc vl ch gs cs n i++[(48,.one (.agg (JD rv y)))],pX lv md vc vl gs cs e⟩ (dS Ey)=bif decide (List.length cs+List.length [nI rv y]<zy 152)then some (vO g lv md vc vl ch gs (List.append cs [nI rv y]) n i)else none:=by kernel_rfl
theorem Oc (m:Mem):bM m fU (JC e)=some e:=by kernel_rfl
end
end Go.Fx.Tryz

namespace Go.Fx
open Go Go.RowKit
def YR (w w':World)(u:Value)(hlv:List Value→List aT)(ls:List (List Int)):Prop:=
 ∃(rv:List Value) (us:List Value),u= .agg us.toArray∧(∀(w:World) (ok may:Nat→Prop) (ow:Ow),F2 (aQ w ok may ow) (hlv rv) us)∧oP 114 w' (fun b=>w.heap.size≤b) (jm rv ls)∧Below w.heap.size w w'
def ad9:aT→Bool
 | .val _ k _=>k.flat
 |_=>false
theorem aQ.ag8 {w w':World}{ok ok' may may':Nat→Prop}{ow aO:Ow}{l:aT}{v:Value}(hf:ad9 l=true)(h:aQ w ok may ow l v):aQ w' ok' may' aO l v:=by
 cases l with
 |val f k x=>exact Rd.flat (k:=k) hf h
 |own r=>cases hf
 |nil=>cases hf
theorem F2.YS {w w':World}{ok ok' may may':Nat→Prop}{ow aO:Ow}:∀{ls:List aT} {vs:List Value},ls.all ad9=true→F2 (aQ w ok may ow) ls vs→F2 (aQ w' ok' may' aO) ls vs
 |[],[],_,_=>trivial
 |l::ls,v::vs,hf,h=>by
  rw[List.all_cons,Bool.and_eq_true]at hf
  exact⟨h.1.ag8 hf.1,F2.YS hf.2 h.2⟩
 |[],_::_,_,h=>h.elim
 |_::_,[],_,h=>h.elim
theorem Xr {w:World}{ok may:Nat→Prop}{ow gV:Ow}{l:aT}{v:Value}(h:aQ w ok may ow l v):aQ w ok may gV (adB ow.rv l) v:=by
 cases l with
 |val f k x=>exact h
 |nil=>
  have h:v=dV:=h
  show[v]=[dV]∧_
  exact⟨by rw[h],_,_,_,rfl⟩
 |own r=>
  obtain⟨h1,h2⟩:=h
  show[v]=[ow.rv.getD r dV]∧_
  have e:ow.rv.getD r dV=v:=by rw[List.getD_eq_getElem?_getD,h1];rfl
  rw[e]
  exact⟨rfl,h2⟩
theorem akw {w:World}{ok may:Nat→Prop}{ow gV:Ow}{ls:List aT}{us:List Value}(h:F2 (aQ w ok may ow) ls us):F2 (aQ w ok may gV) (ls.map (adB ow.rv)) us:=F2.qE.2 (h.imp fun l v h=>Xr h)
theorem YT (t:Nat)(v:SV):∀f:List (Nat×SV),kin (f.map (·.1)++[t]) (f.map (·.2)++[v])=f++[(t,v)]
 |[]=>rfl
 |q::r=>by simp only[List.map_cons,List.cons_append,kin,YT t v r]
theorem Nk (r:List (Nat×SV))(t:Nat):∀f:List (Nat×SV),lookup f t= .undef∨lookup (f++r) t=lookup f t
 |[]=> .inl rfl
 |(t',v)::f=>by
  simp only[List.cons_append,lookup]
  cases Nat.beq t' t with
  |true=>exact .inr rfl
  |false=>exact Nk r t f
theorem Jh (t:Nat)(v:SV):∀f:List (Nat×SV),t∉f.map (·.1)→lookup (f++[(t,v)]) t=v
 |[],_=>by simp[lookup]
 |(t',u)::f,h=>by
  simp only[List.map_cons,List.mem_cons,not_or]at h
  simp only[List.cons_append,lookup]
  cases hb:Nat.beq t' t with
  |true=>exact absurd (Nat.eq_of_beq_eq_true hb).symm h.1
  |false=>exact Jh t v f h.2
theorem aK.head {C:ak}{N:Nat}{may:Nat→Prop}{f r:List (Nat×SV)}{m:Mem}{a:Act}{w:World}{ow:Ow}(I:aK C N may ⟨f++r,m⟩ a w ow):aK C N may ⟨f,m⟩ a w ow:=by
 refine⟨I.live,I.mem,fun t=> ?_,I.size,I.defers⟩
 show aS w _ may ow m (lookup f t) _
 rcases Nk r t f with e|e
 ·rw [e];trivial
 ·rw [←e];exact I.fr t
end Go.Fx
namespace Go.Fx.Tryz
open Go Go.Proofs Go.Fx Go.RowKit
set_option maxRecDepth 100000
theorem qM {e y:dJ}(h:bg.F (e,())=some (y,())){w:World}{v:Value}(hv:ES w (fun _=>True) (true,fD) e v):Calls Tryz.prog 46 #[v] w fun r w'=>∃u,r= .returned u∧YR w w' u (fun rv=>JB rv y) (sJ y):=by
 refine(bg.bU.contract w (fun _=>True) (e,()) (y,()) [v] (fun g tb e=>by cases e) h ⟨v,[],rfl,hv,rfl⟩).mono fun r w' he=> ?_
 obtain⟨u,cs,rows,aO,rfl,hth,M,R,B⟩:=he
 cases hth
 have M':aC w' (fun b=>w.heap.size≤b) aO ⟨yK 114 (sJ y),[]⟩:=M
 obtain⟨us,rfl,hF⟩:=R
 refine⟨_,rfl,aO.rv,us,rfl,fun w2 ok may ow=> ?_,M'.held,B⟩
 exact F2.YS (ls:=JB aO.rv y) rfl (akw (gV:=aO) hF)
theorem qN {e y:bZ}(h:bD.F (e,())=some (y,())){w:World}{v:Value}(hv:ES w (fun _=>True) (true,fU) e v):Calls Tryz.prog 47 #[v] w fun r w'=>∃u,r= .returned u∧YR w w' u (fun rv=>JD rv y) (Nj y):=by
 refine(bD.bU.contract w (fun _=>True) (e,()) (y,()) [v] (fun g tb e=>by cases e) h ⟨v,[],rfl,hv,rfl⟩).mono fun r w' he=> ?_
 obtain⟨u,cs,rows,aO,rfl,hth,M,R,B⟩:=he
 cases hth
 have M':aC w' (fun b=>w.heap.size≤b) aO ⟨yK 114 (Nj y),[]⟩:=M
 obtain⟨us,rfl,hF⟩:=R
 refine⟨_,rfl,aO.rv,us,rfl,fun w2 ok may ow=> ?_,M'.held,B⟩
 exact F2.YS (ls:=JD aO.rv y) rfl (akw (gV:=aO) hF)
theorem gq {S0:S}{f:List (Nat×SV)}{m:Mem}{la:List aT}{el cp:Nat}{ts:List Nat}{l1 l2:List Nat}{ops:Array Oper}{kc:K}{e:kc.T}{hlv:List Value→List aT}{ls:List (List Int)}{sh:List (Nat×CS)}{Sn:List Value→S}{gid:FuncId}
  {may:Nat→Prop} {w:World} {ow:Ow} {a:Act} {Q:Exit→Act→World→Prop} (I:aK n_ 54 may S0 a w ow)
  (asl:∃o,ops[3]? =some o∧o.guard=none∧o.dst=some cp∧∃ty,o.op= .call {callee:= .value (.func gid),args:= #[.tmp el],argTypes:=ty}) (hB:Body Tryz.prog gid) (hcp:cp<54) (hcf:cp∉f.map (·.1)) (KR:el∉f.map (·.1)) (hts:ts=f.map (·.1)++[el]) (hl1:∀i∈l1,i<ops.size) (hl2:∀i∈l2,i<ops.size)
  (tA:bJ n_ T 54 ops l1 S0 (fun s'=>some (Out.nrm (ts.map s'.get) s'.m.trim))=some (.nrm (f.map (·.2)++[.one (.agg la)]) m))
  (tB:∀rv,bJ n_ fB.T 54 ops l2 ⟨f++[(cp,.one (.agg (hlv rv)))],m⟩ (dS sh)=some (Sn rv))
  (pk:bM m kc la=some e) (hc:∀(w:World) (v:Value),ES w (fun _=>True) (true,kc) e v→Calls Tryz.prog gid #[v] w fun r w'=>∃u,r= .returned u∧YR w w' u hlv ls)
  (hQ:∀rv a' w' aO,aK n_ 54 may (Sn rv) a' w' aO→Kp may w ow S0.m w' aO (Sn rv).m→oP 114 w' (fun b=>w.heap.size≤b∧ay aO (Sn rv).m b) (jm rv ls)→Q .normal a' w'):
  wpOps Tryz.prog ops Q (l1++3::l2) a w:=by
 refine kL _ _ _ _ ?_
 refine Ap aH aF.ck l1 S0 a w ow hl1 I.live I.mem I.fr I.size tA fun s' a1 w1 jZ e1 A=> ?_
 obtain⟨I1,K1⟩:=A.out I.live I.defers ts
 have e1:=Option.some.inj e1
 injection e1 with e1 e2
 rw[hts]at e1
 rw[hts,e1,e2,YT]at I1
 rw[e2]at K1
 generalize jZ.trim s'.m=gV at I1 K1
 obtain⟨o,ho,RI,RJ,ty,NR⟩:=asl
 show wpOps Tryz.prog ops Q (3::l2) a1 w1
 refine o9 ho RI (oO NR hB rfl rfl ?_)
 have hv:ES w1 (fun _=>True) (true,kc) e (a1.tmps.getD el undef):=by
  have h:aS w1 (ay gV m) may gV m (lookup (f++[(el,.one (.agg la))]) el) (a1.tmps.getD el undef):=I1.fr el
  rw[Jh el _ f KR]at h
  obtain⟨vs,NV,hF⟩:=h
  unfold ES
  rw[if_pos rfl]
  exact⟨vs,NV,GZ I1.mem hF pk⟩
 show Calls Tryz.prog gid #[a1.tmps.getD el undef] w1 _
 refine(hc w1 _ hv).mono fun r w2 he=> ?_
 obtain⟨u,rfl,rv,us,rfl,hF,H,B⟩:=he
 refine⟨_,rfl,?_⟩
 rw[RJ]
 have hN:cp<a1.tmps.size:=by rw[I1.size];exact hcp
 have g2:(a1.put (some cp) (.agg us.toArray)).tmps.getD cp undef= .agg us.toArray:=lD hN
 have S2:AV (f.map (·.1)) a1 (a1.put (some cp) (.agg us.toArray)):=(AV.refl _ a1).put _ hcf
 generalize a1.put (some cp) (.agg us.toArray)=a2 at g2 S2
 have I2:aK n_ 54 may ⟨f,m⟩ a2 w2 gV:=I1.head.sH B (fun t ht=>S2.get t ht) S2.size S2.defers
 have I3:aK n_ 54 may ⟨f++[(cp,.one (.agg (hlv rv)))],m⟩ a2 w2 gV:=I2.more ⟨⟨us,by rw[g2],hF _ _ _ _⟩,trivial⟩
 refine ni fB.aH aF.ck I3 hl2 (tB rv) fun a3 w3 qA I4 K4=> ?_
 have rU:∀b,w1.heap.size≤b→ay gV m b:=fun b hb t ht=>by
  have:=(I1.mem.fH t b ht).2
  omega
 refine hQ rv a3 w3 qA I4 ((K1.kp.trans (dZ.sH B).kp).trans K4) (H.aW (fun b hb hn=>(K4.stay b hb (rU b hn)).2.2) fun b hb hn=>⟨Nat.le_trans K1.size hn,(K4.stay b hb (rU b hn)).1⟩)
end Go.Fx.Tryz

namespace Go.Fx.Tryz
open Go Go.Proofs Go.Fx Go.RowKit
set_option maxRecDepth 100000
theorem Oe:∃o,(iK 7)[3]? =some o∧o.guard=none∧o.dst=some 30∧∃ty,o.op= .call {callee:= .value (.func 46),args:= #[.tmp 29],argTypes:=ty}:=⟨_,rfl,rfl,rfl,_,rfl⟩
theorem yL:Body Tryz.prog 46:=bg.bU.fn
theorem aoj:(iK 7).size=8:=by kernel_rfl
theorem ag9 {g:Nat}{lv:Int}{md:Bool}{vc vl:Value}{li:List dJ}{gs:List fB.dJ}{n i:Int}{e y:dJ}{may:Nat→Prop}{w:World}{ow:Ow}{a:Act}{Q:Exit→Act→World→Prop}(hy:bg.F (e,())=some (y,()))(hl:gs.length+1<zy 256)(I:aK n_ 54 may (Iu g lv md vc vl li gs n i e) a w ow)
  (hQ:∀rv a' w' aO,aK n_ 54 may (S5 g lv md vc vl li (List.append gs [nH rv y]) n i) a' w' aO→Kp may w ow (pW lv md vc vl gs e) w' aO (S5 g lv md vc vl li (List.append gs [nH rv y]) n i).m→oP 114 w' (fun b=>w.heap.size≤b∧ay aO (S5 g lv md vc vl li (List.append gs [nH rv y]) n i).m b) (jm rv (sJ y))→Q .normal a' w'):(rT 7).wp Tryz.prog Q a w:=by
 rw[rT7]
 have hd:∀rv,decide (List.length gs+List.length [nH rv y]<zy 256)=true:=fun rv=>decide_eq_true (by simpa using hl)
 obtain⟨I,K0⟩:=I.drew (w.drawn+1)
 have Og:∀rv a' w' aO,aK n_ 54 may (S5 g lv md vc vl li (List.append gs [nH rv y]) n i) a' w' aO→Kp may {w with drawn:=w.drawn+1} ow (Iu g lv md vc vl li gs n i e).m w' aO (S5 g lv md vc vl li (List.append gs [nH rv y]) n i).m→oP 114 w' (fun b=>w.heap.size≤b∧ay aO (S5 g lv md vc vl li (List.append gs [nH rv y]) n i).m b) (jm rv (sJ y))→Q .normal a' w':=fun rv a' w' aO J K H=>hQ rv a' w' aO J (K0.trans K) H
 refine uw mix asf fun l hl=> ?_
 have lt:∀q:List Nat,(∀i∈q,i<8)→∀i∈q,i<(iK 7).size:=fun q h=>by rw[aoj];exact h
 simp only[os7,List.mem_cons,List.not_mem_nil,or_false]at hl
 rcases hl with rfl|rfl|rfl|rfl|rfl|rfl|rfl|rfl|rfl|rfl
 ·exact gq (l1:=[0,1,2]) (l2:=[4,5,6,7]) (ts:=[0,2,3,21,22,23,27,28,29]) (f:=adO g lv md vc vl li gs n i) (Sn:=fun rv=>S5 g lv md vc vl li (List.append gs [nH rv y]) n i) I Oe yL (by decide) (by simp) (by simp) rfl (lt _ (by decide)) (lt _ (by decide)) (anF g lv md vc vl li gs n i e) (fun rv=>(anG g lv md vc vl li gs n i e y rv).trans (by rw[hd rv];rfl)) (Ob e _) (fun w v h=>qM hy h) Og
 ·exact gq (l1:=[0,2,1]) (l2:=[4,5,6,7]) (ts:=[0,2,3,21,22,23,27,28,29]) (f:=adP g lv md vc vl li gs n i) (Sn:=fun rv=>S5 g lv md vc vl li (List.append gs [nH rv y]) n i) I Oe yL (by decide) (by simp) (by simp) rfl (lt _ (by decide)) (lt _ (by decide)) (anH g lv md vc vl li gs n i e) (fun rv=>(anI g lv md vc vl li gs n i e y rv).trans (by rw[hd rv];rfl)) (Ob e _) (fun w v h=>qM hy h) Og
 ·exact gq (l1:=[0,2]) (l2:=[1,4,5,6,7]) (ts:=[0,2,3,21,22,23,27,29]) (f:=adQ g lv md vc vl li gs n i) (Sn:=fun rv=>S5 g lv md vc vl li (List.append gs [nH rv y]) n i) I Oe yL (by decide) (by simp) (by simp) rfl (lt _ (by decide)) (lt _ (by decide)) (anJ g lv md vc vl li gs n i e) (fun rv=>(anK g lv md vc vl li gs n i e y rv).trans (by rw[hd rv];rfl)) (Ob e _) (fun w v h=>qM hy h) Og
 ·exact gq (l1:=[0,2]) (l2:=[4,1,5,6,7]) (ts:=[0,2,3,21,22,23,27,29]) (f:=adR g lv md vc vl li gs n i) (Sn:=fun rv=>S5 g lv md vc vl li (List.append gs [nH rv y]) n i) I Oe yL (by decide) (by simp) (by simp) rfl (lt _ (by decide)) (lt _ (by decide)) (anL g lv md vc vl li gs n i e) (fun rv=>(anM g lv md vc vl li gs n i e y rv).trans (by rw[hd rv];rfl)) (Ob e _) (fun w v h=>qM hy h) Og
 ·exact gq (l1:=[2,0,1]) (l2:=[4,5,6,7]) (ts:=[0,2,3,21,22,23,27,28,29]) (f:=adS g lv md vc vl li gs n i) (Sn:=fun rv=>S5 g lv md vc vl li (List.append gs [nH rv y]) n i) I Oe yL (by decide) (by simp) (by simp) rfl (lt _ (by decide)) (lt _ (by decide)) (anN g lv md vc vl li gs n i e) (fun rv=>(anO g lv md vc vl li gs n i e y rv).trans (by rw[hd rv];rfl)) (Ob e _) (fun w v h=>qM hy h) Og
 ·exact gq (l1:=[2,0]) (l2:=[1,4,5,6,7]) (ts:=[0,2,3,21,22,23,27,29]) (f:=adT g lv md vc vl li gs n i) (Sn:=fun rv=>S5 g lv md vc vl li (List.append gs [nH rv y]) n i) I Oe yL (by decide) (by simp) (by simp) rfl (lt _ (by decide)) (lt _ (by decide)) (anP g lv md vc vl li gs n i e) (fun rv=>(anQ g lv md vc vl li gs n i e y rv).trans (by rw[hd rv];rfl)) (Ob e _) (fun w v h=>qM hy h) Og
 ·exact gq (l1:=[2,0]) (l2:=[4,1,5,6,7]) (ts:=[0,2,3,21,22,23,27,29]) (f:=adU g lv md vc vl li gs n i) (Sn:=fun rv=>S5 g lv md vc vl li (List.append gs [nH rv y]) n i) I Oe yL (by decide) (by simp) (by simp) rfl (lt _ (by decide)) (lt _ (by decide)) (anR g lv md vc vl li gs n i e) (fun rv=>(anS g lv md vc vl li gs n i e y rv).trans (by rw[hd rv];rfl)) (Ob e _) (fun w v h=>qM hy h) Og
 ·exact gq (l1:=[2]) (l2:=[0,1,4,5,6,7]) (ts:=[0,2,3,21,22,23,29]) (f:=adV g lv md vc vl li gs n i) (Sn:=fun rv=>S5 g lv md vc vl li (List.append gs [nH rv y]) n i) I Oe yL (by decide) (by simp) (by simp) rfl (lt _ (by decide)) (lt _ (by decide)) (anT g lv md vc vl li gs n i e) (fun rv=>(anU g lv md vc vl li gs n i e y rv).trans (by rw[hd rv];rfl)) (Ob e _) (fun w v h=>qM hy h) Og
 ·exact gq (l1:=[2]) (l2:=[0,4,1,5,6,7]) (ts:=[0,2,3,21,22,23,29]) (f:=adW g lv md vc vl li gs n i) (Sn:=fun rv=>S5 g lv md vc vl li (List.append gs [nH rv y]) n i) I Oe yL (by decide) (by simp) (by simp) rfl (lt _ (by decide)) (lt _ (by decide)) (anV g lv md vc vl li gs n i e) (fun rv=>(anW g lv md vc vl li gs n i e y rv).trans (by rw[hd rv];rfl)) (Ob e _) (fun w v h=>qM hy h) Og
 ·exact gq (l1:=[2]) (l2:=[4,0,1,5,6,7]) (ts:=[0,2,3,21,22,23,29]) (f:=adX g lv md vc vl li gs n i) (Sn:=fun rv=>S5 g lv md vc vl li (List.append gs [nH rv y]) n i) I Oe yL (by decide) (by simp) (by simp) rfl (lt _ (by decide)) (lt _ (by decide)) (anX g lv md vc vl li gs n i e) (fun rv=>(anY g lv md vc vl li gs n i e y rv).trans (by rw[hd rv];rfl)) (Ob e _) (fun w v h=>qM hy h) Og
theorem DR:∃o,(iK 12)[3]? =some o∧o.guard=none∧o.dst=some 48∧∃ty,o.op= .call {callee:= .value (.func 47),args:= #[.tmp 47],argTypes:=ty}:=⟨_,rfl,rfl,rfl,_,rfl⟩
theorem yM:Body Tryz.prog 47:=bD.bU.fn
theorem akx:(iK 12).size=8:=by kernel_rfl
theorem ag_ {g:Nat}{lv:Int}{md:Bool}{vc vl:Value}{ch:List bZ}{gs:List fB.dJ}{cs:List fB.bZ}{n i:Int}{e y:bZ}{may:Nat→Prop}{w:World}{ow:Ow}{a:Act}{Q:Exit→Act→World→Prop}(hy:bD.F (e,())=some (y,()))(hl:cs.length+1<zy 152)(I:aK n_ 54 may (Iw g lv md vc vl ch gs cs n i e) a w ow)
  (hQ:∀rv a' w' aO,aK n_ 54 may (vO g lv md vc vl ch gs (List.append cs [nI rv y]) n i) a' w' aO→Kp may w ow (pX lv md vc vl gs cs e) w' aO (vO g lv md vc vl ch gs (List.append cs [nI rv y]) n i).m→oP 114 w' (fun b=>w.heap.size≤b∧ay aO (vO g lv md vc vl ch gs (List.append cs [nI rv y]) n i).m b) (jm rv (Nj y))→Q .normal a' w'):(rT 12).wp Tryz.prog Q a w:=by
 rw[ase]
 have hd:∀rv,decide (List.length cs+List.length [nI rv y]<zy 152)=true:=fun rv=>decide_eq_true (by simpa using hl)
 obtain⟨I,K0⟩:=I.drew (w.drawn+1)
 have Og:∀rv a' w' aO,aK n_ 54 may (vO g lv md vc vl ch gs (List.append cs [nI rv y]) n i) a' w' aO→Kp may {w with drawn:=w.drawn+1} ow (Iw g lv md vc vl ch gs cs n i e).m w' aO (vO g lv md vc vl ch gs (List.append cs [nI rv y]) n i).m→oP 114 w' (fun b=>w.heap.size≤b∧ay aO (vO g lv md vc vl ch gs (List.append cs [nI rv y]) n i).m b) (jm rv (Nj y))→Q .normal a' w':=fun rv a' w' aO J K H=>hQ rv a' w' aO J (K0.trans K) H
 refine uw mix anC fun l hl=> ?_
 have lt:∀q:List Nat,(∀i∈q,i<8)→∀i∈q,i<(iK 12).size:=fun q h=>by rw[akx];exact h
 simp only[os7,List.mem_cons,List.not_mem_nil,or_false]at hl
 rcases hl with rfl|rfl|rfl|rfl|rfl|rfl|rfl|rfl|rfl|rfl
 ·exact gq (l1:=[0,1,2]) (l2:=[4,5,6,7]) (ts:=[0,2,3,39,40,41,45,46,47]) (f:=adY g lv md vc vl ch gs cs n i) (Sn:=fun rv=>vO g lv md vc vl ch gs (List.append cs [nI rv y]) n i) I DR yM (by decide) (by simp) (by simp) rfl (lt _ (by decide)) (lt _ (by decide)) (an0 g lv md vc vl ch gs cs n i e) (fun rv=>(an1 g lv md vc vl ch gs cs n i e y rv).trans (by rw[hd rv];rfl)) (Oc e _) (fun w v h=>qN hy h) Og
 ·exact gq (l1:=[0,2,1]) (l2:=[4,5,6,7]) (ts:=[0,2,3,39,40,41,45,46,47]) (f:=adZ g lv md vc vl ch gs cs n i) (Sn:=fun rv=>vO g lv md vc vl ch gs (List.append cs [nI rv y]) n i) I DR yM (by decide) (by simp) (by simp) rfl (lt _ (by decide)) (lt _ (by decide)) (an2 g lv md vc vl ch gs cs n i e) (fun rv=>(an3 g lv md vc vl ch gs cs n i e y rv).trans (by rw[hd rv];rfl)) (Oc e _) (fun w v h=>qN hy h) Og
 ·exact gq (l1:=[0,2]) (l2:=[1,4,5,6,7]) (ts:=[0,2,3,39,40,41,45,47]) (f:=ad1 g lv md vc vl ch gs cs n i) (Sn:=fun rv=>vO g lv md vc vl ch gs (List.append cs [nI rv y]) n i) I DR yM (by decide) (by simp) (by simp) rfl (lt _ (by decide)) (lt _ (by decide)) (an4 g lv md vc vl ch gs cs n i e) (fun rv=>(an5 g lv md vc vl ch gs cs n i e y rv).trans (by rw[hd rv];rfl)) (Oc e _) (fun w v h=>qN hy h) Og
 ·exact gq (l1:=[0,2]) (l2:=[4,1,5,6,7]) (ts:=[0,2,3,39,40,41,45,47]) (f:=ad2 g lv md vc vl ch gs cs n i) (Sn:=fun rv=>vO g lv md vc vl ch gs (List.append cs [nI rv y]) n i) I DR yM (by decide) (by simp) (by simp) rfl (lt _ (by decide)) (lt _ (by decide)) (an6 g lv md vc vl ch gs cs n i e) (fun rv=>(an7 g lv md vc vl ch gs cs n i e y rv).trans (by rw[hd rv];rfl)) (Oc e _) (fun w v h=>qN hy h) Og
 ·exact gq (l1:=[2,0,1]) (l2:=[4,5,6,7]) (ts:=[0,2,3,39,40,41,45,46,47]) (f:=ad3 g lv md vc vl ch gs cs n i) (Sn:=fun rv=>vO g lv md vc vl ch gs (List.append cs [nI rv y]) n i) I DR yM (by decide) (by simp) (by simp) rfl (lt _ (by decide)) (lt _ (by decide)) (an8 g lv md vc vl ch gs cs n i e) (fun rv=>(an9 g lv md vc vl ch gs cs n i e y rv).trans (by rw[hd rv];rfl)) (Oc e _) (fun w v h=>qN hy h) Og
 ·exact gq (l1:=[2,0]) (l2:=[1,4,5,6,7]) (ts:=[0,2,3,39,40,41,45,47]) (f:=ad4 g lv md vc vl ch gs cs n i) (Sn:=fun rv=>vO g lv md vc vl ch gs (List.append cs [nI rv y]) n i) I DR yM (by decide) (by simp) (by simp) rfl (lt _ (by decide)) (lt _ (by decide)) (an_ g lv md vc vl ch gs cs n i e) (fun rv=>(aoa g lv md vc vl ch gs cs n i e y rv).trans (by rw[hd rv];rfl)) (Oc e _) (fun w v h=>qN hy h) Og
 ·exact gq (l1:=[2,0]) (l2:=[4,1,5,6,7]) (ts:=[0,2,3,39,40,41,45,47]) (f:=ad5 g lv md vc vl ch gs cs n i) (Sn:=fun rv=>vO g lv md vc vl ch gs (List.append cs [nI rv y]) n i) I DR yM (by decide) (by simp) (by simp) rfl (lt _ (by decide)) (lt _ (by decide)) (aob g lv md vc vl ch gs cs n i e) (fun rv=>(aoc g lv md vc vl ch gs cs n i e y rv).trans (by rw[hd rv];rfl)) (Oc e _) (fun w v h=>qN hy h) Og
 ·exact gq (l1:=[2]) (l2:=[0,1,4,5,6,7]) (ts:=[0,2,3,39,40,41,47]) (f:=ad6 g lv md vc vl ch gs cs n i) (Sn:=fun rv=>vO g lv md vc vl ch gs (List.append cs [nI rv y]) n i) I DR yM (by decide) (by simp) (by simp) rfl (lt _ (by decide)) (lt _ (by decide)) (aod g lv md vc vl ch gs cs n i e) (fun rv=>(aoe g lv md vc vl ch gs cs n i e y rv).trans (by rw[hd rv];rfl)) (Oc e _) (fun w v h=>qN hy h) Og
 ·exact gq (l1:=[2]) (l2:=[0,4,1,5,6,7]) (ts:=[0,2,3,39,40,41,47]) (f:=ad7 g lv md vc vl ch gs cs n i) (Sn:=fun rv=>vO g lv md vc vl ch gs (List.append cs [nI rv y]) n i) I DR yM (by decide) (by simp) (by simp) rfl (lt _ (by decide)) (lt _ (by decide)) (aof g lv md vc vl ch gs cs n i e) (fun rv=>(aog g lv md vc vl ch gs cs n i e y rv).trans (by rw[hd rv];rfl)) (Oc e _) (fun w v h=>qN hy h) Og
 ·exact gq (l1:=[2]) (l2:=[4,0,1,5,6,7]) (ts:=[0,2,3,39,40,41,47]) (f:=ad8 g lv md vc vl ch gs cs n i) (Sn:=fun rv=>vO g lv md vc vl ch gs (List.append cs [nI rv y]) n i) I DR yM (by decide) (by simp) (by simp) rfl (lt _ (by decide)) (lt _ (by decide)) (aoh g lv md vc vl ch gs cs n i e) (fun rv=>(aoi g lv md vc vl ch gs cs n i e y rv).trans (by rw[hd rv];rfl)) (Oc e _) (fun w v h=>qN hy h) Og
end Go.Fx.Tryz

namespace Go.Fx
open Go Go.RowKit
def oU {α β:Type}(R:α→β→List (Value×List Int)→Prop):List α→List β→List (Value×List Int)→Prop
 |[],[],ps=>ps=[]
 |a::us,b::bs,ps=>∃q r,ps=q++r∧R a b q∧oU R us bs r
 |_,_,_=>False
theorem oU.snoc {α β:Type}{R:α→β→List (Value×List Int)→Prop}{a:α}{b:β}{q:List (Value×List Int)}(h:R a b q):∀{us:List α} {bs:List β} {ps:List (Value×List Int)},oU R us bs ps→oU R (us++[a]) (bs++[b]) (ps++q)
 |[],[],ps,k=>by
  have k:ps=[]:=k
  subst k
  exact⟨q,[],by simp,h,rfl⟩
 |x::us,y::bs,ps,k=>by
  obtain⟨u,v,rfl,h1,h2⟩:=k
  exact⟨u,v++q,by rw[List.append_assoc],h1,oU.snoc h h2⟩
 |[],_::_,_,k=>k.elim
 |_::_,[],_,k=>k.elim
theorem oU.len {α β:Type}{R:α→β→List (Value×List Int)→Prop}:∀{us:List α} {bs:List β} {ps:List (Value×List Int)},oU R us bs ps→us.length=bs.length
 |[],[],_,_=>rfl
 |_::us,_::bs,_,k=>by obtain⟨u,v,_,_,h2⟩:=k;simp[oU.len h2]
 |[],_::_,_,k=>k.elim
 |_::_,[],_,k=>k.elim
end Go.Fx
namespace Go.Fx.Tryz
open Go Go.Proofs Go.Fx Go.RowKit
set_option maxRecDepth 100000
def Xt (h:fB.dJ)(y:dJ)(ps:List (Value×List Int)):Prop:=∃rv,h=nH rv y∧ps=jm rv (sJ y)
def Xu (h:fB.bZ)(y:bZ)(ps:List (Value×List Int)):Prop:=∃rv,h=nI rv y∧ps=jm rv (Nj y)
theorem aky {g:Nat}{lv:Int}{md:Bool}{vc vl:Value}{li:List dJ}{ys:List dJ}{may:Nat→Prop}{w:World}{ow:Ow}{a:Act}{Q:Exit→Act→World→Prop}(hlen:ys.length=li.length)(hy:∀(j:Nat)(e y:dJ),li[j]? =some e→ys[j]? =some y→bg.F (e,())=some (y,()))(hb:li.length<100000000)
  (I:aK n_ 54 may (S5 g lv md vc vl li [] (li.length:Int) 0) a w ow)
  (hQ:∀zs ps a' w' aO,aK n_ 54 may (S5 g lv md vc vl li zs (li.length:Int) (li.length:Int)) a' w' aO→Kp may w ow (Nh lv md vc vl []) w' aO (Nh lv md vc vl zs)→oU Xt zs ys ps→oP 114 w' (fun b=>w.heap.size≤b∧ay aO (Nh lv md vc vl zs) b) ps→Q .normal a' w'):bT0.wp Tryz.prog Q a w:=by
 refine wp_block (wp_loop (fun a' w'=>∃(j:Nat) (zs:List fB.dJ) (ps:List (Value×List Int)) (aO:Ow),j≤li.length∧aK n_ 54 may (S5 g lv md vc vl li zs (li.length:Int) (j:Int)) a' w' aO∧Kp may w ow (Nh lv md vc vl []) w' aO (Nh lv md vc vl zs)∧oU Xt zs (ys.take j) ps∧oP 114 w' (fun b=>w.heap.size≤b∧ay aO (Nh lv md vc vl zs) b) ps) (fun a' _=>li.length-bV 23 a') ⟨0,[],[],ow,Nat.zero_le _,I,Kp.refl _ _ _ _,by rw[List.take_zero];rfl,oP.nil⟩ ?_)
 rintro a1 w1 ⟨j,zs,ps,jZ,hj,I1,K1,HA,HH⟩
 have sK:bV 23 a1=j:=I1.bV rfl
 have hzl:zs.length=j:=by rw[HA.len,List.length_take];omega
 refine wp_seq (dO aH aF.ck mix I1 (t5a g lv md vc vl li zs (li.length:Int) (j:Int)) (fun s' a2 w2 gV e I2 K2=> ?_) (fun _ _ _ _ _ e=>by cases e) (fun _ _ _ _ e=>by cases e))
 cases e
 by_cases dX:j<li.length
 ·have e:=t5b g lv md vc vl li zs (li.length:Int) (j:Int) (decide ((j:Int)<(li.length:Int)))
  rw[decide_eq_true (by omega:(j:Int)<(li.length:Int))]at e I2
  refine wp_seq (dO aH aF.ck mix I2 e (fun s' a3 w3 qA e I3 K3=> ?_) (fun _ _ _ _ _ e=>by cases e) (fun _ _ _ _ e=>by cases e))
  cases e
  have e6:=asi g lv md vc vl li zs (li.length:Int) (j:Int)
  have h1:(decide ((0:Int)≤(j:Int))&&decide ((j:Int)<(List.length li:Int)))=true:=by simp[dX]
  rw[h1,Int.toNat_natCast]at e6
  refine wp_seq (wp_block (wp_seq (dO aH aF.ck mix I3 e6 (fun s' a4 w4 ED e I4 K4=> ?_) (fun _ _ _ _ _ e=>by cases e) (fun _ _ _ _ e=>by cases e))))
  cases e
  have hjy:j<ys.length:=by omega
  have hyj:ys[j]? =some ys[j]:=List.getElem?_eq_getElem hjy
  have hej:li[j]? =some (List.getD li j aA):=by rw[List.getD_eq_getElem?_getD,List.getElem?_eq_getElem dX];rfl
  refine ag9 (hy j _ _ hej hyj) (by rw[hzl];show j+1<zy 256;have:100000000≤zy 256:=(by decide);omega) I4 fun rv a5 w5 Nc I5 K5 H5=> ?_
  have e8:=t8 g lv md vc vl li (List.append zs [nH rv ys[j]]) (li.length:Int) (j:Int)
  rw[tu (show j<4611686018427387904 by omega)]at e8
  refine dO aH aF.ck mix I5 e8 (fun s' a6 w6 Aq e I6 K6=> ?_) (fun _ _ _ _ _ e=>by cases e) (fun _ _ _ _ e=>by cases e)
  cases e
  have K14:Kp may w1 jZ (Nh lv md vc vl zs) w4 ED (pW lv md vc vl zs (List.getD li j aA)):=(K2.trans K3).trans K4
  have K16:Kp may w1 jZ (Nh lv md vc vl zs) w6 Aq (Nh lv md vc vl (List.append zs [nH rv ys[j]])):=(K14.trans K5).trans K6
  refine⟨⟨j+1,List.append zs [nH rv ys[j]],ps++jm rv (sJ ys[j]),Aq,dX,I6,K1.trans K16,?_,?_⟩,?_⟩
  ·rw [←List.take_append_getElem hjy]
   exact oU.snoc ⟨rv,rfl,rfl⟩ HA
  ·have G1:=HH.aW (w':=w6) (new':=fun b=>w.heap.size≤b∧ay Aq (Nh lv md vc vl (List.append zs [nH rv ys[j]])) b) (fun b hb hn=>(K16.stay b hb hn.2).2.2) fun b hb hn=>⟨hn.1,(K16.stay b hb hn.2).1⟩
   have G2:=H5.aW (w':=w6) (new':=fun b=>w.heap.size≤b∧ay Aq (Nh lv md vc vl (List.append zs [nH rv ys[j]])) b) (fun b hb hn=>(K6.stay b hb hn.2).2.2) fun b hb hn=>⟨by have:=K1.size;have:=K14.size;omega,(K6.stay b hb hn.2).1⟩
   refine G1.append G2 fun p hp q hq b e1 e2=> ?_
   have:=HH.lt p hp b e1
   have:=(H5.new q hq b e2).1
   have:=K14.size
   omega
  ·have h:bV 23 a6=j+1:=I6.bV rfl
   show li.length-bV 23 a6<li.length-bV 23 a1
   omega
 ·obtain rfl:j=li.length:=by omega
  have e:=t5b g lv md vc vl li zs (li.length:Int) (li.length:Int) (decide ((li.length:Int)<(li.length:Int)))
  rw[decide_eq_false (by omega:¬(li.length:Int)<(li.length:Int))]at e I2
  refine wp_seq (dO aH aF.ck mix I2 e (fun _ _ _ _ e=>by cases e) (fun j' s' a3 w3 qA e I3 K3=> ?_) (fun _ _ _ _ e=>by cases e))
  cases e
  simp only[Exit.then,Exit.inBlock,if_true]
  have SB:Kp may w1 jZ (Nh lv md vc vl zs) w3 qA (Nh lv md vc vl zs):=K2.trans K3
  refine hQ zs ps a3 w3 qA I3 (K1.trans SB) (by rw[List.take_of_length_le (by omega)]at HA;exact HA) (HH.aW (fun b hb hn=>(SB.stay b hb hn.2).2.2) fun b hb hn=>⟨hn.1,(SB.stay b hb hn.2).1⟩)
theorem akA {g:Nat}{lv:Int}{md:Bool}{vc vl:Value}{ch:List bZ}{gs:List fB.dJ}{ys:List bZ}{may:Nat→Prop}{w:World}{ow:Ow}{a:Act}{Q:Exit→Act→World→Prop}(hlen:ys.length=ch.length)(hy:∀(j:Nat)(e y:bZ),ch[j]? =some e→ys[j]? =some y→bD.F (e,())=some (y,()))(hb:ch.length<100000000)
  (I:aK n_ 54 may (vO g lv md vc vl ch gs [] (ch.length:Int) 0) a w ow)
  (hQ:∀zs ps a' w' aO,aK n_ 54 may (vO g lv md vc vl ch gs zs (ch.length:Int) (ch.length:Int)) a' w' aO→Kp may w ow (AX lv md vc vl gs []) w' aO (AX lv md vc vl gs zs)→oU Xu zs ys ps→oP 114 w' (fun b=>w.heap.size≤b∧ay aO (AX lv md vc vl gs zs) b) ps→Q .normal a' w'):bT2.wp Tryz.prog Q a w:=by
 refine wp_block (wp_loop (fun a' w'=>∃(j:Nat) (zs:List fB.bZ) (ps:List (Value×List Int)) (aO:Ow),j≤ch.length∧aK n_ 54 may (vO g lv md vc vl ch gs zs (ch.length:Int) (j:Int)) a' w' aO∧Kp may w ow (AX lv md vc vl gs []) w' aO (AX lv md vc vl gs zs)∧oU Xu zs (ys.take j) ps∧oP 114 w' (fun b=>w.heap.size≤b∧ay aO (AX lv md vc vl gs zs) b) ps) (fun a' _=>ch.length-bV 41 a') ⟨0,[],[],ow,Nat.zero_le _,I,Kp.refl _ _ _ _,by rw[List.take_zero];rfl,oP.nil⟩ ?_)
 rintro a1 w1 ⟨j,zs,ps,jZ,hj,I1,K1,HA,HH⟩
 have sK:bV 41 a1=j:=I1.bV rfl
 have hzl:zs.length=j:=by rw[HA.len,List.length_take];omega
 refine wp_seq (dO aH aF.ck mix I1 (asg g lv md vc vl ch gs zs (ch.length:Int) (j:Int)) (fun s' a2 w2 gV e I2 K2=> ?_) (fun _ _ _ _ _ e=>by cases e) (fun _ _ _ _ e=>by cases e))
 cases e
 by_cases dX:j<ch.length
 ·have e:=anD g lv md vc vl ch gs zs (ch.length:Int) (j:Int) (decide ((j:Int)<(ch.length:Int)))
  rw[decide_eq_true (by omega:(j:Int)<(ch.length:Int))]at e I2
  refine wp_seq (dO aH aF.ck mix I2 e (fun s' a3 w3 qA e I3 K3=> ?_) (fun _ _ _ _ _ e=>by cases e) (fun _ _ _ _ e=>by cases e))
  cases e
  have e6:=asj g lv md vc vl ch gs zs (ch.length:Int) (j:Int)
  have h1:(decide ((0:Int)≤(j:Int))&&decide ((j:Int)<(List.length ch:Int)))=true:=by simp[dX]
  rw[h1,Int.toNat_natCast]at e6
  refine wp_seq (wp_block (wp_seq (dO aH aF.ck mix I3 e6 (fun s' a4 w4 ED e I4 K4=> ?_) (fun _ _ _ _ _ e=>by cases e) (fun _ _ _ _ e=>by cases e))))
  cases e
  have hjy:j<ys.length:=by omega
  have hyj:ys[j]? =some ys[j]:=List.getElem?_eq_getElem hjy
  have hej:ch[j]? =some (List.getD ch j dN):=by rw[List.getD_eq_getElem?_getD,List.getElem?_eq_getElem dX];rfl
  refine ag_ (hy j _ _ hej hyj) (by rw[hzl];show j+1<zy 152;have:100000000≤zy 152:=(by decide);omega) I4 fun rv a5 w5 Nc I5 K5 H5=> ?_
  have e8:=t13 g lv md vc vl ch gs (List.append zs [nI rv ys[j]]) (ch.length:Int) (j:Int)
  rw[tu (show j<4611686018427387904 by omega)]at e8
  refine dO aH aF.ck mix I5 e8 (fun s' a6 w6 Aq e I6 K6=> ?_) (fun _ _ _ _ _ e=>by cases e) (fun _ _ _ _ e=>by cases e)
  cases e
  have K14:Kp may w1 jZ (AX lv md vc vl gs zs) w4 ED (pX lv md vc vl gs zs (List.getD ch j dN)):=(K2.trans K3).trans K4
  have K16:Kp may w1 jZ (AX lv md vc vl gs zs) w6 Aq (AX lv md vc vl gs (List.append zs [nI rv ys[j]])):=(K14.trans K5).trans K6
  refine⟨⟨j+1,List.append zs [nI rv ys[j]],ps++jm rv (Nj ys[j]),Aq,dX,I6,K1.trans K16,?_,?_⟩,?_⟩
  ·rw [←List.take_append_getElem hjy]
   exact oU.snoc ⟨rv,rfl,rfl⟩ HA
  ·have G1:=HH.aW (w':=w6) (new':=fun b=>w.heap.size≤b∧ay Aq (AX lv md vc vl gs (List.append zs [nI rv ys[j]])) b) (fun b hb hn=>(K16.stay b hb hn.2).2.2) fun b hb hn=>⟨hn.1,(K16.stay b hb hn.2).1⟩
   have G2:=H5.aW (w':=w6) (new':=fun b=>w.heap.size≤b∧ay Aq (AX lv md vc vl gs (List.append zs [nI rv ys[j]])) b) (fun b hb hn=>(K6.stay b hb hn.2).2.2) fun b hb hn=>⟨by have:=K1.size;have:=K14.size;omega,(K6.stay b hb hn.2).1⟩
   refine G1.append G2 fun p hp q hq b e1 e2=> ?_
   have:=HH.lt p hp b e1
   have:=(H5.new q hq b e2).1
   have:=K14.size
   omega
  ·have h:bV 41 a6=j+1:=I6.bV rfl
   show ch.length-bV 41 a6<ch.length-bV 41 a1
   omega
 ·obtain rfl:j=ch.length:=by omega
  have e:=anD g lv md vc vl ch gs zs (ch.length:Int) (ch.length:Int) (decide ((ch.length:Int)<(ch.length:Int)))
  rw[decide_eq_false (by omega:¬(ch.length:Int)<(ch.length:Int))]at e I2
  refine wp_seq (dO aH aF.ck mix I2 e (fun _ _ _ _ e=>by cases e) (fun j' s' a3 w3 qA e I3 K3=> ?_) (fun _ _ _ _ e=>by cases e))
  cases e
  simp only[Exit.then,Exit.inBlock,if_true]
  have SB:Kp may w1 jZ (AX lv md vc vl gs zs) w3 qA (AX lv md vc vl gs zs):=K2.trans K3
  refine hQ zs ps a3 w3 qA I3 (K1.trans SB) (by rw[List.take_of_length_le (by omega)]at HA;exact HA) (HH.aW (fun b hb hn=>(SB.stay b hb hn.2).2.2) fun b hb hn=>⟨hn.1,(SB.stay b hb hn.2).1⟩)
end Go.Fx.Tryz

namespace Go.Fx.Tryz
open Go Go.Proofs Go.Fx Go.RowKit
set_option maxRecDepth 100000
abbrev ptr (g:Nat):Value:= .pointer (some ⟨g,0,none⟩)
abbrev Gz (w:World)(g:Nat):Nat→Prop:=fun b=>w.heap.size≤b∨b=g
structure nR (w:World) (g:Nat) (lv:Int) (md:Bool) (vc vl:Value):Prop where
 cells:w.heap[g]? =some (.cells #[.int .i64 lv,vc,.bool md,vl] 81 (0,0))
 c:∃A n c,vc=Value.slice A n c
 l:∃A n c,vl=Value.slice A n c
section
variable {w w':World} {g:Nat} {lv:Int} {md:Bool} {vc vl:Value} {C:ak} {N:Nat} {a:Act}
theorem nR.lt (h:nR w g lv md vc vl):g<w.heap.size:=(Array.getElem?_eq_some_iff.1 h.cells).1
theorem Di {m:Mem}{ow:Ow}(hr:m.rows=[])(hb:ow.bb=[some g]){x:Th}{b:Nat}(hm:m.boxes=[Xp lv md vc vl])(h:eG ow m x=some b):x= .box 0∧b=g:=by
 cases x with
 |row i=>simp[eG,Mem.row?,hr]at h
 |box i=>
  cases i with
  |zero=>
   simp only[eG,Mem.box?,hm,hb]at h
   exact⟨rfl,(Option.some.inj h).symm⟩
  |succ i=>simp[eG,Mem.box?,hm]at h
theorem nR.MW (h:nR w g lv md vc vl)(hC:C.aJ=fun _=>none)(h0:a.tmps.getD 0 undef=ptr g)(hN:a.tmps.size=N)(hd:a.defers=[]):aK C N (Gz w g) (st0 g lv md vc vl) a w ⟨[],[some g]⟩:=by
 refine⟨⟨fun b hb=> .inl hb,(fun g tb e=>by rw[hC]at e;cases e),(fun g tb e=>by rw[hC]at e;cases e)⟩,⟨rfl,rfl,fun i row e=>by simp[Mem.row?]at e,fun i bx e=> ?_,fun x y b h1 h2=> ?_,fun x b h1=> ?_,fun i hi e=> ?_⟩,dw.of ⟨⟨rfl,h0⟩,trivial⟩,hN,hd⟩
 ·cases i with
  |zero=>
   have e:Xp lv md vc vl=some bx:=e
   obtain rfl:=Option.some.inj e
   refine⟨g,rfl,_,h.cells,?_⟩
   exact⟨rfl,⟨rfl,h.c⟩,rfl,⟨rfl,h.l⟩,trivial⟩
  |succ i=>simp[Mem.box?]at e
 ·rw [(Di rfl rfl rfl h1).1,(Di rfl rfl rfl h2).1]
 ·obtain ⟨_,rfl⟩:=Di rfl rfl rfl h1
  exact⟨.inr rfl,h.lt⟩
 ·cases i with
  |zero=>cases e
  |succ i=>simp at hi
theorem nR.of (M:∃(may:Nat→Prop)(ow:Ow)(m:Mem),aC w may ow m∧ow.bb[0]? =some (some g)∧m.box? 0=Xp lv md vc vl):nR w g lv md vc vl:=by
 obtain⟨may,ow,m,M,hb,hm⟩:=M
 obtain⟨g',zA,vs,hv,hF⟩:=M.boxes 0 _ hm
 obtain rfl:g=g':=by rw[hb]at zA;exact Option.some.inj (Option.some.inj zA)
 match vs,hF with
 |[v1,v2,v3,v4],hF=>
  obtain⟨h1,h2,h3,h4,_⟩:=hF
  obtain rfl:v1= .int .i64 lv:=(List.cons.inj (h1:[v1]=[Value.int .i64 lv])).1
  obtain rfl:v3= .bool md:=(List.cons.inj (h3:[v3]=[Value.bool md])).1
  obtain⟨e2,c2⟩:[v2]=[vc]∧_:=h2
  obtain⟨e4,c4⟩:[v4]=[vl]∧_:=h4
  obtain rfl:=(List.cons.inj e2).1
  obtain rfl:=(List.cons.inj e4).1
  exact⟨hv,c2,c4⟩
theorem nR.below (h:nR w g lv md vc vl){aO:Ow}{m':Mem}(h':nR w' g lv md vc vl)(K:Kp (Gz w g) w ⟨[],[some g]⟩ (st0 g lv md vc vl).m w' aO m'):Below w.heap.size w w':=by
 refine⟨K.os,K.tape,K.output,K.size,fun b hb=> ?_⟩
 by_cases e:b=g
 ·subst e;rw[h.cells,h'.cells]
 ·exact K.frame b hb (by rintro(h|h)<;>omega)
end
noncomputable def isB:Code:=match Tryz.f36.body with
 |some c=>c
 |none=> .skip
theorem ahb:Tryz.f36.body=some isB:=by kernel_rfl
theorem is0 (g:Nat)(lv:Int)(md:Bool)(vc vl:Value):xH (ak.base aJ) T 11 9 isB (st0 g lv md vc vl) [(0,csS),(2,.lf (.v true))]=some (.rt ⟨[(0,.kX 0 0 g),(2,cb md)],(st0 g lv md vc vl).m⟩):=by kernel_rfl
theorem ad_ {w:World}{g:Nat}{lv:Int}{md:Bool}{vc vl:Value}(h:nR w g lv md vc vl):Calls Tryz.prog 36 #[ptr g] w fun e w'=>e= .returned (.bool md)∧Below w.heap.size w w':=by
 refine calls_of_wp Tryz.func36 ahb ?_
 obtain⟨a0,DF⟩:∃a0:Act,a0={tmps:= #[ptr g]++Array.replicate (Tryz.f36.ntmps-(#[ptr g]:Array Value).size) undef,defers:=[]}:=⟨_,rfl⟩
 have h0:a0.tmps.getD 0 undef=ptr g:=by rw[DF];exact Ar
 have h1:a0.tmps.size=11:=by rw[DF];exact Au (by kernel_rfl)
 have h2:a0.defers=[]:=by rw[DF]
 rw[←DF]
 refine dO aH (ah.base aX) mix (h.MW rfl h0 h1 h2) (is0 g lv md vc vl) (fun _ _ _ _ e=>by cases e) (fun _ _ _ _ _ e=>by cases e) (fun s' a' w' aO e I K=> ?_)
 cases e
 have e2:[a'.tmps.getD 2 undef]=[Value.bool md]:=I.fr 2
 have hp:aO.bb[0]? =some (some g):=(I.fr 0:_∧_).1
 refine⟨I.defers,.bool md,?_,rfl,h.below (nR.of ⟨_,_,_,I.mem,hp,rfl⟩) K⟩
 rw[results_tmp (t:=2) rfl,(List.cons.inj e2).1]
open Go.BigFrame (wp_move wp_assign)
set_option maxRecDepth 100000
structure akB (w w':World) (lv:Int) (ys:List dJ) (zs:List bZ) (u:Value):Prop where
 told:∃(gs:List fB.dJ) (cs:List fB.bZ) (ps qs:List (Value×List Int)) (v1 v2:Value),u= .agg #[v1,.int .i64 lv,v2]∧oU Xt gs ys ps∧oU Xu cs zs qs∧oP 114 w' (fun b=>w.heap.size≤b∧v1.ownBlock≠some b∧v2.ownBlock≠some b) (ps++qs)∧
  (∃c1,w'.ownsRow 0 68 16 v1 gs.length c1∧∀ok,aY w' ok fB.fD gs c1)∧(∃c2,w'.ownsRow 0 70 11 v2 cs.length c2∧∀ok,aY w' ok fB.fU cs c2)∧
  (∀b,v1.ownBlock=some b→w.heap.size≤b∧v2.ownBlock≠some b)∧(∀b,v2.ownBlock=some b→w.heap.size≤b)
 below:Below w.heap.size w w'
theorem asn:∃o,(iK 1)[0]? =some o∧o.guard=none∧o.dst=some 8∧o.op= .move (.tmp 0):=⟨_,rfl,rfl,rfl,rfl⟩
theorem aso:∃o,(iK 1)[1]? =some o∧o.guard=none∧o.dst=some 9∧∃ty,o.op= .call {callee:= .value (.func 36),args:= #[.tmp 8],argTypes:=ty}:=⟨_,rfl,rfl,rfl,_,rfl⟩
theorem rg1:List.range (iK 1).size=[0,1,2]:=by kernel_rfl
theorem rg4:List.range (iK 4).size=[0,1,2,3]++[4,5]:=by kernel_rfl
theorem rg9:List.range (iK 9).size=[0,1,2,3,4]++[5,6]:=by kernel_rfl
theorem sz1:(iK 1).size=3:=by kernel_rfl
theorem sz4:(iK 4).size=6:=by kernel_rfl
theorem sz9:(iK 9).size=7:=by kernel_rfl
theorem akC:n_.aJ=fun _=>none:=rfl
theorem aok (g:Nat)(lv:Int)(md:Bool)(vc vl:Value)(gs:List fB.dJ)(cs:List fB.bZ):iV (Tryz.f14.results.toList.map (GX fB.T ⟨[(0,.kX 0 0 g),(2,.box 1 0)],⟨[some (DN gs),some (Gy cs)],[Xp lv md vc vl,some ⟨32,[.own 0,.val true (.int .i64) lv,.own 1]⟩]⟩⟩))=some [.agg [.own 0,.val true (.int .i64) lv,.own 1]]:=by kernel_rfl
theorem Vf {w:World}{g:Nat}{lv:Int}{vc vl:Value}{ch:List bZ}{li:List dJ}{ys:List dJ}{zs:List bZ}(h:nR w g lv true vc vl)(hC:Rd w (fun b=>b≠g) (.sl 70 fU) ch [vc])(hL:Rd w (fun b=>b≠g) (.sl 68 fD) li [vl])
  (ly:ys.length=li.length) (lz:zs.length=ch.length) (hy:∀(j:Nat) (e y:dJ),li[j]? =some e→ys[j]? =some y→bg.F (e,())=some (y,())) (hz:∀(j:Nat) (e y:bZ),ch[j]? =some e→zs[j]? =some y→bD.F (e,())=some (y,())) (b1:li.length<100000000) (b2:ch.length<100000000):
  Calls Tryz.prog 14 #[ptr g] w fun e w'=>∃u,e= .returned u∧akB w w' lv ys zs u:=by
 refine calls_of_wp Tryz.func14 ag6 ?_
 obtain⟨a0,DF⟩:∃a0:Act,a0={tmps:= #[ptr g]++Array.replicate (Tryz.f14.ntmps-(#[ptr g]:Array Value).size) undef,defers:=[]}:=⟨_,rfl⟩
 have h0:a0.tmps.getD 0 undef=ptr g:=by rw[DF];exact Ar
 have h1:a0.tmps.size=54:=by rw[DF];exact Au (by kernel_rfl)
 have h2:a0.defers=[]:=by rw[DF]
 rw[←DF]
 clear DF
 have I0:aK n_ 54 (Gz w g) (st0 g lv true vc vl) a0 w ⟨[],[some g]⟩:=h.MW akC h0 h1 h2
 refine wp_seq (dO aH aF.ck mix I0 (t0 g lv true vc vl) (fun s' a1 w1 jZ e I1 K1=> ?_) (fun _ _ _ _ _ e=>by cases e) (fun _ _ _ _ e=>by cases e))
 cases e
 refine wp_seq (wp_seq ?_)
 rw[rT1]
 refine wp_region ?_
 rw[rg1]
 obtain⟨o,ho,RI,RJ,NR⟩:=asn
 refine o9 ho RI (wp_move _ NR ?_)
 rw[RJ]
 have p1:a1.tmps.getD 0 undef=ptr g:=(I1.fr 0:_∧_).2
 have e0:a1.eval (.tmp 0)=ptr g:=p1
 rw[e0]
 have S1:=(AV.refl [0,2] a1).put (t:=8) (ptr g) (by decide)
 have g8:(a1.put (some 8) (ptr g)).tmps.getD 8 undef=ptr g:=lD (by rw[I1.size];decide)
 generalize a1.put (some 8) (ptr g)=a1' at S1 g8
 have bb1:jZ.bb[0]? =some (some g):=(I1.fr 0:_∧_).1
 have St1:nR w1 g lv true vc vl:=nR.of ⟨_,_,_,I1.mem,bb1,rfl⟩
 obtain⟨o,ho,RI,RJ,ty,NR⟩:=aso
 refine o9 ho RI (oO NR dB.bU.fn rfl rfl ?_)
 have e8: #[Operand.tmp 8].toList.map a1'.eval=[ptr g]:=by rw[←g8];rfl
 show Calls Tryz.prog 36 (#[Operand.tmp 8].toList.map a1'.eval).toArray w1 _
 rw[e8]
 refine(ad_ St1).mono fun e w2 he=> ?_
 obtain⟨rfl,B2⟩:=he
 refine⟨.bool true,rfl,?_⟩
 rw[RJ]
 have S2:=S1.put (t:=9) (.bool true) (by decide)
 have g9:(a1'.put (some 9) (.bool true)).tmps.getD 9 undef= .bool true:=lD (by rw[S1.size,I1.size];decide)
 generalize a1'.put (some 9) (.bool true)=a2 at S2 g9
 have I2:aK n_ 54 (Gz w g) (Ir g lv true vc vl) a2 w2 jZ:=I1.sH B2 (fun t ht=>S2.get t ht) S2.size S2.defers
 have I2':aK n_ 54 (Gz w g) ⟨(Ir g lv true vc vl).fr++[(9,cb true)],(Ir g lv true vc vl).m⟩ a2 w2 jZ:=I2.more ⟨by show[a2.tmps.getD 9 undef]=[Value.bool true];rw[g9],trivial⟩
 have K2:Kp (Gz w g) w1 jZ (Ir g lv true vc vl).m w2 jZ (Ir g lv true vc vl).m:=(dZ.sH B2).kp
 refine ni aH aF.ck I2' (by rw[sz1];decide) (t1b g lv vc vl) fun a3 w3 qA I3 K3=> ?_
 refine dO aH aF.ck mix I3 (t1c g lv vc vl) (fun s' a4 w4 ED e I4 K4=> ?_) (fun _ _ _ _ _ e=>by cases e) (fun _ _ _ _ e=>by cases e)
 cases e
 refine wp_seq (dO aH aF.ck mix I4 (t3 g lv true vc vl) (fun s' a5 w5 Nc e I5 K5=> ?_) (fun _ _ _ _ _ e=>by cases e) (fun _ _ _ _ e=>by cases e))
 cases e
 refine wp_seq (wp_seq ?_)
 rw[rT4]
 refine wp_region ?_
 rw[rg4]
 refine kL _ _ _ _ ?_
 refine ni aH aF.ck I5 (by rw[sz4];decide) (t4a g lv true vc vl) fun a6 w6 Aq I6 K6=> ?_
 have K06:Kp (Gz w g) w ⟨[],[some g]⟩ (st0 g lv true vc vl).m w6 Aq (st3 g lv true vc vl).m:=((((K1.trans K2).trans K3).trans K4).trans K5).trans K6
 have stay:∀{wx:World} {owx:Ow} {mx:Mem},Kp (Gz w g) w ⟨[],[some g]⟩ (st0 g lv true vc vl).m wx owx mx→∀b,b<w.heap.size→b≠g→ay owx mx b∧b<wx.heap.size∧wx.heap[b]? =w.heap[b]? :=fun K b hb hn=>K.stay b hb fun x hx=>hn (Di rfl rfl rfl hx).2
 have d21:[a6.tmps.getD 21 undef]=[vl]∧_:=I6.fr 21
 have L6:Rd w6 (o7 (ay Aq (st3 g lv true vc vl).m) (Gz w g) false) (.sl 68 fD) li [a6.tmps.getD 21 undef]:=by
  rw[d21.1]
  exact hL.aW fun b hb hn=>⟨⟨(stay K06 b hb hn).1,fun e=>by cases e⟩,(stay K06 b hb hn).2⟩
 have I6':aK n_ 54 (Gz w g) ⟨(st3 g lv true vc vl).fr++[(21,.one (.lf (.val false (.sl 68 fD) li)))],(st3 g lv true vc vl).m⟩ a6 w6 Aq:=I6.reset ⟨I6.fr 0,I6.fr 2,I6.fr 3,L6,trivial⟩
 refine ni aH aF.ck I6' (by rw[sz4];decide) (t4b g lv true vc vl li) fun a7 w7 ow7 I7 K7=> ?_
 show bT0.wp Tryz.prog _ a7 w7
 refine aky ly hy b1 I7 fun gs ps a8 w8 ow8 I8 K8 HA HH=> ?_
 have K08:=(K06.trans K7).trans K8
 refine wp_seq (wp_seq ?_)
 rw[rT9]
 refine wp_region ?_
 rw[rg9]
 refine kL _ _ _ _ ?_
 refine ni aH aF.ck I8 (by rw[sz9];decide) (t9a g lv true vc vl li gs _ _) fun a9 w9 ow9 I9 K9=> ?_
 have K09:Kp (Gz w g) w ⟨[],[some g]⟩ (st0 g lv true vc vl).m w9 ow9 (Nh lv true vc vl gs):=K08.trans K9
 have d39:[a9.tmps.getD 39 undef]=[vc]∧_:=I9.fr 39
 have C9:Rd w9 (o7 (ay ow9 (Nh lv true vc vl gs)) (Gz w g) false) (.sl 70 fU) ch [a9.tmps.getD 39 undef]:=by
  rw[d39.1]
  exact hC.aW fun b hb hn=>⟨⟨(stay K09 b hb hn).1,fun e=>by cases e⟩,(stay K09 b hb hn).2⟩
 have I9':aK n_ 54 (Gz w g) ⟨[(0,.kX 0 0 g),(2,.box 1 0),(3,.box 2 0),(39,.one (.lf (.val false (.sl 70 fU) ch)))],Nh lv true vc vl gs⟩ a9 w9 ow9:=I9.reset ⟨I9.fr 0,I9.fr 2,I9.fr 3,C9,trivial⟩
 refine ni aH aF.ck I9' (by rw[sz9];decide) (t9b g lv true vc vl ch gs) fun a10 w10 asu I10 K10=> ?_
 show bT2.wp Tryz.prog _ a10 w10
 refine akA lz hz b2 I10 fun cs qs a11 w11 asv I11 K11 HB HG=> ?_
 refine dO fB.aH aF.ck mix I11 (t14 g lv true vc vl ch gs cs _ _) (fun _ _ _ _ e=>by cases e) (fun _ _ _ _ _ e=>by cases e) (fun s' a12 w12 Vg e I12 K12=> ?_)
 cases e
 have ahc:=((K9.trans K10).trans K11).trans K12
 have asx:Kp (Gz w g) w ⟨[],[some g]⟩ (st0 g lv true vc vl).m w12 Vg ⟨[some (DN gs),some (Gy cs)],[Xp lv true vc vl,some ⟨32,[.own 0,.val true (.int .i64) lv,.own 1]⟩]⟩:=K08.trans ahc
 obtain⟨us,hF,yC⟩:=D8 fB.aH I12.mem I12.fr (aok g lv true vc vl gs cs)
 match us,hF,yC with
 |[u],hF,yC=>
  obtain⟨⟨vs,rfl,hv⟩,_⟩:=hF
  match vs,hv with
  |[v1,x,v2],hv=>
   obtain⟨⟨r1,s1⟩,hx,⟨r2,s2⟩,_⟩:=hv
   obtain rfl:x= .int .i64 lv:=(List.cons.inj (hx:[x]=[Value.int .i64 lv])).1
   obtain⟨v1',c1,e1,sl1,asy,rd1⟩:=I12.mem.own (r:=0) (row:=DN gs) rfl rfl rfl
   obtain⟨v2',c2,e2,sl2,asz,rd2⟩:=I12.mem.own (r:=1) (row:=Gy cs) rfl rfl rfl
   obtain rfl:v1=v1':=Option.some.inj (r1.symm.trans e1)
   obtain rfl:v2=v2':=Option.some.inj (r2.symm.trans e2)
   have k1:∀b,v1.ownBlock=some b→eG Vg ⟨[some (DN gs),some (Gy cs)],[Xp lv true vc vl,some ⟨32,[.own 0,.val true (.int .i64) lv,.own 1]⟩]⟩ (.row 0)=some b:=fun b e=>by rw[fF rfl r1 rfl,jl sl1];exact e
   have k2:∀b,v2.ownBlock=some b→eG Vg ⟨[some (DN gs),some (Gy cs)],[Xp lv true vc vl,some ⟨32,[.own 0,.val true (.int .i64) lv,.own 1]⟩]⟩ (.row 1)=some b:=fun b e=>by rw[fF rfl r2 rfl,jl sl2];exact e
   have hp:Vg.bb[0]? =some (some g):=(I12.fr 0:_∧_).1
   have kg:eG Vg ⟨[some (DN gs),some (Gy cs)],[Xp lv true vc vl,some ⟨32,[.own 0,.val true (.int .i64) lv,.own 1]⟩]⟩ (.box 0)=some g:=by
    show(Vg.bb[0]?).bind id=some g
    rw[hp];rfl
   have new:∀x b,eG Vg ⟨[some (DN gs),some (Gy cs)],[Xp lv true vc vl,some ⟨32,[.own 0,.val true (.int .i64) lv,.own 1]⟩]⟩ x=some b→x≠.box 0→w.heap.size≤b:=fun x' b hb wH=>by
    rcases(I12.mem.fH x' b hb).1 with hm|hm
    ·exact hm
    ·subst hm;exact absurd (I12.mem.qp _ _ _ hb kg) wH
   refine⟨I12.defers,.agg #[v1,.int .i64 lv,v2],?_,_,rfl,⟨gs,cs,ps,qs,v1,v2,rfl,HA,HB,?_,⟨c1,asy,fun ok=>aY.flat rfl rd1⟩,⟨c2,asz,fun ok=>aY.flat rfl rd2⟩,fun b e=>⟨new _ b (k1 b e) (by intro h;cases h),fun e'=> ?_⟩,fun b e=>new _ b (k2 b e) (by intro h;cases h)⟩,h.below (nR.of ⟨_,_,_,I12.mem,hp,rfl⟩) asx⟩
   ·exact yC
   ·have G1:=HH.aW (w':=w12) (new':=fun b=>w.heap.size≤b∧v1.ownBlock≠some b∧v2.ownBlock≠some b) (fun b hb hn=>(ahc.stay b hb hn.2).2.2) fun b hb hn=>⟨by have:=K06.size;have:=K7.size;have:=hn.1;omega,fun e=>(ahc.stay b hb hn.2).1 _ (k1 b e),fun e=>(ahc.stay b hb hn.2).1 _ (k2 b e)⟩
    have G2:=HG.aW (w':=w12) (new':=fun b=>w.heap.size≤b∧v1.ownBlock≠some b∧v2.ownBlock≠some b) (fun b hb hn=>(K12.stay b hb hn.2).2.2) fun b hb hn=>⟨by have:=K09.size;have:=K10.size;have:=hn.1;omega,fun e=>(K12.stay b hb hn.2).1 _ (k1 b e),fun e=>(K12.stay b hb hn.2).1 _ (k2 b e)⟩
    refine G1.append G2 fun p hp q hq b e1 e2=> ?_
    have:=HH.lt p hp b e1
    have:=(HG.new q hq b e2).1
    have:=K9.size
    have:=K10.size
    omega
   ·have:=I12.mem.qp _ _ b (k1 b e) (k2 b e')
    cases this
end Go.Fx.Tryz
