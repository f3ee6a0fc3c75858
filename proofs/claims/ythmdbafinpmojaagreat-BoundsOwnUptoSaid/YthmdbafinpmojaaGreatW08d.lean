import Derived.Test.YthmdbafinpmojaaGreatEvD
import Derived.Test.YthmdbafinpmojaaGreatProg
set_option linter.unusedVariables false
set_option linter.unusedSimpArgs false
namespace Go.Fx.fB
open Go Go.Proofs Go.Fx
set_option maxRecDepth 100000
noncomputable section
def ti4:TI:=⟨.bool,.bool,false,1⟩
def T4:dH:=dH.cons 4 ti4 dH.nil
theorem acn:aZ Tryz.prog T4:=mW (by kernel_rfl) aZ.nil
def ajg:TI:=⟨.other,.hd,false,24⟩
def T38:dH:=dH.cons 38 ajg T4
theorem aco:aZ Tryz.prog T38:=mW (by kernel_rfl) acn
def ajh:TI:=⟨.struct [(0,4),(1,38)],(.prod .bool .hd),true,32⟩
def T40:dH:=dH.cons 40 ajh T38
theorem acp:aZ Tryz.prog T40:=mW (by kernel_rfl) aco
def aji:TI:=⟨.struct [(0,40),(2,38)],(.prod (.prod .bool .hd) .hd),true,56⟩
def T42:dH:=dH.cons 42 aji T40
theorem acr:aZ Tryz.prog T42:=mW (by kernel_rfl) acp
def ajj:TI:=⟨.struct [(0,42),(3,42)],(.prod (.prod (.prod .bool .hd) .hd) (.prod (.prod .bool .hd) .hd)),true,112⟩
def T44:dH:=dH.cons 44 ajj T42
theorem acs:aZ Tryz.prog T44:=mW (by kernel_rfl) acr
def ajp:TI:=⟨.other,.hd,false,24⟩
def T37:dH:=dH.cons 37 ajp T44
theorem acA:aZ Tryz.prog T37:=mW (by kernel_rfl) acs
def ajq:TI:=⟨.sl 37,(.sl 37 .hd),false,24⟩
def T61:dH:=dH.cons 61 ajq T37
theorem acB:aZ Tryz.prog T61:=mW (by kernel_rfl) acA
def ti3:TI:=⟨.int .i64,(.int .i64),false,8⟩
def T3:dH:=dH.cons 3 ti3 T61
theorem acj:aZ Tryz.prog T3:=mW (by kernel_rfl) acB
def ajk:TI:=⟨.struct [(0,4),(1,44),(7,3)],(.prod .bool (.prod (.prod (.prod (.prod .bool .hd) .hd) (.prod (.prod .bool .hd) .hd)) (.int .i64))),true,128⟩
def T66:dH:=dH.cons 66 ajk T3
theorem acu:aZ Tryz.prog T66:=mW (by kernel_rfl) acj
def afQ:TI:=⟨.struct [(0,66),(8,66)],(.prod (.prod .bool (.prod (.prod (.prod (.prod .bool .hd) .hd) (.prod (.prod .bool .hd) .hd)) (.int .i64))) (.prod .bool (.prod (.prod (.prod (.prod .bool .hd) .hd) (.prod (.prod .bool .hd) .hd)) (.int .i64)))),true,256⟩
def T68:dH:=dH.cons 68 afQ T66
theorem acy:aZ Tryz.prog T68:=mW (by kernel_rfl) acu
def ZW:TI:=⟨.sl 68,(.sl 68 (.prod (.prod .bool (.prod (.prod (.prod (.prod .bool .hd) .hd) (.prod (.prod .bool .hd) .hd)) (.int .i64))) (.prod .bool (.prod (.prod (.prod (.prod .bool .hd) .hd) (.prod (.prod .bool .hd) .hd)) (.int .i64))))),false,24⟩
def T29:dH:=dH.cons 29 ZW T68
theorem Uy:aZ Tryz.prog T29:=mW (by kernel_rfl) acy
def acv:TI:=⟨.struct [(0,3),(1,4),(2,3),(3,66)],(.prod (.int .i64) (.prod .bool (.prod (.int .i64) (.prod .bool (.prod (.prod (.prod (.prod .bool .hd) .hd) (.prod (.prod .bool .hd) .hd)) (.int .i64)))))),true,152⟩
def T70:dH:=dH.cons 70 acv T29
theorem acw:aZ Tryz.prog T70:=mW (by kernel_rfl) Uy
def ZV:TI:=⟨.sl 70,(.sl 70 (.prod (.int .i64) (.prod .bool (.prod (.int .i64) (.prod .bool (.prod (.prod (.prod (.prod .bool .hd) .hd) (.prod (.prod .bool .hd) .hd)) (.int .i64))))))),false,24⟩
def T30:dH:=dH.cons 30 ZV T70
theorem Ux:aZ Tryz.prog T30:=mW (by kernel_rfl) acw
def ZX:TI:=⟨.struct [(0,29),(1,3),(2,30)],(.prod (.sl 68 (.prod (.prod .bool (.prod (.prod (.prod (.prod .bool .hd) .hd) (.prod (.prod .bool .hd) .hd)) (.int .i64))) (.prod .bool (.prod (.prod (.prod (.prod .bool .hd) .hd) (.prod (.prod .bool .hd) .hd)) (.int .i64))))) (.prod (.int .i64) (.sl 70 (.prod (.int .i64) (.prod .bool (.prod (.int .i64) (.prod .bool (.prod (.prod (.prod (.prod .bool .hd) .hd) (.prod (.prod .bool .hd) .hd)) (.int .i64))))))))),true,56⟩
def T32:dH:=dH.cons 32 ZX T30
theorem Uz:aZ Tryz.prog T32:=mW (by kernel_rfl) Ux
def T:dH:=T32
theorem aH:aZ Tryz.prog T:=Uz
theorem mix:Tryz.prog.follows .mixedOrders=true:=by kernel_rfl
def aJ:Nat→Option PW:=Hy
theorem aX:∀g tb,aJ g=some tb→Tv Tryz.prog tb:=OX
abbrev acL:K:=(.sl 37 .hd)
abbrev jV:Type:=(List Value)
abbrev arB:jV:=([]:List Value)
abbrev oD:K:=(.prod .bool .hd)
abbrev dK:Type:=(Bool×Value)
abbrev ZY:dK:=(false,(Value.slice none 0 0))
abbrev pq:K:=(.prod oD .hd)
abbrev fP:Type:=(dK×Value)
abbrev WW:fP:=(ZY,(Value.slice none 0 0))
abbrev nX:K:=(.prod pq pq)
abbrev cu:Type:=(fP×fP)
abbrev QI:cu:=(WW,WW)
abbrev zV:K:=(.prod .bool (.prod nX (.int .i64)))
abbrev jL:Type:=(Bool×(cu×Int))
abbrev HY:jL:=(false,(QI,(0:Int)))
abbrev fU:K:=(.prod (.int .i64) (.prod .bool (.prod (.int .i64) zV)))
abbrev bZ:Type:=(Int×(Bool×(Int×jL)))
abbrev dN:bZ:=((0:Int),(false,((0:Int),HY)))
abbrev FV:K:=(.sl 70 fU)
abbrev dA:Type:=(List bZ)
abbrev fD:K:=(.prod zV zV)
abbrev dJ:Type:=(jL×jL)
abbrev aA:dJ:=(HY,HY)
abbrev Ec:K:=(.sl 68 fD)
abbrev bC:Type:=(List dJ)
abbrev xP:K:=(.prod Ec (.prod (.int .i64) FV))
abbrev b_:Type:=(bC×(Int×dA))
namespace jY
def spec:Spec:=⟨[(true,nX)],[(false,acL)],.own,fun j=>match j with|_=>[]⟩
def au:ak:=(ak.base aJ)
def sig:kH:=spec.sig au T Tryz.f20
def F (x:cu×Unit):Option (jV×Unit):=eF spec au T Tryz.f20 x
theorem ck:ah Tryz.prog au:=(ah.base aX)
theorem bU:bW Tryz.prog aJ 20 sig:=fC aH ck mix Tryz.func20 (by kernel_rfl)
def e (a0:cu):Option (jV×Unit):=
 let v1:=([a0.1.1.2,a0.1.2,a0.2.1.2,a0.2.2]:List Value)
 some (v1,())
theorem of (k:Nat)(a0:cu){y:jV×Unit}(h:e a0=some y):F (a0,())=some y:=aV k (.trans (by kernel_rfl) h)
end jY
namespace qx
def spec:jH:=⟨none,false,[(false,acL),(false,acL)],true,none,[(false,acL)],true,fun j=>match j with|2=>[(0,.lf (.o 37 .hd true)),(1,.lf (.o 37 .hd true)),(5,.lf (.v true))]|_=>[],99⟩
def au:ak:=(ak.base aJ)
def sig:rP:=spec.sig au T Tryz.f23
def F (d:Unit)(x:jV×jV×Unit):Option (Unit×(jV×Unit)×Unit):=yE spec au T Tryz.f23 d x
theorem ck:ah Tryz.prog au:=(ah.base aX)
theorem bU:Oz Tryz.prog aJ 23 sig:=Dq aH ck mix Tryz.func23 (by kernel_rfl)
def m2 (x0:jV)(x1:jV)(x5:Int):S:=⟨[(0,.one (.lf (.own 0))),(1,.one (.lf (.own 1))),(5,.one (.lf (.val true (.int .i64) x5)))],⟨[some ⟨37,.hd,true,true,x0⟩,some ⟨37,.hd,true,true,x1⟩],[]⟩⟩
def b2 (f2:jV→jV→Int→Option ((Unit×(jV×Unit)×Unit)×Nat×List Value))(x0:jV)(x1:jV)(x5:Int):Option ((Unit×(jV×Unit)×Unit)×Nat×List Value):=
 let v1:=(List.length x1:Int)
 let v2:=decide (x5<v1)
 bif v2 then(bif decide (0≤x5)&&decide (x5<(List.length x1:Int))then(let v3:=List.getD x1 (Int.toNat x5) (Value.slice none 0 0)
 let v4:=([v3]:List Value)
 bif decide (List.length x0+List.length v4<5864062014805)then(let v5:=List.append x0 v4
 let v6:=IntKind.i64.wrap (x5+(1:Int))
 f2 v5 x1 v6)
 else none)
 else none)
 else(some (((),(x0,()),()),0,[]))
def e (f2:jV→jV→Int→Option ((Unit×(jV×Unit)×Unit)×Nat×List Value))(G:Gh)(d:Unit)(a0:jV)(a1:jV):Option ((Unit×(jV×Unit)×Unit)×Nat×List Value):=
 f2 a0 a1 (0:Int)
def L2 (k:Nat)(x0:jV)(x1:jV)(x5:Int):Option ((Unit×(jV×Unit)×Unit)×Nat×List Value):=gB (spec.env au T Tryz.f23) (Func.lN Tryz.f23) k 2 (m2 x0 x1 x5)
theorem mX (k:Nat)(x0:jV)(x1:jV)(x5:Int):L2 (k+1) x0 x1 x5=b2 (L2 k) x0 x1 x5:=by kernel_rfl
theorem of (d:Unit)(a0:jV)(a1:jV)(y:(Unit×(jV×Unit)×Unit))(h:∀G:Gh,∃k:Nat,e (L2 k) G d a0 a1=some (y,(0,[]))):F d (a0,a1,())=some y:=nO (q:=spec) y fun G=>(h G).imp fun k hk=> .trans (by kernel_rfl) hk
end qx
namespace eY
def spec:Spec:=⟨[(true,xP)],[(false,acL)],.own,fun j=>match j with|3=>[(1,.box 32 [.z 68 fD false,.v false,.z 70 fU false]),(3,.lf (.o 37 .hd true)),(4,.lf (.v true))]|7=>[(1,.box 32 [.z 68 fD false,.v false,.z 70 fU false]),(3,.lf (.o 37 .hd true)),(5,.lf (.v true))]|_=>[]⟩
def au:ak:=(ak.h_ 23 false qx.sig (ak.cons 20 jY.sig (ak.base aJ)))
def sig:kH:=spec.sig au T Tryz.f21
def F (x:b_×Unit):Option (jV×Unit):=eF spec au T Tryz.f21 x
theorem ck:ah Tryz.prog au:=(ah.h_ qx.bU (ah.cons jY.bU (ah.base aX)))
theorem bU:bW Tryz.prog aJ 21 sig:=fC aH ck mix Tryz.func21 (by kernel_rfl)
def m3 (fE:bC)(jF:Int)(fV:dA)(x3:jV)(x4:Int):S:=⟨[(1,.box 0 0),(3,.one (.lf (.own 0))),(4,.one (.lf (.val true (.int .i64) x4)))],⟨[some ⟨37,.hd,true,true,x3⟩],[some ⟨32,[.val false Ec fE,.val false (.int .i64) jF,.val false FV fV]⟩]⟩⟩
def m7 (fE:bC)(jF:Int)(fV:dA)(x3:jV)(x5:Int):S:=⟨[(1,.box 0 0),(3,.one (.lf (.own 0))),(5,.one (.lf (.val true (.int .i64) x5)))],⟨[some ⟨37,.hd,true,true,x3⟩],[some ⟨32,[.val false Ec fE,.val false (.int .i64) jF,.val false FV fV]⟩]⟩⟩
def b3 (f3:bC→Int→dA→jV→Int→Option (jV×Unit))(f7:bC→Int→dA→jV→Int→Option (jV×Unit))(fE:bC)(jF:Int)(fV:dA)(x3:jV)(x4:Int):Option (jV×Unit):=
 let v1:=(List.length fE:Int)
 let v2:=decide (x4<v1)
 bif v2 then(bif decide (0≤x4)&&decide (x4<(List.length fE:Int))then(let v3:=((((((List.getD fE (Int.toNat x4) aA).1).2).1).1).1).1
 let v4:=((((((List.getD fE (Int.toNat x4) aA).1).2).1).1).1).2
 let v5:=(((((List.getD fE (Int.toNat x4) aA).1).2).1).1).2
 let v6:=((((((List.getD fE (Int.toNat x4) aA).1).2).1).2).1).1
 let v7:=((((((List.getD fE (Int.toNat x4) aA).1).2).1).2).1).2
 let v8:=(((((List.getD fE (Int.toNat x4) aA).1).2).1).2).2
 (jY.F ((((v3,v4),v5),((v6,v7),v8)),())).bind fun y9=>
 bif decide (0≤x4)&&decide (x4<(List.length fE:Int))then(let v10:=((((((List.getD fE (Int.toNat x4) aA).2).2).1).1).1).1
 let v11:=((((((List.getD fE (Int.toNat x4) aA).2).2).1).1).1).2
 let v12:=(((((List.getD fE (Int.toNat x4) aA).2).2).1).1).2
 let v13:=((((((List.getD fE (Int.toNat x4) aA).2).2).1).2).1).1
 let v14:=((((((List.getD fE (Int.toNat x4) aA).2).2).1).2).1).2
 let v15:=(((((List.getD fE (Int.toNat x4) aA).2).2).1).2).2
 (jY.F ((((v10,v11),v12),((v13,v14),v15)),())).bind fun y16=>
 (qx.F () (y9.1,y16.1,())).bind fun Yd=>
 (qx.F () (x3,Yd.2.1.1,())).bind fun O_=>
 let v19:=IntKind.i64.wrap (x4+(1:Int))
 f3 fE jF fV O_.2.1.1 v19)
 else none)
 else none)
 else(f7 fE jF fV x3 (0:Int))
def b7 (f3:bC→Int→dA→jV→Int→Option (jV×Unit))(f7:bC→Int→dA→jV→Int→Option (jV×Unit))(fE:bC)(jF:Int)(fV:dA)(x3:jV)(x5:Int):Option (jV×Unit):=
 let v1:=(List.length fV:Int)
 let v2:=decide (x5<v1)
 bif v2 then(bif decide (0≤x5)&&decide (x5<(List.length fV:Int))then(let v3:=((((((((List.getD fV (Int.toNat x5) dN).2).2).2).2).1).1).1).1
 let v4:=((((((((List.getD fV (Int.toNat x5) dN).2).2).2).2).1).1).1).2
 let v5:=(((((((List.getD fV (Int.toNat x5) dN).2).2).2).2).1).1).2
 let v6:=((((((((List.getD fV (Int.toNat x5) dN).2).2).2).2).1).2).1).1
 let v7:=((((((((List.getD fV (Int.toNat x5) dN).2).2).2).2).1).2).1).2
 let v8:=(((((((List.getD fV (Int.toNat x5) dN).2).2).2).2).1).2).2
 (jY.F ((((v3,v4),v5),((v6,v7),v8)),())).bind fun y9=>
 (qx.F () (x3,y9.1,())).bind fun H7=>
 let v11:=IntKind.i64.wrap (x5+(1:Int))
 f7 fE jF fV H7.2.1.1 v11)
 else none)
 else(some (x3,()))
def e (f3:bC→Int→dA→jV→Int→Option (jV×Unit))(f7:bC→Int→dA→jV→Int→Option (jV×Unit))(a0:b_):Option (jV×Unit):=
 f3 a0.1 a0.2.1 a0.2.2 arB (0:Int)
def L3 (k:Nat)(fE:bC)(jF:Int)(fV:dA)(x3:jV)(x4:Int):Option (jV×Unit):=gB (spec.env au T Tryz.f21) (Func.lN Tryz.f21) k 3 (m3 fE jF fV x3 x4)
def L7 (k:Nat)(fE:bC)(jF:Int)(fV:dA)(x3:jV)(x5:Int):Option (jV×Unit):=gB (spec.env au T Tryz.f21) (Func.lN Tryz.f21) k 7 (m7 fE jF fV x3 x5)
theorem pG (k:Nat)(fE:bC)(jF:Int)(fV:dA)(x3:jV)(x4:Int):L3 (k+1) fE jF fV x3 x4=b3 (L3 k) (L7 k) fE jF fV x3 x4:=by kernel_rfl
theorem jA (k:Nat)(fE:bC)(jF:Int)(fV:dA)(x3:jV)(x5:Int):L7 (k+1) fE jF fV x3 x5=b7 (L3 k) (L7 k) fE jF fV x3 x5:=by kernel_rfl
theorem of (k:Nat)(a0:b_){y:jV×Unit}(h:e (L3 k) (L7 k) a0=some y):F (a0,())=some y:=aV k (.trans (by kernel_rfl) h)
end eY
end
end Go.Fx.fB

namespace Go.Fx.Yh
open Go Go.Proofs Go.Fx
set_option maxRecDepth 100000
def ti3:TI:=⟨.int .i64,(.int .i64),false,8⟩
def T3:dH:=dH.cons 3 ti3 dH.nil
theorem acj:aZ Tryz.prog T3:=aZ.cons (by kernel_rfl) {info:=⟨Tryz.t3,by kernel_rfl,by kernel_rfl,by kernel_rfl,(.int .i64 0),by kernel_rfl,by kernel_rfl⟩,agg:=⟨_,Tryz.underlying3,rfl⟩,desc:=⟨Tryz.underlying3,rfl⟩} aZ.nil
def ti4:TI:=⟨.bool,.bool,false,1⟩
def T4:dH:=dH.cons 4 ti4 T3
theorem acn:aZ Tryz.prog T4:=aZ.cons (by kernel_rfl) {info:=⟨Tryz.t4,by kernel_rfl,by kernel_rfl,by kernel_rfl,(.bool false),by kernel_rfl,by kernel_rfl⟩,agg:=⟨_,Tryz.underlying4,rfl⟩,desc:=⟨Tryz.underlying4,rfl⟩} acj
def ajl:TI:=⟨.int .i64,(.int .i64),false,8⟩
def T26:dH:=dH.cons 26 ajl T4
theorem acz:aZ Tryz.prog T26:=aZ.cons (by kernel_rfl) {info:=⟨Tryz.t26,by kernel_rfl,by kernel_rfl,by kernel_rfl,(.int .i64 0),by kernel_rfl,by kernel_rfl⟩,agg:=⟨_,Tryz.underlying26,rfl⟩,desc:=⟨Tryz.underlying26,rfl⟩} acn
def ZW:TI:=⟨.other,.hd,false,24⟩
def T29:dH:=dH.cons 29 ZW T26
theorem Uy:aZ Tryz.prog T29:=aZ.cons (by kernel_rfl) {info:=⟨Tryz.t29,by kernel_rfl,by kernel_rfl,by kernel_rfl,(.slice none 0 0),by kernel_rfl,by kernel_rfl⟩,agg:=⟨_,Tryz.underlying29,rfl⟩,desc:=trivial} acz
def ZV:TI:=⟨.other,.hd,false,24⟩
def T30:dH:=dH.cons 30 ZV T29
theorem Ux:aZ Tryz.prog T30:=aZ.cons (by kernel_rfl) {info:=⟨Tryz.t30,by kernel_rfl,by kernel_rfl,by kernel_rfl,(.slice none 0 0),by kernel_rfl,by kernel_rfl⟩,agg:=⟨_,Tryz.underlying30,rfl⟩,desc:=trivial} Uy
def ZX:TI:=⟨.struct [(0,29),(1,3),(2,30)],(.prod .hd (.prod (.int .i64) .hd)),true,56⟩
def T32:dH:=dH.cons 32 ZX T30
theorem Uz:aZ Tryz.prog T32:=aZ.cons (by kernel_rfl) {info:=⟨Tryz.t32,by kernel_rfl,by kernel_rfl,by kernel_rfl,(.agg #[.slice none 0 0,.int .i64 0,.slice none 0 0]),by kernel_rfl,by kernel_rfl⟩,agg:=⟨_,Tryz.underlying32,rfl⟩,desc:=⟨_,Tryz.underlying32,rfl,fun i o ft h=>match i,h with|0,h=>by simp at h;obtain⟨rfl,rfl⟩:=h;exact⟨_,rfl,rfl,rfl,ZW,by kernel_rfl,by decide⟩|1,h=>by simp at h;obtain⟨rfl,rfl⟩:=h;exact⟨_,rfl,rfl,rfl,ti3,by kernel_rfl,by decide⟩|2,h=>by simp at h;obtain⟨rfl,rfl⟩:=h;exact⟨_,rfl,rfl,rfl,ZV,by kernel_rfl,by decide⟩|n+3,h=>by simp at h⟩} Ux
def arC:TI:=⟨.sl 32,(.sl 32 (.prod .hd (.prod (.int .i64) .hd))),false,24⟩
def T63:dH:=dH.cons 63 arC T32
theorem amN:aZ Tryz.prog T63:=aZ.cons (by kernel_rfl) {info:=⟨Tryz.t63,by kernel_rfl,by kernel_rfl,by kernel_rfl,(.slice none 0 0),by kernel_rfl,by kernel_rfl⟩,agg:=⟨_,Tryz.underlying63,rfl⟩,desc:=⟨Tryz.underlying63,ZX,by kernel_rfl,rfl,by decide⟩} Uz
def T:dH:=T63
theorem aH:aZ Tryz.prog T:=amN
end Go.Fx.Yh
