import Derived.Test.YthmdbafinpmojaaGreatGB
set_option linter.unusedVariables false
set_option linter.unusedSimpArgs false
namespace Go.Fx.Tryz
open Go Go.Proofs Go.Fx
set_option maxRecDepth 100000
noncomputable section
namespace dU
def spec:jH:=⟨none,false,[(true,xP)],false,some ⟨81,Jr⟩,[(false,(.int .i64))],false,fun j=>match j with|6=>[(1,.box 32 [.z 68 fD false,.v false,.z 70 fU false]),(4,.box 81 [.v false,.v true,.v true,.o 68 fD true]),(32,.lf (.z 68 fD false)),(33,.lf (.v true)),(34,.lf (.v true))]|13=>[(1,.box 32 [.z 68 fD false,.v false,.z 70 fU false]),(4,.box 81 [.v false,.o 70 fU true,.v true,.o 68 fD true]),(74,.lf (.z 70 fU false)),(75,.lf (.v true)),(76,.lf (.v true))]|_=>[],0⟩
def au:ak:=(ak.LM 51 oI.Sz (ak.LM 50 fG.Sz (ak.cons 48 lH.sig (ak.cons 49 dW.sig (ak.cons 46 bg.sig (ak.cons 47 bD.sig (ak.base aJ)))))))
def sig:rP:=spec.sig au T Tryz.f16
def F (d:Unit)(x:b_×Unit):Option ((Option cO)×(Int×Unit)×Unit):=yE spec au T Tryz.f16 d x
theorem ck:ah Tryz.prog au:=(ah.LM oI.ok (ah.LM fG.ok (ah.cons lH.bU (ah.cons dW.bU (ah.cons bg.bU (ah.cons bD.bU (ah.base aX)))))))
theorem bU:Oz Tryz.prog aJ 16 sig:=Dq aH ck mix Tryz.func16 (by kernel_rfl)
def m6 (fE:bC)(jF:Int)(fV:dA)(qU:Int)(yG:Bool)(uY:bC)(x32:bC)(x33:Int)(x34:Int):S:=⟨[(1,.box 0 0),(4,.box 1 0),(32,.one (.lf (.val false Ec x32))),(33,.one (.lf (.val true (.int .i64) x33))),(34,.one (.lf (.val true (.int .i64) x34)))],⟨[some ⟨68,fD,true,true,uY⟩],[some ⟨32,[.val false Ec fE,.val false (.int .i64) jF,.val false FV fV]⟩,some ⟨81,[.val false (.int .i64) qU,.nil,.val true .bool yG,.own 0]⟩]⟩⟩
def m13 (fE:bC)(jF:Int)(fV:dA)(qU:Int)(xQ:dA)(yG:Bool)(uY:bC)(NW:dA)(x75:Int)(Jt:Int):S:=⟨[(1,.box 0 0),(4,.box 1 0),(74,.one (.lf (.val false FV NW))),(75,.one (.lf (.val true (.int .i64) x75))),(76,.one (.lf (.val true (.int .i64) Jt)))],⟨[some ⟨70,fU,true,true,xQ⟩,some ⟨68,fD,true,true,uY⟩],[some ⟨32,[.val false Ec fE,.val false (.int .i64) jF,.val false FV fV]⟩,some ⟨81,[.val false (.int .i64) qU,.own 0,.val true .bool yG,.own 1]⟩]⟩⟩
def b6 (f6:bC→Int→dA→Int→Bool→bC→bC→Int→Int→Option (((Option cO)×(Int×Unit)×Unit)×Nat×List Value))(f13:bC→Int→dA→Int→dA→Bool→bC→dA→Int→Int→Option (((Option cO)×(Int×Unit)×Unit)×Nat×List Value))(fE:bC)(jF:Int)(fV:dA)(qU:Int)(yG:Bool)(uY:bC)(x32:bC)(x33:Int)(x34:Int):Option (((Option cO)×(Int×Unit)×Unit)×Nat×List Value):=
 let v1:=decide (x34<x33)
 bif v1 then(bif decide (0≤x34)&&decide (x34<(List.length x32:Int))then(let v2:=((List.getD x32 (Int.toNat x34) aA).1).1
 let v3:=((((((List.getD x32 (Int.toNat x34) aA).1).2).1).1).1).1
 let v4:=((((((List.getD x32 (Int.toNat x34) aA).1).2).1).1).1).2
 let v5:=(((((List.getD x32 (Int.toNat x34) aA).1).2).1).1).2
 let v6:=((((((List.getD x32 (Int.toNat x34) aA).1).2).1).2).1).1
 let v7:=((((((List.getD x32 (Int.toNat x34) aA).1).2).1).2).1).2
 let v8:=(((((List.getD x32 (Int.toNat x34) aA).1).2).1).2).2
 let v9:=(((List.getD x32 (Int.toNat x34) aA).1).2).2
 let v10:=((List.getD x32 (Int.toNat x34) aA).2).1
 let v11:=((((((List.getD x32 (Int.toNat x34) aA).2).2).1).1).1).1
 let v12:=((((((List.getD x32 (Int.toNat x34) aA).2).2).1).1).1).2
 let v13:=(((((List.getD x32 (Int.toNat x34) aA).2).2).1).1).2
 let v14:=((((((List.getD x32 (Int.toNat x34) aA).2).2).1).2).1).1
 let v15:=((((((List.getD x32 (Int.toNat x34) aA).2).2).1).2).1).2
 let v16:=(((((List.getD x32 (Int.toNat x34) aA).2).2).1).2).2
 let v17:=(((List.getD x32 (Int.toNat x34) aA).2).2).2
 (lH.F ((v2,((((v3,v4),v5),((v6,v7),v8)),v9)),())).bind fun O_=>
 let v19:=not O_.1
 bif v19 then(some ((none,((81:Int),()),()),0,[]))
 else((lH.F ((v10,((((v11,v12),v13),((v14,v15),v16)),v17)),())).bind fun y20=>
 let v21:=not y20.1
 bif v21 then(some ((none,((81:Int),()),()),0,[]))
 else(bif v2 then((dW.F ((v10,((((v11,v12),v13),((v14,v15),v16)),v17)),(((v3,v4),v5),((v6,v7),v8)),())).bind fun y22=>
 bif y22.1 then(some ((none,((81:Int),()),()),0,[]))
 else((bg.F (((v2,((((v3,v4),v5),((v6,v7),v8)),v9)),(v10,((((v11,v12),v13),((v14,v15),v16)),v17))),())).bind fun y23=>
 let v24:=([((y23.1.1.1,((((y23.1.1.2.1.1.1.1,y23.1.1.2.1.1.1.2),y23.1.1.2.1.1.2),((y23.1.1.2.1.2.1.1,y23.1.1.2.1.2.1.2),y23.1.1.2.1.2.2)),y23.1.1.2.2)),(y23.1.2.1,((((y23.1.2.2.1.1.1.1,y23.1.2.2.1.1.1.2),y23.1.2.2.1.1.2),((y23.1.2.2.1.2.1.1,y23.1.2.2.1.2.1.2),y23.1.2.2.1.2.2)),y23.1.2.2.2)))]:List dJ)
 bif decide (List.length uY+List.length v24<549755813888)then(let v25:=List.append uY v24
 let v26:=IntKind.i64.wrap (x34+(1:Int))
 f6 fE jF fV qU yG v25 x32 x33 v26)
 else none))
 else((bg.F (((v2,((((v3,v4),v5),((v6,v7),v8)),v9)),(v10,((((v11,v12),v13),((v14,v15),v16)),v17))),())).bind fun y27=>
 let v28:=([((y27.1.1.1,((((y27.1.1.2.1.1.1.1,y27.1.1.2.1.1.1.2),y27.1.1.2.1.1.2),((y27.1.1.2.1.2.1.1,y27.1.1.2.1.2.1.2),y27.1.1.2.1.2.2)),y27.1.1.2.2)),(y27.1.2.1,((((y27.1.2.2.1.1.1.1,y27.1.2.2.1.1.1.2),y27.1.2.2.1.1.2),((y27.1.2.2.1.2.1.1,y27.1.2.2.1.2.1.2),y27.1.2.2.1.2.2)),y27.1.2.2.2)))]:List dJ)
 bif decide (List.length uY+List.length v28<549755813888)then(let v29:=List.append uY v28
 let v30:=IntKind.i64.wrap (x34+(1:Int))
 f6 fE jF fV qU yG v29 x32 x33 v30)
 else none))))
 else none)
 else(let v31:=(List.length fV:Int)
 f13 fE jF fV qU afR yG uY fV v31 (0:Int))
def b13 (f6:bC→Int→dA→Int→Bool→bC→bC→Int→Int→Option (((Option cO)×(Int×Unit)×Unit)×Nat×List Value))(f13:bC→Int→dA→Int→dA→Bool→bC→dA→Int→Int→Option (((Option cO)×(Int×Unit)×Unit)×Nat×List Value))(fE:bC)(jF:Int)(fV:dA)(qU:Int)(xQ:dA)(yG:Bool)(uY:bC)(NW:dA)(x75:Int)(Jt:Int):Option (((Option cO)×(Int×Unit)×Unit)×Nat×List Value):=
 let v1:=decide (Jt<x75)
 bif v1 then(bif decide (0≤Jt)&&decide (Jt<(List.length NW:Int))then(let v2:=(List.getD NW (Int.toNat Jt) dN).1
 let v3:=((List.getD NW (Int.toNat Jt) dN).2).1
 let v4:=(((List.getD NW (Int.toNat Jt) dN).2).2).1
 let v5:=((((List.getD NW (Int.toNat Jt) dN).2).2).2).1
 let v6:=((((((((List.getD NW (Int.toNat Jt) dN).2).2).2).2).1).1).1).1
 let v7:=((((((((List.getD NW (Int.toNat Jt) dN).2).2).2).2).1).1).1).2
 let v8:=(((((((List.getD NW (Int.toNat Jt) dN).2).2).2).2).1).1).2
 let v9:=((((((((List.getD NW (Int.toNat Jt) dN).2).2).2).2).1).2).1).1
 let v10:=((((((((List.getD NW (Int.toNat Jt) dN).2).2).2).2).1).2).1).2
 let v11:=(((((((List.getD NW (Int.toNat Jt) dN).2).2).2).2).1).2).2
 let v12:=(((((List.getD NW (Int.toNat Jt) dN).2).2).2).2).2
 let v13:=decide (v2<(0:Int))
 bif v13 then(some ((none,((81:Int),()),()),0,[]))
 else(let v14:=(List.length uY:Int)
 let v15:=decide (v2≥v14)
 bif v15 then(some ((none,((81:Int),()),()),0,[]))
 else(let v16:=decide (v4<(0:Int))
 bif v16 then(some ((none,((81:Int),()),()),0,[]))
 else(let v17:=decide (v4>qU)
 bif v17 then(some ((none,((81:Int),()),()),0,[]))
 else(let v18:=decide (Jt>(0:Int))
 bif v18 then(let v19:=IntKind.i64.wrap (Jt-(1:Int))
 bif decide (0≤v19)&&decide (v19<(List.length fV:Int))then(let v20:=(((List.getD fV (Int.toNat v19) dN).2).2).1
 let v21:=decide (v4<v20)
 bif v21 then(some ((none,((81:Int),()),()),0,[]))
 else((lH.F ((v5,((((v6,v7),v8),((v9,v10),v11)),v12)),())).bind fun y22=>
 let v23:=not y22.1
 bif v23 then(some ((none,((81:Int),()),()),0,[]))
 else((bD.F ((v2,(v3,(v4,(v5,((((v6,v7),v8),((v9,v10),v11)),v12))))),())).bind fun y24=>
 let v25:=([(y24.1.1,(y24.1.2.1,(y24.1.2.2.1,(y24.1.2.2.2.1,((((y24.1.2.2.2.2.1.1.1.1,y24.1.2.2.2.2.1.1.1.2),y24.1.2.2.2.2.1.1.2),((y24.1.2.2.2.2.1.2.1.1,y24.1.2.2.2.2.1.2.1.2),y24.1.2.2.2.2.1.2.2)),y24.1.2.2.2.2.2)))))]:List bZ)
 bif decide (List.length xQ+List.length v25<925904528653)then(let v26:=List.append xQ v25
 let v27:=IntKind.i64.wrap (Jt+(1:Int))
 f13 fE jF fV qU v26 yG uY NW x75 v27)
 else none)))
 else none)
 else((lH.F ((v5,((((v6,v7),v8),((v9,v10),v11)),v12)),())).bind fun y28=>
 let v29:=not y28.1
 bif v29 then(some ((none,((81:Int),()),()),0,[]))
 else((bD.F ((v2,(v3,(v4,(v5,((((v6,v7),v8),((v9,v10),v11)),v12))))),())).bind fun Vz=>
 let v31:=([(Vz.1.1,(Vz.1.2.1,(Vz.1.2.2.1,(Vz.1.2.2.2.1,((((Vz.1.2.2.2.2.1.1.1.1,Vz.1.2.2.2.2.1.1.1.2),Vz.1.2.2.2.2.1.1.2),((Vz.1.2.2.2.2.1.2.1.1,Vz.1.2.2.2.2.1.2.1.2),Vz.1.2.2.2.2.1.2.2)),Vz.1.2.2.2.2.2)))))]:List bZ)
 bif decide (List.length xQ+List.length v31<925904528653)then(let v32:=List.append xQ v31
 let v33:=IntKind.i64.wrap (Jt+(1:Int))
 f13 fE jF fV qU v32 yG uY NW x75 v33)
 else none)))))))
 else none)
 else(bif decide (List.length uY<549755813888)then((fG.fn uY (xQ,())).bind fun y34=>
 let v35:=not y34.1
 bif v35 then(some ((none,((81:Int),()),()),0,[]))
 else(some ((some ((qU,xQ),(yG,uY)),((0:Int),()),()),0,[])))
 else none)
def e (f6:bC→Int→dA→Int→Bool→bC→bC→Int→Int→Option (((Option cO)×(Int×Unit)×Unit)×Nat×List Value))(f13:bC→Int→dA→Int→dA→Bool→bC→dA→Int→Int→Option (((Option cO)×(Int×Unit)×Unit)×Nat×List Value))(G:Gh)(d:Unit)(a0:b_):Option (((Option cO)×(Int×Unit)×Unit)×Nat×List Value):=
 let v1:=(List.length a0.1:Int)
 let v2:=decide (v1>(65536:Int))
 bif v2 then(some ((none,((81:Int),()),()),0,[]))
 else(let v3:=decide (a0.2.1<(0:Int))
 bif v3 then(some ((none,((81:Int),()),()),0,[]))
 else(let v4:=decide (a0.2.1>(2147483647:Int))
 bif v4 then(some ((none,((81:Int),()),()),0,[]))
 else(let v5:=(List.length a0.1:Int)
 f6 a0.1 a0.2.1 a0.2.2 a0.2.1 true afT a0.1 v5 (0:Int))))
def L6 (k:Nat)(fE:bC)(jF:Int)(fV:dA)(qU:Int)(yG:Bool)(uY:bC)(x32:bC)(x33:Int)(x34:Int):Option (((Option cO)×(Int×Unit)×Unit)×Nat×List Value):=gB (spec.env au T Tryz.f16) (Func.lN Tryz.f16) k 6 (m6 fE jF fV qU yG uY x32 x33 x34)
def L13 (k:Nat)(fE:bC)(jF:Int)(fV:dA)(qU:Int)(xQ:dA)(yG:Bool)(uY:bC)(NW:dA)(x75:Int)(Jt:Int):Option (((Option cO)×(Int×Unit)×Unit)×Nat×List Value):=gB (spec.env au T Tryz.f16) (Func.lN Tryz.f16) k 13 (m13 fE jF fV qU xQ yG uY NW x75 Jt)
theorem mJ (k:Nat)(fE:bC)(jF:Int)(fV:dA)(qU:Int)(yG:Bool)(uY:bC)(x32:bC)(x33:Int)(x34:Int):L6 (k+1) fE jF fV qU yG uY x32 x33 x34=b6 (L6 k) (L13 k) fE jF fV qU yG uY x32 x33 x34:=by kernel_rfl
theorem Me (k:Nat)(fE:bC)(jF:Int)(fV:dA)(qU:Int)(xQ:dA)(yG:Bool)(uY:bC)(NW:dA)(x75:Int)(Jt:Int):L13 (k+1) fE jF fV qU xQ yG uY NW x75 Jt=b13 (L6 k) (L13 k) fE jF fV qU xQ yG uY NW x75 Jt:=by kernel_rfl
theorem of (d:Unit)(a0:b_)(y:((Option cO)×(Int×Unit)×Unit))(h:∀G:Gh,∃k:Nat,e (L6 k) (L13 k) G d a0=some (y,(0,[]))):F d (a0,())=some y:=nO (q:=spec) y fun G=>(h G).imp fun k hk=> .trans (by kernel_rfl) hk
end dU
namespace yh
def spec:Spec:=⟨[(false,dI)],[(false,dI)],.own,fun j=>match j with|3=>[(0,.lf (.z 114 (.int .u32) false)),(3,.lf (.o 114 (.int .u32) true)),(4,.lf (.v true))]|_=>[]⟩
def au:ak:=(ak.base aJ)
def sig:kH:=spec.sig au T Tryz.f76
def F (x:aj×Unit):Option (aj×Unit):=eF spec au T Tryz.f76 x
theorem ck:ah Tryz.prog au:=(ah.base aX)
theorem bU:bW Tryz.prog aJ 76 sig:=fC aH ck mix Tryz.func76 (by kernel_rfl)
def m3 (x0:aj)(x3:aj)(x4:Int):S:=⟨[(0,.one (.lf (.val false dI x0))),(3,.one (.lf (.own 0))),(4,.one (.lf (.val true (.int .i64) x4)))],⟨[some ⟨114,(.int .u32),true,true,x3⟩],[]⟩⟩
def b3 (f3:aj→aj→Int→Option (aj×Unit))(x0:aj)(x3:aj)(x4:Int):Option (aj×Unit):=
 let v1:=(List.length x0:Int)
 let v2:=decide (x4<v1)
 bif v2 then(bif decide (0≤x4)&&decide (x4<(List.length x0:Int))then(let v3:=List.getD x0 (Int.toNat x4) (0:Int)
 let v4:=([v3]:List Int)
 bif decide (List.length x3+List.length v4<35184372088832)then(let v5:=List.append x3 v4
 let v6:=IntKind.i64.wrap (x4+(1:Int))
 f3 x0 v5 v6)
 else none)
 else none)
 else(some (x3,()))
def e (f3:aj→aj→Int→Option (aj×Unit))(a0:aj):Option (aj×Unit):=
 f3 a0 FU (0:Int)
def L3 (k:Nat)(x0:aj)(x3:aj)(x4:Int):Option (aj×Unit):=gB (spec.env au T Tryz.f76) (Func.lN Tryz.f76) k 3 (m3 x0 x3 x4)
theorem pG (k:Nat)(x0:aj)(x3:aj)(x4:Int):L3 (k+1) x0 x3 x4=b3 (L3 k) x0 x3 x4:=by kernel_rfl
theorem of (k:Nat)(a0:aj){y:aj×Unit}(h:e (L3 k) a0=some y):F (a0,())=some y:=aV k (.trans (by kernel_rfl) h)
end yh
namespace UO
def spec:Spec:=⟨[(true,oD)],[(true,oD)],.own,fun j=>match j with|_=>[]⟩
def au:ak:=(ak.cons 76 yh.sig (ak.base aJ))
def sig:kH:=spec.sig au T Tryz.f75
def F (x:dK×Unit):Option (dK×Unit):=eF spec au T Tryz.f75 x
theorem ck:ah Tryz.prog au:=(ah.cons yh.bU (ah.base aX))
theorem bU:bW Tryz.prog aJ 75 sig:=fC aH ck mix Tryz.func75 (by kernel_rfl)
def e (a0:dK):Option (dK×Unit):=
 (yh.F (a0.2,())).bind fun y1=>
 some ((a0.1,y1.1),())
theorem of (k:Nat)(a0:dK){y:dK×Unit}(h:e a0=some y):F (a0,())=some y:=aV k (.trans (by kernel_rfl) h)
end UO
namespace MB
def spec:Spec:=⟨[(true,pq)],[(true,pq)],.own,fun j=>match j with|_=>[]⟩
def au:ak:=(ak.cons 75 UO.sig (ak.cons 76 yh.sig (ak.base aJ)))
def sig:kH:=spec.sig au T Tryz.f52
def F (x:fP×Unit):Option (fP×Unit):=eF spec au T Tryz.f52 x
theorem ck:ah Tryz.prog au:=(ah.cons UO.bU (ah.cons yh.bU (ah.base aX)))
theorem bU:bW Tryz.prog aJ 52 sig:=fC aH ck mix Tryz.func52 (by kernel_rfl)
def e (a0:fP):Option (fP×Unit):=
 (UO.F ((a0.1.1,a0.1.2),())).bind fun y1=>
 (yh.F (a0.2,())).bind fun y2=>
 some (((y1.1.1,y1.1.2),y2.1),())
theorem of (k:Nat)(a0:fP){y:fP×Unit}(h:e a0=some y):F (a0,())=some y:=aV k (.trans (by kernel_rfl) h)
end MB
namespace uI
def spec:Spec:=⟨[(true,nX)],[(true,nX)],.own,fun j=>match j with|_=>[]⟩
def au:ak:=(ak.cons 52 MB.sig (ak.base aJ))
def sig:kH:=spec.sig au T Tryz.f17
def F (x:cu×Unit):Option (cu×Unit):=eF spec au T Tryz.f17 x
theorem ck:ah Tryz.prog au:=(ah.cons MB.bU (ah.base aX))
theorem bU:bW Tryz.prog aJ 17 sig:=fC aH ck mix Tryz.func17 (by kernel_rfl)
def e (a0:cu):Option (cu×Unit):=
 (MB.F (((a0.1.1.1,a0.1.1.2),a0.1.2),())).bind fun y1=>
 (MB.F (((a0.2.1.1,a0.2.1.2),a0.2.2),())).bind fun y2=>
 some ((((y1.1.1.1,y1.1.1.2),y1.1.2),((y2.1.1.1,y2.1.1.2),y2.1.2)),())
theorem of (k:Nat)(a0:cu){y:cu×Unit}(h:e a0=some y):F (a0,())=some y:=aV k (.trans (by kernel_rfl) h)
end uI
namespace Ae
def spec:Spec:=⟨[(false,(.int .i64)),(false,(.int .i64))],[(false,(.int .u32))],.own,fun j=>match j with|_=>[]⟩
def au:ak:=(ak.base aJ)
def sig:kH:=spec.sig au T Tryz.f54
def F (x:Int×Int×Unit):Option (Int×Unit):=eF spec au T Tryz.f54 x
theorem ck:ah Tryz.prog au:=(ah.base aX)
theorem bU:bW Tryz.prog aJ 54 sig:=fC aH ck mix Tryz.func54 (by kernel_rfl)
def e (a0:Int)(a1:Int):Option (Int×Unit):=
 let v1:=IntKind.i64.wrap (a0*(4096:Int))
 let v2:=IntKind.i64.wrap (v1+a1)
 let v3:=IntKind.u32.wrap v2
 let v4:=IntKind.u32.wrap ((2768240640:Int)+v3)
 some (v4,())
theorem of (k:Nat)(a0:Int)(a1:Int){y:Int×Unit}(h:e a0 a1=some y):F (a0,a1,())=some y:=aV k (.trans (by kernel_rfl) h)
end Ae
namespace Ef
def spec:Spec:=⟨[(false,(.int .u64))],[(false,dI)],.own,fun j=>match j with|_=>[]⟩
def au:ak:=(ak.cons 80 bH.sig (ak.base aJ))
def sig:kH:=spec.sig au T Tryz.f84
def F (x:Int×Unit):Option (aj×Unit):=eF spec au T Tryz.f84 x
theorem ck:ah Tryz.prog au:=(ah.cons bH.bU (ah.base aX))
theorem bU:bW Tryz.prog aJ 84 sig:=fC aH ck mix Tryz.func84 (by kernel_rfl)
def e (a0:Int):Option (aj×Unit):=
 let v1:=IntKind.u32.wrap a0
 bif decide ((32:Int)<0)then none
 else(let v2:=oV .u64 a0 (32:Int)
 let v3:=IntKind.u32.wrap v2
 let v4:=([v1,v3]:List Int)
 (bH.F (v4,())).bind fun y5=>
 some (y5.1,()))
theorem of (k:Nat)(a0:Int){y:aj×Unit}(h:e a0=some y):F (a0,())=some y:=aV k (.trans (by kernel_rfl) h)
end Ef
namespace H9
def spec:Spec:=⟨[(false,(.int .i64))],[(true,oD)],.own,fun j=>match j with|_=>[]⟩
def au:ak:=(ak.cons 84 Ef.sig (ak.cons 83 iH.sig (ak.base aJ)))
def sig:kH:=spec.sig au T Tryz.f58
def F (x:Int×Unit):Option (dK×Unit):=eF spec au T Tryz.f58 x
theorem ck:ah Tryz.prog au:=(ah.cons Ef.bU (ah.cons iH.bU (ah.base aX)))
theorem bU:bW Tryz.prog aJ 58 sig:=fC aH ck mix Tryz.func58 (by kernel_rfl)
def e (a0:Int):Option (dK×Unit):=
 let v1:=decide (a0<(0:Int))
 bif v1 then(let v2:=IntKind.u64.wrap a0
 let v3:=IntKind.u64.wrap ((0:Int)-v2)
 (Ef.F (v3,())).bind fun y4=>
 (iH.F (true,y4.1,())).bind fun y5=>
 some ((y5.1.1,y5.1.2),()))
 else(let v6:=IntKind.u64.wrap a0
 (Ef.F (v6,())).bind fun y7=>
 (iH.F (false,y7.1,())).bind fun y8=>
 some ((y8.1.1,y8.1.2),()))
theorem of (k:Nat)(a0:Int){y:dK×Unit}(h:e a0=some y):F (a0,())=some y:=aV k (.trans (by kernel_rfl) h)
end H9
namespace uh
def spec:Spec:=⟨[(false,(.int .i64))],[(true,pq)],.own,fun j=>match j with|_=>[]⟩
def au:ak:=(ak.cons 58 H9.sig (ak.cons 57 iR.sig (ak.base aJ)))
def sig:kH:=spec.sig au T Tryz.f25
def F (x:Int×Unit):Option (fP×Unit):=eF spec au T Tryz.f25 x
theorem ck:ah Tryz.prog au:=(ah.cons H9.bU (ah.cons iR.bU (ah.base aX)))
theorem bU:bW Tryz.prog aJ 25 sig:=fC aH ck mix Tryz.func25 (by kernel_rfl)
def e (a0:Int):Option (fP×Unit):=
 (H9.F (a0,())).bind fun y1=>
 let v2:=([(1:Int)]:List Int)
 (iR.F (((y1.1.1,y1.1.2),v2),())).bind fun y3=>
 some (((y3.1.1.1,y3.1.1.2),y3.1.2),())
theorem of (k:Nat)(a0:Int){y:fP×Unit}(h:e a0=some y):F (a0,())=some y:=aV k (.trans (by kernel_rfl) h)
end uh
end
end Go.Fx.Tryz
