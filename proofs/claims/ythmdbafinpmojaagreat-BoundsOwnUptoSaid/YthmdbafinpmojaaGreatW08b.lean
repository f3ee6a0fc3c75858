import Derived.Test.YthmdbafinpmojaaGreatW08a
set_option linter.unusedVariables false
set_option linter.unusedSimpArgs false
namespace Go.Fx.Tryz
open Go Go.Proofs Go.Fx
set_option maxRecDepth 100000
noncomputable section
namespace jq
def spec:Spec:=⟨[(false,dI),(false,dI)],[(false,dI),(false,dI),(false,(.int .i64))],.own,fun j=>match j with|11=>[(0,.lf (.z 114 (.int .u32) true)),(1,.lf (.o 114 (.int .u32) true)),(7,.lf (.o 114 (.int .u32) true)),(9,.lf (.o 114 (.int .u32) true)),(10,.lf (.v true))]|_=>[]⟩
def au:ak:=(ak.cons 80 bH.sig (ak.cons 94 mY.sig (ak.cons 97 iG.sig (ak.cons 93 fQ.sig (ak.cons 96 jo.sig (ak.base aJ))))))
def sig:kH:=spec.sig au T Tryz.f82
def F (x:aj×aj×Unit):Option (aj×aj×Int×Unit):=eF spec au T Tryz.f82 x
theorem ck:ah Tryz.prog au:=(ah.cons bH.bU (ah.cons mY.bU (ah.cons iG.bU (ah.cons fQ.bU (ah.cons jo.bU (ah.base aX))))))
theorem bU:bW Tryz.prog aJ 82 sig:=fC aH ck mix Tryz.func82 (by kernel_rfl)
def m11 (x0:aj)(x1:aj)(x7:aj)(x9:aj)(x10:Int):S:=⟨[(0,.one (.lf (.val true dI x0))),(1,.one (.lf (.own 0))),(7,.one (.lf (.own 1))),(9,.one (.lf (.own 2))),(10,.one (.lf (.val true (.int .i64) x10)))],⟨[some ⟨114,(.int .u32),true,true,x1⟩,some ⟨114,(.int .u32),true,true,x7⟩,some ⟨114,(.int .u32),true,true,x9⟩],[]⟩⟩
def b11 (f11:aj→aj→aj→aj→Int→Option (aj×aj×Int×Unit))(x0:aj)(x1:aj)(x7:aj)(x9:aj)(x10:Int):Option (aj×aj×Int×Unit):=
 let v1:=decide (x10≥(0:Int))
 bif v1 then((mY.F (x0,x10,())).bind fun y2=>
 (iG.F (x9,y2.1,())).bind fun y3=>
 (fQ.F (y3.1,x1,())).bind fun y4=>
 let v5:=decide (y4.1≥(0:Int))
 bif v5 then((jo.F (y3.1,x1,())).bind fun y6=>
 bif decide ((32:Int)=0)then none
 else(let v7:=IntKind.i64.wrap (Int.tdiv x10 (32:Int))
 bif decide (0≤v7)&&decide (v7<(List.length x7:Int))then(let v8:=List.getD x7 (Int.toNat v7) (0:Int)
 bif decide ((32:Int)=0)then none
 else(let v9:=Int.tmod x10 (32:Int)
 let v10:=IntKind.u64.wrap v9
 bif decide (v10<0)then none
 else(let v11:=yP .u32 (1:Int) v10
 let v12:=eP .or .u32 v8 v11
 bif decide (0≤v7)&&decide (v7<(List.length x7:Int))then(let v13:=List.set x7 (Int.toNat v7) v12
 let v14:=IntKind.i64.wrap (x10-(1:Int))
 f11 x0 x1 v13 y6.1 v14)
 else none)))
 else none))
 else(let v15:=IntKind.i64.wrap (x10-(1:Int))
 f11 x0 x1 x7 y3.1 v15))
 else((bH.F (x7,())).bind fun y16=>
 some (y16.1,x9,(0:Int),()))
def e (f11:aj→aj→aj→aj→Int→Option (aj×aj×Int×Unit))(a0:aj)(a1:aj):Option (aj×aj×Int×Unit):=
 (bH.F (a1,())).bind fun y1=>
 let v2:=(List.length y1.1:Int)
 let v3:=(v2==(0:Int))
 bif v3 then(some (FU,FU,(11:Int),()))
 else((bH.F (a0,())).bind fun y4=>
 let v5:=(List.length y4.1:Int)
 bif decide (0≤v5)&&(decide (v5≤v5)&&(decide (Int.toNat v5*4≤281474976710656)&&Nat.blt 0 4))then(let v6:=List.replicate (Int.toNat v5) (0:Int)
 let v7:=(List.length y1.1:Int)
 let v8:=IntKind.i64.wrap (v7-(1:Int))
 let v9:=(List.length y4.1:Int)
 let v10:=decide (v8>v9)
 bif v10 then(let v11:=(List.length y4.1:Int)
 let v12:=(List.length y4.1:Int)
 let v13:=IntKind.i64.wrap (v12-v11)
 bif decide (0≤v13)&&decide (v13≤(List.length y4.1:Int))then(let v14:=List.drop (Int.toNat v13) y4.1
 (bH.F (v14,())).bind fun O9=>
 let v16:=(List.length y4.1:Int)
 let v17:=IntKind.i64.wrap (v16-v11)
 let v18:=IntKind.i64.wrap ((32:Int)*v17)
 let v19:=IntKind.i64.wrap (v18-(1:Int))
 f11 y4.1 y1.1 v6 O9.1 v19)
 else none)
 else(let v20:=(List.length y4.1:Int)
 let v21:=IntKind.i64.wrap (v20-v8)
 bif decide (0≤v21)&&decide (v21≤(List.length y4.1:Int))then(let v22:=List.drop (Int.toNat v21) y4.1
 (bH.F (v22,())).bind fun y23=>
 let v24:=(List.length y4.1:Int)
 let v25:=IntKind.i64.wrap (v24-v8)
 let v26:=IntKind.i64.wrap ((32:Int)*v25)
 let v27:=IntKind.i64.wrap (v26-(1:Int))
 f11 y4.1 y1.1 v6 y23.1 v27)
 else none))
 else none)
def Nu (k:Nat)(x0:aj)(x1:aj)(x7:aj)(x9:aj)(x10:Int):Option (aj×aj×Int×Unit):=gB (spec.env au T Tryz.f82) (Func.lN Tryz.f82) k 11 (m11 x0 x1 x7 x9 x10)
theorem xk (k:Nat)(x0:aj)(x1:aj)(x7:aj)(x9:aj)(x10:Int):Nu (k+1) x0 x1 x7 x9 x10=b11 (Nu k) x0 x1 x7 x9 x10:=by kernel_rfl
theorem of (k:Nat)(a0:aj)(a1:aj){y:aj×aj×Int×Unit}(h:e (Nu k) a0 a1=some y):F (a0,a1,())=some y:=aV k (.trans (by kernel_rfl) h)
end jq
namespace iR
def spec:Spec:=⟨[(true,pq)],[(true,pq)],.own,fun j=>match j with|_=>[]⟩
def au:ak:=(ak.cons 79 qH.sig (ak.cons 80 bH.sig (ak.cons 81 dD.sig (ak.cons 82 jq.sig (ak.base aJ)))))
def sig:kH:=spec.sig au T Tryz.f57
def F (x:fP×Unit):Option (fP×Unit):=eF spec au T Tryz.f57 x
theorem ck:ah Tryz.prog au:=(ah.cons qH.bU (ah.cons bH.bU (ah.cons dD.bU (ah.cons jq.bU (ah.base aX)))))
theorem bU:bW Tryz.prog aJ 57 sig:=fC aH ck mix Tryz.func57 (by kernel_rfl)
def e (a0:fP):Option (fP×Unit):=
 (qH.F ((a0.1.1,a0.1.2),())).bind fun y1=>
 (bH.F (a0.2,())).bind fun y2=>
 let v3:=(List.length y2.1:Int)
 let v4:=(v3==(0:Int))
 bif v4 then(let v5:=([(1:Int)]:List Int)
 some ((ZY,v5),()))
 else(let v6:=(List.length y1.1.2:Int)
 let v7:=(v6==(0:Int))
 bif v7 then(let v8:=([(1:Int)]:List Int)
 some ((ZY,v8),()))
 else((dD.F (y1.1.2,y2.1,())).bind fun y9=>
 (jq.F (y1.1.2,y9.1,())).bind fun H7=>
 (jq.F (y2.1,y9.1,())).bind fun WY=>
 some (((y1.1.1,H7.1),WY.1),())))
theorem of (k:Nat)(a0:fP){y:fP×Unit}(h:e a0=some y):F (a0,())=some y:=aV k (.trans (by kernel_rfl) h)
end iR
namespace jT
def spec:Spec:=⟨[(true,nX)],[(true,nX)],.own,fun j=>match j with|_=>[]⟩
def au:ak:=(ak.cons 57 iR.sig (ak.base aJ))
def sig:kH:=spec.sig au T Tryz.f65
def F (x:cu×Unit):Option (cu×Unit):=eF spec au T Tryz.f65 x
theorem ck:ah Tryz.prog au:=(ah.cons iR.bU (ah.base aX))
theorem bU:bW Tryz.prog aJ 65 sig:=fC aH ck mix Tryz.func65 (by kernel_rfl)
def e (a0:cu):Option (cu×Unit):=
 (iR.F (((a0.1.1.1,a0.1.1.2),a0.1.2),())).bind fun y1=>
 (iR.F (((a0.2.1.1,a0.2.1.2),a0.2.2),())).bind fun y2=>
 some ((((y1.1.1.1,y1.1.1.2),y1.1.2),((y2.1.1.1,y2.1.1.2),y2.1.2)),())
theorem of (k:Nat)(a0:cu){y:cu×Unit}(h:e a0=some y):F (a0,())=some y:=aV k (.trans (by kernel_rfl) h)
end jT
namespace qY
def spec:Spec:=⟨[(true,zV)],[(true,zV)],.own,fun j=>match j with|_=>[]⟩
def au:ak:=(ak.cons 65 jT.sig (ak.base aJ))
def sig:kH:=spec.sig au T Tryz.f87
def F (x:jL×Unit):Option (jL×Unit):=eF spec au T Tryz.f87 x
theorem ck:ah Tryz.prog au:=(ah.cons jT.bU (ah.base aX))
theorem bU:bW Tryz.prog aJ 87 sig:=fC aH ck mix Tryz.func87 (by kernel_rfl)
def e (a0:jL):Option (jL×Unit):=
 let v1:=not a0.1
 bif v1 then(some (HY,()))
 else((jT.F ((((a0.2.1.1.1.1,a0.2.1.1.1.2),a0.2.1.1.2),((a0.2.1.2.1.1,a0.2.1.2.1.2),a0.2.1.2.2)),())).bind fun y2=>
 some ((true,((((y2.1.1.1.1,y2.1.1.1.2),y2.1.1.2),((y2.1.2.1.1,y2.1.2.1.2),y2.1.2.2)),a0.2.2)),()))
theorem of (k:Nat)(a0:jL){y:jL×Unit}(h:e a0=some y):F (a0,())=some y:=aV k (.trans (by kernel_rfl) h)
end qY
namespace dh
def spec:Spec:=⟨[(true,xP)],[(true,xP)],.own,fun j=>match j with|3=>[(1,.box 32 [.z 68 fD false,.v false,.z 70 fU false]),(2,.box 32 [.v true,.v true,.v true]),(3,.box 32 [.o 68 fD true,.v false,.v true]),(4,.lf (.v true))]|7=>[(1,.box 32 [.z 68 fD false,.v false,.z 70 fU false]),(2,.box 32 [.v true,.v true,.v true]),(3,.box 32 [.o 68 fD true,.v false,.o 70 fU true]),(5,.lf (.v true))]|_=>[]⟩
def au:ak:=(ak.cons 87 qY.sig (ak.base aJ))
def sig:kH:=spec.sig au T Tryz.f60
def F (x:b_×Unit):Option (b_×Unit):=eF spec au T Tryz.f60 x
theorem ck:ah Tryz.prog au:=(ah.cons qY.bU (ah.base aX))
theorem bU:bW Tryz.prog aJ 60 sig:=fC aH ck mix Tryz.func60 (by kernel_rfl)
def m3 (fE:bC)(jF:Int)(fV:dA)(jU:Int)(iq:bC)(jG:Int)(x4:Int):S:=⟨[(1,.box 0 0),(2,.box 1 0),(3,.box 2 0),(4,.one (.lf (.val true (.int .i64) x4)))],⟨[some ⟨68,fD,true,true,iq⟩],[some ⟨32,[.val false Ec fE,.val false (.int .i64) jF,.val false FV fV]⟩,some ⟨32,[.nil,.val true (.int .i64) jU,.nil]⟩,some ⟨32,[.own 0,.val false (.int .i64) jG,.nil]⟩]⟩⟩
def m7 (fE:bC)(jF:Int)(fV:dA)(jU:Int)(iq:bC)(jG:Int)(kE:dA)(x5:Int):S:=⟨[(1,.box 0 0),(2,.box 1 0),(3,.box 2 0),(5,.one (.lf (.val true (.int .i64) x5)))],⟨[some ⟨68,fD,true,true,iq⟩,some ⟨70,fU,true,true,kE⟩],[some ⟨32,[.val false Ec fE,.val false (.int .i64) jF,.val false FV fV]⟩,some ⟨32,[.nil,.val true (.int .i64) jU,.nil]⟩,some ⟨32,[.own 0,.val false (.int .i64) jG,.own 1]⟩]⟩⟩
def b3 (f3:bC→Int→dA→Int→bC→Int→Int→Option (b_×Unit))(f7:bC→Int→dA→Int→bC→Int→dA→Int→Option (b_×Unit))(fE:bC)(jF:Int)(fV:dA)(jU:Int)(iq:bC)(jG:Int)(x4:Int):Option (b_×Unit):=
 let v1:=(List.length fE:Int)
 let v2:=decide (x4<v1)
 bif v2 then(bif decide (0≤x4)&&decide (x4<(List.length fE:Int))then(let v3:=((List.getD fE (Int.toNat x4) aA).1).1
 let v4:=((((((List.getD fE (Int.toNat x4) aA).1).2).1).1).1).1
 let v5:=((((((List.getD fE (Int.toNat x4) aA).1).2).1).1).1).2
 let v6:=(((((List.getD fE (Int.toNat x4) aA).1).2).1).1).2
 let v7:=((((((List.getD fE (Int.toNat x4) aA).1).2).1).2).1).1
 let v8:=((((((List.getD fE (Int.toNat x4) aA).1).2).1).2).1).2
 let v9:=(((((List.getD fE (Int.toNat x4) aA).1).2).1).2).2
 let v10:=(((List.getD fE (Int.toNat x4) aA).1).2).2
 (qY.F ((v3,((((v4,v5),v6),((v7,v8),v9)),v10)),())).bind fun WY=>
 bif decide (0≤x4)&&decide (x4<(List.length fE:Int))then(let v12:=((List.getD fE (Int.toNat x4) aA).2).1
 let v13:=((((((List.getD fE (Int.toNat x4) aA).2).2).1).1).1).1
 let v14:=((((((List.getD fE (Int.toNat x4) aA).2).2).1).1).1).2
 let v15:=(((((List.getD fE (Int.toNat x4) aA).2).2).1).1).2
 let v16:=((((((List.getD fE (Int.toNat x4) aA).2).2).1).2).1).1
 let v17:=((((((List.getD fE (Int.toNat x4) aA).2).2).1).2).1).2
 let v18:=(((((List.getD fE (Int.toNat x4) aA).2).2).1).2).2
 let v19:=(((List.getD fE (Int.toNat x4) aA).2).2).2
 (qY.F ((v12,((((v13,v14),v15),((v16,v17),v18)),v19)),())).bind fun y20=>
 let v21:=([((WY.1.1,((((WY.1.2.1.1.1.1,WY.1.2.1.1.1.2),WY.1.2.1.1.2),((WY.1.2.1.2.1.1,WY.1.2.1.2.1.2),WY.1.2.1.2.2)),WY.1.2.2)),(y20.1.1,((((y20.1.2.1.1.1.1,y20.1.2.1.1.1.2),y20.1.2.1.1.2),((y20.1.2.1.2.1.1,y20.1.2.1.2.1.2),y20.1.2.1.2.2)),y20.1.2.2)))]:List dJ)
 bif decide (List.length iq+List.length v21<549755813888)then(let v22:=List.append iq v21
 let v23:=IntKind.i64.wrap (x4+(1:Int))
 f3 fE jF fV jU v22 jG v23)
 else none)
 else none)
 else none)
 else(f7 fE jF fV jU iq jG afR (0:Int))
def b7 (f3:bC→Int→dA→Int→bC→Int→Int→Option (b_×Unit))(f7:bC→Int→dA→Int→bC→Int→dA→Int→Option (b_×Unit))(fE:bC)(jF:Int)(fV:dA)(jU:Int)(iq:bC)(jG:Int)(kE:dA)(x5:Int):Option (b_×Unit):=
 let v1:=(List.length fV:Int)
 let v2:=decide (x5<v1)
 bif v2 then(bif decide (0≤x5)&&decide (x5<(List.length fV:Int))then(let v3:=(List.getD fV (Int.toNat x5) dN).1
 let v4:=((List.getD fV (Int.toNat x5) dN).2).1
 let v5:=(((List.getD fV (Int.toNat x5) dN).2).2).1
 let v6:=((((List.getD fV (Int.toNat x5) dN).2).2).2).1
 let v7:=((((((((List.getD fV (Int.toNat x5) dN).2).2).2).2).1).1).1).1
 let v8:=((((((((List.getD fV (Int.toNat x5) dN).2).2).2).2).1).1).1).2
 let v9:=(((((((List.getD fV (Int.toNat x5) dN).2).2).2).2).1).1).2
 let v10:=((((((((List.getD fV (Int.toNat x5) dN).2).2).2).2).1).2).1).1
 let v11:=((((((((List.getD fV (Int.toNat x5) dN).2).2).2).2).1).2).1).2
 let v12:=(((((((List.getD fV (Int.toNat x5) dN).2).2).2).2).1).2).2
 let v13:=(((((List.getD fV (Int.toNat x5) dN).2).2).2).2).2
 (qY.F ((v6,((((v7,v8),v9),((v10,v11),v12)),v13)),())).bind fun Sm=>
 let v15:=([(v3,(v4,(v5,(Sm.1.1,((((Sm.1.2.1.1.1.1,Sm.1.2.1.1.1.2),Sm.1.2.1.1.2),((Sm.1.2.1.2.1.1,Sm.1.2.1.2.1.2),Sm.1.2.1.2.2)),Sm.1.2.2)))))]:List bZ)
 bif decide (List.length kE+List.length v15<925904528653)then(let v16:=List.append kE v15
 let v17:=IntKind.i64.wrap (x5+(1:Int))
 f7 fE jF fV jU iq jG v16 v17)
 else none)
 else none)
 else(some ((iq,(jG,kE)),()))
def e (f3:bC→Int→dA→Int→bC→Int→Int→Option (b_×Unit))(f7:bC→Int→dA→Int→bC→Int→dA→Int→Option (b_×Unit))(a0:b_):Option (b_×Unit):=
 f3 a0.1 a0.2.1 a0.2.2 (0:Int) afT a0.2.1 (0:Int)
def L3 (k:Nat)(fE:bC)(jF:Int)(fV:dA)(jU:Int)(iq:bC)(jG:Int)(x4:Int):Option (b_×Unit):=gB (spec.env au T Tryz.f60) (Func.lN Tryz.f60) k 3 (m3 fE jF fV jU iq jG x4)
def L7 (k:Nat)(fE:bC)(jF:Int)(fV:dA)(jU:Int)(iq:bC)(jG:Int)(kE:dA)(x5:Int):Option (b_×Unit):=gB (spec.env au T Tryz.f60) (Func.lN Tryz.f60) k 7 (m7 fE jF fV jU iq jG kE x5)
theorem pG (k:Nat)(fE:bC)(jF:Int)(fV:dA)(jU:Int)(iq:bC)(jG:Int)(x4:Int):L3 (k+1) fE jF fV jU iq jG x4=b3 (L3 k) (L7 k) fE jF fV jU iq jG x4:=by kernel_rfl
theorem jA (k:Nat)(fE:bC)(jF:Int)(fV:dA)(jU:Int)(iq:bC)(jG:Int)(kE:dA)(x5:Int):L7 (k+1) fE jF fV jU iq jG kE x5=b7 (L3 k) (L7 k) fE jF fV jU iq jG kE x5:=by kernel_rfl
theorem of (k:Nat)(a0:b_){y:b_×Unit}(h:e (L3 k) (L7 k) a0=some y):F (a0,())=some y:=aV k (.trans (by kernel_rfl) h)
end dh
namespace xq
def spec:Spec:=⟨[(true,oD)],[(false,(.int .i64))],.own,fun j=>match j with|_=>[]⟩
def au:ak:=(ak.cons 79 qH.sig (ak.base aJ))
def sig:kH:=spec.sig au T Tryz.f56
def F (x:dK×Unit):Option (Int×Unit):=eF spec au T Tryz.f56 x
theorem ck:ah Tryz.prog au:=(ah.cons qH.bU (ah.base aX))
theorem bU:bW Tryz.prog aJ 56 sig:=fC aH ck mix Tryz.func56 (by kernel_rfl)
def e (a0:dK):Option (Int×Unit):=
 (qH.F ((a0.1,a0.2),())).bind fun y1=>
 bif y1.1.1 then(some ((-1:Int),()))
 else(let v2:=(List.length y1.1.2:Int)
 let v3:=decide (v2>(0:Int))
 bif v3 then(some ((1:Int),()))
 else(some ((0:Int),())))
theorem of (k:Nat)(a0:dK){y:Int×Unit}(h:e a0=some y):F (a0,())=some y:=aV k (.trans (by kernel_rfl) h)
end xq
namespace oW
def spec:Spec:=⟨[(true,pq)],[(false,(.int .i64))],.own,fun j=>match j with|_=>[]⟩
def au:ak:=(ak.cons 57 iR.sig (ak.cons 56 xq.sig (ak.base aJ)))
def sig:kH:=spec.sig au T Tryz.f24
def F (x:fP×Unit):Option (Int×Unit):=eF spec au T Tryz.f24 x
theorem ck:ah Tryz.prog au:=(ah.cons iR.bU (ah.cons xq.bU (ah.base aX)))
theorem bU:bW Tryz.prog aJ 24 sig:=fC aH ck mix Tryz.func24 (by kernel_rfl)
def e (a0:fP):Option (Int×Unit):=
 (iR.F (((a0.1.1,a0.1.2),a0.2),())).bind fun y1=>
 (xq.F ((y1.1.1.1,y1.1.1.2),())).bind fun y2=>
 some (y2.1,())
theorem of (k:Nat)(a0:fP){y:Int×Unit}(h:e a0=some y):F (a0,())=some y:=aV k (.trans (by kernel_rfl) h)
end oW
namespace zf
def spec:Spec:=⟨[(true,nX)],[(false,(.int .i64))],.own,fun j=>match j with|_=>[]⟩
def au:ak:=(ak.cons 24 oW.sig (ak.base aJ))
def sig:kH:=spec.sig au T Tryz.f90
def F (x:cu×Unit):Option (Int×Unit):=eF spec au T Tryz.f90 x
theorem ck:ah Tryz.prog au:=(ah.cons oW.bU (ah.base aX))
theorem bU:bW Tryz.prog aJ 90 sig:=fC aH ck mix Tryz.func90 (by kernel_rfl)
def e (a0:cu):Option (Int×Unit):=
 (oW.F (((a0.1.1.1,a0.1.1.2),a0.1.2),())).bind fun y1=>
 let v2:=(y1.1 != (0:Int))
 bif v2 then(some (y1.1,()))
 else((oW.F (((a0.2.1.1,a0.2.1.2),a0.2.2),())).bind fun y3=>
 some (y3.1,()))
theorem of (k:Nat)(a0:cu){y:Int×Unit}(h:e a0=some y):F (a0,())=some y:=aV k (.trans (by kernel_rfl) h)
end zf
namespace nP
def spec:Spec:=⟨[(false,dI),(false,dI)],[(false,dI)],.own,fun j=>match j with|7=>[(0,.lf (.z 114 (.int .u32) false)),(1,.lf (.z 114 (.int .u32) false)),(5,.lf (.v true)),(6,.lf (.o 114 (.int .u32) true)),(7,.lf (.v true)),(8,.lf (.v true))]|_=>[]⟩
def au:ak:=(ak.cons 103 oG.sig (ak.cons 80 bH.sig (ak.base aJ)))
def sig:kH:=spec.sig au T Tryz.f134
def F (x:aj×aj×Unit):Option (aj×Unit):=eF spec au T Tryz.f134 x
theorem ck:ah Tryz.prog au:=(ah.cons oG.bU (ah.cons bH.bU (ah.base aX)))
theorem bU:bW Tryz.prog aJ 134 sig:=fC aH ck mix Tryz.func134 (by kernel_rfl)
def m7 (x0:aj)(x1:aj)(x5:Int)(x6:aj)(x7:Int)(x8:Int):S:=⟨[(0,.one (.lf (.val false dI x0))),(1,.one (.lf (.val false dI x1))),(5,.one (.lf (.val true (.int .i64) x5))),(6,.one (.lf (.own 0))),(7,.one (.lf (.val true (.int .u64) x7))),(8,.one (.lf (.val true (.int .i64) x8)))],⟨[some ⟨114,(.int .u32),true,true,x6⟩],[]⟩⟩
def b7 (f7:aj→aj→Int→aj→Int→Int→Option (aj×Unit))(x0:aj)(x1:aj)(x5:Int)(x6:aj)(x7:Int)(x8:Int):Option (aj×Unit):=
 let v1:=decide (x8≤x5)
 bif v1 then((oG.F (x0,x8,())).bind fun y2=>
 (oG.F (x1,x8,())).bind fun y3=>
 let v4:=IntKind.u64.wrap (y2.1+y3.1)
 let v5:=IntKind.u64.wrap (v4+x7)
 let v6:=IntKind.u32.wrap v5
 bif decide (0≤x8)&&decide (x8<(List.length x6:Int))then(let v7:=List.set x6 (Int.toNat x8) v6
 bif decide ((32:Int)<0)then none
 else(let v8:=oV .u64 v5 (32:Int)
 let v9:=IntKind.i64.wrap (x8+(1:Int))
 f7 x0 x1 x5 v7 v8 v9))
 else none)
 else((bH.F (x6,())).bind fun H7=>
 some (H7.1,()))
def e (f7:aj→aj→Int→aj→Int→Int→Option (aj×Unit))(a0:aj)(a1:aj):Option (aj×Unit):=
 let v1:=(List.length a0:Int)
 let v2:=(List.length a1:Int)
 let v3:=decide (v2>v1)
 bif v3 then(let v4:=(List.length a1:Int)
 let v5:=IntKind.i64.wrap (v4+(1:Int))
 bif decide (0≤v5)&&(decide (v5≤v5)&&(decide (Int.toNat v5*4≤281474976710656)&&Nat.blt 0 4))then(let v6:=List.replicate (Int.toNat v5) (0:Int)
 f7 a0 a1 v4 v6 (0:Int) (0:Int))
 else none)
 else(let v7:=IntKind.i64.wrap (v1+(1:Int))
 bif decide (0≤v7)&&(decide (v7≤v7)&&(decide (Int.toNat v7*4≤281474976710656)&&Nat.blt 0 4))then(let v8:=List.replicate (Int.toNat v7) (0:Int)
 f7 a0 a1 v1 v8 (0:Int) (0:Int))
 else none)
def L7 (k:Nat)(x0:aj)(x1:aj)(x5:Int)(x6:aj)(x7:Int)(x8:Int):Option (aj×Unit):=gB (spec.env au T Tryz.f134) (Func.lN Tryz.f134) k 7 (m7 x0 x1 x5 x6 x7 x8)
theorem jA (k:Nat)(x0:aj)(x1:aj)(x5:Int)(x6:aj)(x7:Int)(x8:Int):L7 (k+1) x0 x1 x5 x6 x7 x8=b7 (L7 k) x0 x1 x5 x6 x7 x8:=by kernel_rfl
theorem of (k:Nat)(a0:aj)(a1:aj){y:aj×Unit}(h:e (L7 k) a0 a1=some y):F (a0,a1,())=some y:=aV k (.trans (by kernel_rfl) h)
end nP
namespace wu
def spec:Spec:=⟨[(true,oD),(true,oD)],[(true,oD)],.own,fun j=>match j with|_=>[]⟩
def au:ak:=(ak.cons 134 nP.sig (ak.cons 83 iH.sig (ak.cons 93 fQ.sig (ak.cons 96 jo.sig (ak.base aJ)))))
def sig:kH:=spec.sig au T Tryz.f123
def F (x:dK×dK×Unit):Option (dK×Unit):=eF spec au T Tryz.f123 x
theorem ck:ah Tryz.prog au:=(ah.cons nP.bU (ah.cons iH.bU (ah.cons fQ.bU (ah.cons jo.bU (ah.base aX)))))
theorem bU:bW Tryz.prog aJ 123 sig:=fC aH ck mix Tryz.func123 (by kernel_rfl)
def e (a0:dK)(a1:dK):Option (dK×Unit):=
 let v1:=(a0.1==a1.1)
 bif v1 then((nP.F (a0.2,a1.2,())).bind fun y2=>
 (iH.F (a0.1,y2.1,())).bind fun y3=>
 some ((y3.1.1,y3.1.2),()))
 else((fQ.F (a0.2,a1.2,())).bind fun y4=>
 let v5:=decide (y4.1≥(0:Int))
 bif v5 then((jo.F (a0.2,a1.2,())).bind fun y6=>
 (iH.F (a0.1,y6.1,())).bind fun y7=>
 some ((y7.1.1,y7.1.2),()))
 else((jo.F (a1.2,a0.2,())).bind fun y8=>
 (iH.F (a1.1,y8.1,())).bind fun y9=>
 some ((y9.1.1,y9.1.2),())))
theorem of (k:Nat)(a0:dK)(a1:dK){y:dK×Unit}(h:e a0 a1=some y):F (a0,a1,())=some y:=aV k (.trans (by kernel_rfl) h)
end wu
namespace jQ
def spec:Spec:=⟨[(false,dI),(false,dI)],[(false,dI)],.own,fun j=>match j with|3=>[(0,.lf (.z 114 (.int .u32) false)),(1,.lf (.z 114 (.int .u32) false)),(5,.lf (.o 114 (.int .u32) true)),(6,.lf (.v true))]|7=>[(0,.lf (.z 114 (.int .u32) false)),(1,.lf (.z 114 (.int .u32) false)),(5,.lf (.o 114 (.int .u32) true)),(6,.lf (.v true)),(7,.lf (.v true)),(8,.lf (.v true))]|_=>[]⟩
def au:ak:=(ak.cons 80 bH.sig (ak.base aJ))
def sig:kH:=spec.sig au T Tryz.f126
def F (x:aj×aj×Unit):Option (aj×Unit):=eF spec au T Tryz.f126 x
theorem ck:ah Tryz.prog au:=(ah.cons bH.bU (ah.base aX))
theorem bU:bW Tryz.prog aJ 126 sig:=fC aH ck mix Tryz.func126 (by kernel_rfl)
def m3 (x0:aj)(x1:aj)(x5:aj)(x6:Int):S:=⟨[(0,.one (.lf (.val false dI x0))),(1,.one (.lf (.val false dI x1))),(5,.one (.lf (.own 0))),(6,.one (.lf (.val true (.int .i64) x6)))],⟨[some ⟨114,(.int .u32),true,true,x5⟩],[]⟩⟩
def m7 (x0:aj)(x1:aj)(x5:aj)(x6:Int)(x7:Int)(x8:Int):S:=⟨[(0,.one (.lf (.val false dI x0))),(1,.one (.lf (.val false dI x1))),(5,.one (.lf (.own 0))),(6,.one (.lf (.val true (.int .i64) x6))),(7,.one (.lf (.val true (.int .u64) x7))),(8,.one (.lf (.val true (.int .i64) x8)))],⟨[some ⟨114,(.int .u32),true,true,x5⟩],[]⟩⟩
def b3 (f3:aj→aj→aj→Int→Option (aj×Unit))(f7:aj→aj→aj→Int→Int→Int→Option (aj×Unit))(x0:aj)(x1:aj)(x5:aj)(x6:Int):Option (aj×Unit):=
 let v1:=(List.length x0:Int)
 let v2:=decide (x6<v1)
 bif v2 then(f7 x0 x1 x5 x6 (0:Int) (0:Int))
 else((bH.F (x5,())).bind fun y3=>
 some (y3.1,()))
def b7 (f3:aj→aj→aj→Int→Option (aj×Unit))(f7:aj→aj→aj→Int→Int→Int→Option (aj×Unit))(x0:aj)(x1:aj)(x5:aj)(x6:Int)(x7:Int)(x8:Int):Option (aj×Unit):=
 let v1:=(List.length x1:Int)
 let v2:=decide (x8<v1)
 bif v2 then(bif decide (0≤x6)&&decide (x6<(List.length x0:Int))then(let v3:=List.getD x0 (Int.toNat x6) (0:Int)
 let v4:=IntKind.u64.wrap v3
 bif decide (0≤x8)&&decide (x8<(List.length x1:Int))then(let v5:=List.getD x1 (Int.toNat x8) (0:Int)
 let v6:=IntKind.u64.wrap v5
 let v7:=IntKind.u64.wrap (v4*v6)
 let v8:=IntKind.i64.wrap (x6+x8)
 bif decide (0≤v8)&&decide (v8<(List.length x5:Int))then(let v9:=List.getD x5 (Int.toNat v8) (0:Int)
 let v10:=IntKind.u64.wrap v9
 let v11:=IntKind.u64.wrap (v7+v10)
 let v12:=IntKind.u64.wrap (v11+x7)
 let v13:=IntKind.i64.wrap (x6+x8)
 let v14:=IntKind.u32.wrap v12
 bif decide (0≤v13)&&decide (v13<(List.length x5:Int))then(let v15:=List.set x5 (Int.toNat v13) v14
 bif decide ((32:Int)<0)then none
 else(let v16:=oV .u64 v12 (32:Int)
 let v17:=IntKind.i64.wrap (x8+(1:Int))
 f7 x0 x1 v15 x6 v16 v17))
 else none)
 else none)
 else none)
 else none)
 else(let v18:=(List.length x1:Int)
 let v19:=IntKind.i64.wrap (x6+v18)
 let v20:=IntKind.u32.wrap x7
 bif decide (0≤v19)&&decide (v19<(List.length x5:Int))then(let v21:=List.set x5 (Int.toNat v19) v20
 let v22:=IntKind.i64.wrap (x6+(1:Int))
 f3 x0 x1 v21 v22)
 else none)
def e (f3:aj→aj→aj→Int→Option (aj×Unit))(f7:aj→aj→aj→Int→Int→Int→Option (aj×Unit))(a0:aj)(a1:aj):Option (aj×Unit):=
 let v1:=(List.length a0:Int)
 let v2:=(List.length a1:Int)
 let v3:=IntKind.i64.wrap (v1+v2)
 bif decide (0≤v3)&&(decide (v3≤v3)&&(decide (Int.toNat v3*4≤281474976710656)&&Nat.blt 0 4))then(let v4:=List.replicate (Int.toNat v3) (0:Int)
 f3 a0 a1 v4 (0:Int))
 else none
def L3 (k:Nat)(x0:aj)(x1:aj)(x5:aj)(x6:Int):Option (aj×Unit):=gB (spec.env au T Tryz.f126) (Func.lN Tryz.f126) k 3 (m3 x0 x1 x5 x6)
def L7 (k:Nat)(x0:aj)(x1:aj)(x5:aj)(x6:Int)(x7:Int)(x8:Int):Option (aj×Unit):=gB (spec.env au T Tryz.f126) (Func.lN Tryz.f126) k 7 (m7 x0 x1 x5 x6 x7 x8)
theorem pG (k:Nat)(x0:aj)(x1:aj)(x5:aj)(x6:Int):L3 (k+1) x0 x1 x5 x6=b3 (L3 k) (L7 k) x0 x1 x5 x6:=by kernel_rfl
theorem jA (k:Nat)(x0:aj)(x1:aj)(x5:aj)(x6:Int)(x7:Int)(x8:Int):L7 (k+1) x0 x1 x5 x6 x7 x8=b7 (L3 k) (L7 k) x0 x1 x5 x6 x7 x8:=by kernel_rfl
theorem of (k:Nat)(a0:aj)(a1:aj){y:aj×Unit}(h:e (L3 k) (L7 k) a0 a1=some y):F (a0,a1,())=some y:=aV k (.trans (by kernel_rfl) h)
end jQ
namespace yg
def spec:Spec:=⟨[(true,oD),(true,oD)],[(true,oD)],.own,fun j=>match j with|_=>[]⟩
def au:ak:=(ak.cons 126 jQ.sig (ak.cons 83 iH.sig (ak.base aJ)))
def sig:kH:=spec.sig au T Tryz.f124
def F (x:dK×dK×Unit):Option (dK×Unit):=eF spec au T Tryz.f124 x
theorem ck:ah Tryz.prog au:=(ah.cons jQ.bU (ah.cons iH.bU (ah.base aX)))
theorem bU:bW Tryz.prog aJ 124 sig:=fC aH ck mix Tryz.func124 (by kernel_rfl)
def e (a0:dK)(a1:dK):Option (dK×Unit):=
 let v1:=(!(a0.1==a1.1))
 (jQ.F (a0.2,a1.2,())).bind fun y2=>
 (iH.F (v1,y2.1,())).bind fun y3=>
 some ((y3.1.1,y3.1.2),())
theorem of (k:Nat)(a0:dK)(a1:dK){y:dK×Unit}(h:e a0 a1=some y):F (a0,a1,())=some y:=aV k (.trans (by kernel_rfl) h)
end yg
namespace oH
def spec:Spec:=⟨[(false,dI)],[(true,oD)],.shared,fun j=>match j with|_=>[]⟩
def au:ak:=(ak.base aJ)
def sig:kH:=spec.sig au T Tryz.f125
def F (x:aj×Unit):Option (dK×Unit):=eF spec au T Tryz.f125 x
theorem ck:ah Tryz.prog au:=(ah.base aX)
theorem bU:bW Tryz.prog aJ 125 sig:=fC aH ck mix Tryz.func125 (by kernel_rfl)
def e (a0:aj):Option (dK×Unit):=
 some ((false,a0),())
theorem of (k:Nat)(a0:aj){y:dK×Unit}(h:e a0=some y):F (a0,())=some y:=aV k (.trans (by kernel_rfl) h)
end oH
namespace CX
def spec:Spec:=⟨[(true,pq),(true,pq)],[(true,pq)],.own,fun j=>match j with|_=>[]⟩
def au:ak:=(ak.cons 57 iR.sig (ak.cons 125 oH.sig (ak.cons 124 yg.sig (ak.cons 123 wu.sig (ak.cons 126 jQ.sig (ak.base aJ))))))
def sig:kH:=spec.sig au T Tryz.f113
def F (x:fP×fP×Unit):Option (fP×Unit):=eF spec au T Tryz.f113 x
theorem ck:ah Tryz.prog au:=(ah.cons iR.bU (ah.cons oH.bU (ah.cons yg.bU (ah.cons wu.bU (ah.cons jQ.bU (ah.base aX))))))
theorem bU:bW Tryz.prog aJ 113 sig:=fC aH ck mix Tryz.func113 (by kernel_rfl)
def e (a0:fP)(a1:fP):Option (fP×Unit):=
 (iR.F (((a0.1.1,a0.1.2),a0.2),())).bind fun y1=>
 (iR.F (((a1.1.1,a1.1.2),a1.2),())).bind fun y2=>
 (oH.F (y2.1.2,())).bind fun y3=>
 (yg.F ((y1.1.1.1,y1.1.1.2),(y3.1.1,y3.1.2),())).bind fun y4=>
 (oH.F (y1.1.2,())).bind fun y5=>
 (yg.F ((y2.1.1.1,y2.1.1.2),(y5.1.1,y5.1.2),())).bind fun y6=>
 (wu.F ((y4.1.1,y4.1.2),(y6.1.1,y6.1.2),())).bind fun y7=>
 (jQ.F (y1.1.2,y2.1.2,())).bind fun y8=>
 (iR.F (((y7.1.1,y7.1.2),y8.1),())).bind fun y9=>
 some (((y9.1.1.1,y9.1.1.2),y9.1.2),())
theorem of (k:Nat)(a0:fP)(a1:fP){y:fP×Unit}(h:e a0 a1=some y):F (a0,a1,())=some y:=aV k (.trans (by kernel_rfl) h)
end CX
namespace zZ
def spec:Spec:=⟨[(true,oD)],[(true,oD)],.own,fun j=>match j with|_=>[]⟩
def au:ak:=(ak.cons 83 iH.sig (ak.base aJ))
def sig:kH:=spec.sig au T Tryz.f127
def F (x:dK×Unit):Option (dK×Unit):=eF spec au T Tryz.f127 x
theorem ck:ah Tryz.prog au:=(ah.cons iH.bU (ah.base aX))
theorem bU:bW Tryz.prog aJ 127 sig:=fC aH ck mix Tryz.func127 (by kernel_rfl)
def e (a0:dK):Option (dK×Unit):=
 let v1:=not a0.1
 (iH.F (v1,a0.2,())).bind fun y2=>
 some ((y2.1.1,y2.1.2),())
theorem of (k:Nat)(a0:dK){y:dK×Unit}(h:e a0=some y):F (a0,())=some y:=aV k (.trans (by kernel_rfl) h)
end zZ
namespace CY
def spec:Spec:=⟨[(true,pq)],[(true,pq)],.own,fun j=>match j with|_=>[]⟩
def au:ak:=(ak.cons 57 iR.sig (ak.cons 127 zZ.sig (ak.base aJ)))
def sig:kH:=spec.sig au T Tryz.f114
def F (x:fP×Unit):Option (fP×Unit):=eF spec au T Tryz.f114 x
theorem ck:ah Tryz.prog au:=(ah.cons iR.bU (ah.cons zZ.bU (ah.base aX)))
theorem bU:bW Tryz.prog aJ 114 sig:=fC aH ck mix Tryz.func114 (by kernel_rfl)
def e (a0:fP):Option (fP×Unit):=
 (iR.F (((a0.1.1,a0.1.2),a0.2),())).bind fun y1=>
 (zZ.F ((y1.1.1.1,y1.1.1.2),())).bind fun y2=>
 (iR.F (((y2.1.1,y2.1.2),y1.1.2),())).bind fun y3=>
 some (((y3.1.1.1,y3.1.1.2),y3.1.2),())
theorem of (k:Nat)(a0:fP){y:fP×Unit}(h:e a0=some y):F (a0,())=some y:=aV k (.trans (by kernel_rfl) h)
end CY
namespace z_
def spec:Spec:=⟨[(true,pq),(true,pq)],[(true,pq)],.own,fun j=>match j with|_=>[]⟩
def au:ak:=(ak.cons 114 CY.sig (ak.cons 113 CX.sig (ak.base aJ)))
def sig:kH:=spec.sig au T Tryz.f102
def F (x:fP×fP×Unit):Option (fP×Unit):=eF spec au T Tryz.f102 x
theorem ck:ah Tryz.prog au:=(ah.cons CY.bU (ah.cons CX.bU (ah.base aX)))
theorem bU:bW Tryz.prog aJ 102 sig:=fC aH ck mix Tryz.func102 (by kernel_rfl)
def e (a0:fP)(a1:fP):Option (fP×Unit):=
 (CY.F (((a1.1.1,a1.1.2),a1.2),())).bind fun y1=>
 (CX.F (((a0.1.1,a0.1.2),a0.2),((y1.1.1.1,y1.1.1.2),y1.1.2),())).bind fun y2=>
 some (((y2.1.1.1,y2.1.1.2),y2.1.2),())
theorem of (k:Nat)(a0:fP)(a1:fP){y:fP×Unit}(h:e a0 a1=some y):F (a0,a1,())=some y:=aV k (.trans (by kernel_rfl) h)
end z_
namespace CZ
def spec:Spec:=⟨[(true,nX),(true,nX)],[(true,nX)],.own,fun j=>match j with|_=>[]⟩
def au:ak:=(ak.cons 102 z_.sig (ak.base aJ))
def sig:kH:=spec.sig au T Tryz.f91
def F (x:cu×cu×Unit):Option (cu×Unit):=eF spec au T Tryz.f91 x
theorem ck:ah Tryz.prog au:=(ah.cons z_.bU (ah.base aX))
theorem bU:bW Tryz.prog aJ 91 sig:=fC aH ck mix Tryz.func91 (by kernel_rfl)
def e (a0:cu)(a1:cu):Option (cu×Unit):=
 (z_.F (((a0.1.1.1,a0.1.1.2),a0.1.2),((a1.1.1.1,a1.1.1.2),a1.1.2),())).bind fun y1=>
 (z_.F (((a0.2.1.1,a0.2.1.2),a0.2.2),((a1.2.1.1,a1.2.1.2),a1.2.2),())).bind fun y2=>
 some ((((y1.1.1.1,y1.1.1.2),y1.1.2),((y2.1.1.1,y2.1.1.2),y2.1.2)),())
theorem of (k:Nat)(a0:cu)(a1:cu){y:cu×Unit}(h:e a0 a1=some y):F (a0,a1,())=some y:=aV k (.trans (by kernel_rfl) h)
end CZ
namespace Aa
def spec:Spec:=⟨[(true,nX),(true,nX)],[(false,(.int .i64))],.own,fun j=>match j with|_=>[]⟩
def au:ak:=(ak.cons 91 CZ.sig (ak.cons 90 zf.sig (ak.base aJ)))
def sig:kH:=spec.sig au T Tryz.f69
def F (x:cu×cu×Unit):Option (Int×Unit):=eF spec au T Tryz.f69 x
theorem ck:ah Tryz.prog au:=(ah.cons CZ.bU (ah.cons zf.bU (ah.base aX)))
theorem bU:bW Tryz.prog aJ 69 sig:=fC aH ck mix Tryz.func69 (by kernel_rfl)
def e (a0:cu)(a1:cu):Option (Int×Unit):=
 (CZ.F ((((a0.1.1.1,a0.1.1.2),a0.1.2),((a0.2.1.1,a0.2.1.2),a0.2.2)),(((a1.1.1.1,a1.1.1.2),a1.1.2),((a1.2.1.1,a1.2.1.2),a1.2.2)),())).bind fun y1=>
 (zf.F ((((y1.1.1.1.1,y1.1.1.1.2),y1.1.1.2),((y1.1.2.1.1,y1.1.2.1.2),y1.1.2.2)),())).bind fun y2=>
 some (y2.1,())
theorem of (k:Nat)(a0:cu)(a1:cu){y:Int×Unit}(h:e a0 a1=some y):F (a0,a1,())=some y:=aV k (.trans (by kernel_rfl) h)
end Aa
namespace iI
def spec:Spec:=⟨[(false,.bool),(true,nX),(true,nX)],[(false,.bool)],.own,fun j=>match j with|_=>[]⟩
def au:ak:=(ak.cons 69 Aa.sig (ak.base aJ))
def sig:kH:=spec.sig au T Tryz.f64
def F (x:Bool×cu×cu×Unit):Option (Bool×Unit):=eF spec au T Tryz.f64 x
theorem ck:ah Tryz.prog au:=(ah.cons Aa.bU (ah.base aX))
theorem bU:bW Tryz.prog aJ 64 sig:=fC aH ck mix Tryz.func64 (by kernel_rfl)
def e (a0:Bool)(a1:cu)(a2:cu):Option (Bool×Unit):=
 bif a0 then((Aa.F ((((a1.1.1.1,a1.1.1.2),a1.1.2),((a1.2.1.1,a1.2.1.2),a1.2.2)),(((a2.1.1.1,a2.1.1.2),a2.1.2),((a2.2.1.1,a2.2.1.2),a2.2.2)),())).bind fun y1=>
 let v2:=decide (y1.1<(0:Int))
 some (v2,()))
 else((Aa.F ((((a1.1.1.1,a1.1.1.2),a1.1.2),((a1.2.1.1,a1.2.1.2),a1.2.2)),(((a2.1.1.1,a2.1.1.2),a2.1.2),((a2.2.1.1,a2.2.1.2),a2.2.2)),())).bind fun y3=>
 let v4:=decide (y3.1>(0:Int))
 some (v4,()))
theorem of (k:Nat)(a0:Bool)(a1:cu)(a2:cu){y:Bool×Unit}(h:e a0 a1 a2=some y):F (a0,a1,a2,())=some y:=aV k (.trans (by kernel_rfl) h)
end iI
namespace mg
def spec:Spec:=⟨[(true,xP),(false,(.int .i64)),(false,.bool),(true,nX),(false,(.int .i64))],[(true,xP),(true,ajs),(false,(.int .i64))],.first,fun j=>match j with|_=>[]⟩
def au:ak:=(ak.cons 37 Ed.sig (ak.cons 64 iI.sig (ak.cons 60 dh.sig (ak.cons 65 jT.sig (ak.base aJ)))))
def sig:kH:=spec.sig au T Tryz.f29
def F (x:b_×Int×Bool×cu×Int×Unit):Option (b_×NT×Int×Unit):=eF spec au T Tryz.f29 x
theorem ck:ah Tryz.prog au:=(ah.cons Ed.bU (ah.cons iI.bU (ah.cons dh.bU (ah.cons jT.bU (ah.base aX)))))
theorem bU:bW Tryz.prog aJ 29 sig:=fC aH ck mix Tryz.func29 (by kernel_rfl)
def e (a0:b_)(a1:Int)(a2:Bool)(a3:cu)(a4:Int):Option (b_×NT×Int×Unit):=
 (Ed.F ((a0.1,(a0.2.1,a0.2.2)),a1,())).bind fun y1=>
 let v2:=not y1.1
 bif v2 then(some ((a0.1,(a0.2.1,a0.2.2)),WV,(61:Int),()))
 else(bif decide (0≤a1)&&decide (a1<(List.length a0.1:Int))then(let v3:=((List.getD a0.1 (Int.toNat a1) aA).1).1
 let v4:=((((((List.getD a0.1 (Int.toNat a1) aA).1).2).1).1).1).1
 let v5:=((((((List.getD a0.1 (Int.toNat a1) aA).1).2).1).1).1).2
 let v6:=(((((List.getD a0.1 (Int.toNat a1) aA).1).2).1).1).2
 let v7:=((((((List.getD a0.1 (Int.toNat a1) aA).1).2).1).2).1).1
 let v8:=((((((List.getD a0.1 (Int.toNat a1) aA).1).2).1).2).1).2
 let v9:=(((((List.getD a0.1 (Int.toNat a1) aA).1).2).1).2).2
 let v10:=(((List.getD a0.1 (Int.toNat a1) aA).1).2).2
 bif decide (0≤a1)&&decide (a1<(List.length a0.1:Int))then(let v11:=((List.getD a0.1 (Int.toNat a1) aA).2).1
 let v12:=((((((List.getD a0.1 (Int.toNat a1) aA).2).2).1).1).1).1
 let v13:=((((((List.getD a0.1 (Int.toNat a1) aA).2).2).1).1).1).2
 let v14:=(((((List.getD a0.1 (Int.toNat a1) aA).2).2).1).1).2
 let v15:=((((((List.getD a0.1 (Int.toNat a1) aA).2).2).1).2).1).1
 let v16:=((((((List.getD a0.1 (Int.toNat a1) aA).2).2).1).2).1).2
 let v17:=(((((List.getD a0.1 (Int.toNat a1) aA).2).2).1).2).2
 let v18:=(((List.getD a0.1 (Int.toNat a1) aA).2).2).2
 bif a2 then(bif v11 then((iI.F (a2,(((a3.1.1.1,a3.1.1.2),a3.1.2),((a3.2.1.1,a3.2.1.2),a3.2.2)),(((v12,v13),v14),((v15,v16),v17)),())).bind fun Sv=>
 let v20:=not Sv.1
 bif v20 then(some ((a0.1,(a0.2.1,a0.2.2)),WV,(0:Int),()))
 else(bif v3 then((iI.F (a2,(((a3.1.1.1,a3.1.1.2),a3.1.2),((a3.2.1.1,a3.2.1.2),a3.2.2)),(((v4,v5),v6),((v7,v8),v9)),())).bind fun y21=>
 bif y21.1 then(some ((a0.1,(a0.2.1,a0.2.2)),((2:Int),v10),(0:Int),()))
 else((dh.F ((a0.1,(a0.2.1,a0.2.2)),())).bind fun y22=>
 let v23:=([(a1,(a2,(a0.2.1,(v11,((((v12,v13),v14),((v15,v16),v17)),v18)))))]:List bZ)
 bif decide (List.length y22.1.2.2+List.length v23<925904528653)then(let v24:=List.append y22.1.2.2 v23
 (jT.F ((((a3.1.1.1,a3.1.1.2),a3.1.2),((a3.2.1.1,a3.2.1.2),a3.2.2)),())).bind fun y25=>
 bif a2 then(bif decide (0≤a1)&&decide (a1<(List.length y22.1.1:Int))then(let v26:=List.set y22.1.1 (Int.toNat a1) ((((List.getD y22.1.1 (Int.toNat a1) aA).1).1,((((((((((List.getD y22.1.1 (Int.toNat a1) aA).1).2).1).1).1).1,((((((List.getD y22.1.1 (Int.toNat a1) aA).1).2).1).1).1).2),(((((List.getD y22.1.1 (Int.toNat a1) aA).1).2).1).1).2),((((((((List.getD y22.1.1 (Int.toNat a1) aA).1).2).1).2).1).1,((((((List.getD y22.1.1 (Int.toNat a1) aA).1).2).1).2).1).2),(((((List.getD y22.1.1 (Int.toNat a1) aA).1).2).1).2).2)),(((List.getD y22.1.1 (Int.toNat a1) aA).1).2).2)),(true,((((y25.1.1.1.1,y25.1.1.1.2),y25.1.1.2),((y25.1.2.1.1,y25.1.2.1.2),y25.1.2.2)),a4)))
 some ((v26,(y22.1.2.1,v24)),((1:Int),(0:Int)),(0:Int),()))
 else none)
 else(bif decide (0≤a1)&&decide (a1<(List.length y22.1.1:Int))then(let v27:=List.set y22.1.1 (Int.toNat a1) ((true,((((y25.1.1.1.1,y25.1.1.1.2),y25.1.1.2),((y25.1.2.1.1,y25.1.2.1.2),y25.1.2.2)),a4)),(((List.getD y22.1.1 (Int.toNat a1) aA).2).1,((((((((((List.getD y22.1.1 (Int.toNat a1) aA).2).2).1).1).1).1,((((((List.getD y22.1.1 (Int.toNat a1) aA).2).2).1).1).1).2),(((((List.getD y22.1.1 (Int.toNat a1) aA).2).2).1).1).2),((((((((List.getD y22.1.1 (Int.toNat a1) aA).2).2).1).2).1).1,((((((List.getD y22.1.1 (Int.toNat a1) aA).2).2).1).2).1).2),(((((List.getD y22.1.1 (Int.toNat a1) aA).2).2).1).2).2)),(((List.getD y22.1.1 (Int.toNat a1) aA).2).2).2)))
 some ((v27,(y22.1.2.1,v24)),((1:Int),(0:Int)),(0:Int),()))
 else none))
 else none))
 else((dh.F ((a0.1,(a0.2.1,a0.2.2)),())).bind fun y28=>
 let v29:=([(a1,(a2,(a0.2.1,(v11,((((v12,v13),v14),((v15,v16),v17)),v18)))))]:List bZ)
 bif decide (List.length y28.1.2.2+List.length v29<925904528653)then(let v30:=List.append y28.1.2.2 v29
 (jT.F ((((a3.1.1.1,a3.1.1.2),a3.1.2),((a3.2.1.1,a3.2.1.2),a3.2.2)),())).bind fun y31=>
 bif a2 then(bif decide (0≤a1)&&decide (a1<(List.length y28.1.1:Int))then(let v32:=List.set y28.1.1 (Int.toNat a1) ((((List.getD y28.1.1 (Int.toNat a1) aA).1).1,((((((((((List.getD y28.1.1 (Int.toNat a1) aA).1).2).1).1).1).1,((((((List.getD y28.1.1 (Int.toNat a1) aA).1).2).1).1).1).2),(((((List.getD y28.1.1 (Int.toNat a1) aA).1).2).1).1).2),((((((((List.getD y28.1.1 (Int.toNat a1) aA).1).2).1).2).1).1,((((((List.getD y28.1.1 (Int.toNat a1) aA).1).2).1).2).1).2),(((((List.getD y28.1.1 (Int.toNat a1) aA).1).2).1).2).2)),(((List.getD y28.1.1 (Int.toNat a1) aA).1).2).2)),(true,((((y31.1.1.1.1,y31.1.1.1.2),y31.1.1.2),((y31.1.2.1.1,y31.1.2.1.2),y31.1.2.2)),a4)))
 some ((v32,(y28.1.2.1,v30)),((1:Int),(0:Int)),(0:Int),()))
 else none)
 else(bif decide (0≤a1)&&decide (a1<(List.length y28.1.1:Int))then(let v33:=List.set y28.1.1 (Int.toNat a1) ((true,((((y31.1.1.1.1,y31.1.1.1.2),y31.1.1.2),((y31.1.2.1.1,y31.1.2.1.2),y31.1.2.2)),a4)),(((List.getD y28.1.1 (Int.toNat a1) aA).2).1,((((((((((List.getD y28.1.1 (Int.toNat a1) aA).2).2).1).1).1).1,((((((List.getD y28.1.1 (Int.toNat a1) aA).2).2).1).1).1).2),(((((List.getD y28.1.1 (Int.toNat a1) aA).2).2).1).1).2),((((((((List.getD y28.1.1 (Int.toNat a1) aA).2).2).1).2).1).1,((((((List.getD y28.1.1 (Int.toNat a1) aA).2).2).1).2).1).2),(((((List.getD y28.1.1 (Int.toNat a1) aA).2).2).1).2).2)),(((List.getD y28.1.1 (Int.toNat a1) aA).2).2).2)))
 some ((v33,(y28.1.2.1,v30)),((1:Int),(0:Int)),(0:Int),()))
 else none))
 else none)))
 else(bif v3 then((iI.F (a2,(((a3.1.1.1,a3.1.1.2),a3.1.2),((a3.2.1.1,a3.2.1.2),a3.2.2)),(((v4,v5),v6),((v7,v8),v9)),())).bind fun y34=>
 bif y34.1 then(some ((a0.1,(a0.2.1,a0.2.2)),((2:Int),v10),(0:Int),()))
 else((dh.F ((a0.1,(a0.2.1,a0.2.2)),())).bind fun IW=>
 let v36:=([(a1,(a2,(a0.2.1,(v11,((((v12,v13),v14),((v15,v16),v17)),v18)))))]:List bZ)
 bif decide (List.length IW.1.2.2+List.length v36<925904528653)then(let v37:=List.append IW.1.2.2 v36
 (jT.F ((((a3.1.1.1,a3.1.1.2),a3.1.2),((a3.2.1.1,a3.2.1.2),a3.2.2)),())).bind fun y38=>
 bif a2 then(bif decide (0≤a1)&&decide (a1<(List.length IW.1.1:Int))then(let v39:=List.set IW.1.1 (Int.toNat a1) ((((List.getD IW.1.1 (Int.toNat a1) aA).1).1,((((((((((List.getD IW.1.1 (Int.toNat a1) aA).1).2).1).1).1).1,((((((List.getD IW.1.1 (Int.toNat a1) aA).1).2).1).1).1).2),(((((List.getD IW.1.1 (Int.toNat a1) aA).1).2).1).1).2),((((((((List.getD IW.1.1 (Int.toNat a1) aA).1).2).1).2).1).1,((((((List.getD IW.1.1 (Int.toNat a1) aA).1).2).1).2).1).2),(((((List.getD IW.1.1 (Int.toNat a1) aA).1).2).1).2).2)),(((List.getD IW.1.1 (Int.toNat a1) aA).1).2).2)),(true,((((y38.1.1.1.1,y38.1.1.1.2),y38.1.1.2),((y38.1.2.1.1,y38.1.2.1.2),y38.1.2.2)),a4)))
 some ((v39,(IW.1.2.1,v37)),((1:Int),(0:Int)),(0:Int),()))
 else none)
 else(bif decide (0≤a1)&&decide (a1<(List.length IW.1.1:Int))then(let v40:=List.set IW.1.1 (Int.toNat a1) ((true,((((y38.1.1.1.1,y38.1.1.1.2),y38.1.1.2),((y38.1.2.1.1,y38.1.2.1.2),y38.1.2.2)),a4)),(((List.getD IW.1.1 (Int.toNat a1) aA).2).1,((((((((((List.getD IW.1.1 (Int.toNat a1) aA).2).2).1).1).1).1,((((((List.getD IW.1.1 (Int.toNat a1) aA).2).2).1).1).1).2),(((((List.getD IW.1.1 (Int.toNat a1) aA).2).2).1).1).2),((((((((List.getD IW.1.1 (Int.toNat a1) aA).2).2).1).2).1).1,((((((List.getD IW.1.1 (Int.toNat a1) aA).2).2).1).2).1).2),(((((List.getD IW.1.1 (Int.toNat a1) aA).2).2).1).2).2)),(((List.getD IW.1.1 (Int.toNat a1) aA).2).2).2)))
 some ((v40,(IW.1.2.1,v37)),((1:Int),(0:Int)),(0:Int),()))
 else none))
 else none))
 else((dh.F ((a0.1,(a0.2.1,a0.2.2)),())).bind fun JZ=>
 let v42:=([(a1,(a2,(a0.2.1,(v11,((((v12,v13),v14),((v15,v16),v17)),v18)))))]:List bZ)
 bif decide (List.length JZ.1.2.2+List.length v42<925904528653)then(let v43:=List.append JZ.1.2.2 v42
 (jT.F ((((a3.1.1.1,a3.1.1.2),a3.1.2),((a3.2.1.1,a3.2.1.2),a3.2.2)),())).bind fun y44=>
 bif a2 then(bif decide (0≤a1)&&decide (a1<(List.length JZ.1.1:Int))then(let v45:=List.set JZ.1.1 (Int.toNat a1) ((((List.getD JZ.1.1 (Int.toNat a1) aA).1).1,((((((((((List.getD JZ.1.1 (Int.toNat a1) aA).1).2).1).1).1).1,((((((List.getD JZ.1.1 (Int.toNat a1) aA).1).2).1).1).1).2),(((((List.getD JZ.1.1 (Int.toNat a1) aA).1).2).1).1).2),((((((((List.getD JZ.1.1 (Int.toNat a1) aA).1).2).1).2).1).1,((((((List.getD JZ.1.1 (Int.toNat a1) aA).1).2).1).2).1).2),(((((List.getD JZ.1.1 (Int.toNat a1) aA).1).2).1).2).2)),(((List.getD JZ.1.1 (Int.toNat a1) aA).1).2).2)),(true,((((y44.1.1.1.1,y44.1.1.1.2),y44.1.1.2),((y44.1.2.1.1,y44.1.2.1.2),y44.1.2.2)),a4)))
 some ((v45,(JZ.1.2.1,v43)),((1:Int),(0:Int)),(0:Int),()))
 else none)
 else(bif decide (0≤a1)&&decide (a1<(List.length JZ.1.1:Int))then(let v46:=List.set JZ.1.1 (Int.toNat a1) ((true,((((y44.1.1.1.1,y44.1.1.1.2),y44.1.1.2),((y44.1.2.1.1,y44.1.2.1.2),y44.1.2.2)),a4)),(((List.getD JZ.1.1 (Int.toNat a1) aA).2).1,((((((((((List.getD JZ.1.1 (Int.toNat a1) aA).2).2).1).1).1).1,((((((List.getD JZ.1.1 (Int.toNat a1) aA).2).2).1).1).1).2),(((((List.getD JZ.1.1 (Int.toNat a1) aA).2).2).1).1).2),((((((((List.getD JZ.1.1 (Int.toNat a1) aA).2).2).1).2).1).1,((((((List.getD JZ.1.1 (Int.toNat a1) aA).2).2).1).2).1).2),(((((List.getD JZ.1.1 (Int.toNat a1) aA).2).2).1).2).2)),(((List.getD JZ.1.1 (Int.toNat a1) aA).2).2).2)))
 some ((v46,(JZ.1.2.1,v43)),((1:Int),(0:Int)),(0:Int),()))
 else none))
 else none)))
 else(bif v3 then((iI.F (a2,(((a3.1.1.1,a3.1.1.2),a3.1.2),((a3.2.1.1,a3.2.1.2),a3.2.2)),(((v4,v5),v6),((v7,v8),v9)),())).bind fun y47=>
 let v48:=not y47.1
 bif v48 then(some ((a0.1,(a0.2.1,a0.2.2)),WV,(0:Int),()))
 else(bif v11 then((iI.F (a2,(((a3.1.1.1,a3.1.1.2),a3.1.2),((a3.2.1.1,a3.2.1.2),a3.2.2)),(((v12,v13),v14),((v15,v16),v17)),())).bind fun y49=>
 bif y49.1 then(some ((a0.1,(a0.2.1,a0.2.2)),((2:Int),v18),(0:Int),()))
 else((dh.F ((a0.1,(a0.2.1,a0.2.2)),())).bind fun J3=>
 let v51:=([(a1,(a2,(a0.2.1,(v3,((((v4,v5),v6),((v7,v8),v9)),v10)))))]:List bZ)
 bif decide (List.length J3.1.2.2+List.length v51<925904528653)then(let v52:=List.append J3.1.2.2 v51
 (jT.F ((((a3.1.1.1,a3.1.1.2),a3.1.2),((a3.2.1.1,a3.2.1.2),a3.2.2)),())).bind fun Sr=>
 bif a2 then(bif decide (0≤a1)&&decide (a1<(List.length J3.1.1:Int))then(let v54:=List.set J3.1.1 (Int.toNat a1) ((((List.getD J3.1.1 (Int.toNat a1) aA).1).1,((((((((((List.getD J3.1.1 (Int.toNat a1) aA).1).2).1).1).1).1,((((((List.getD J3.1.1 (Int.toNat a1) aA).1).2).1).1).1).2),(((((List.getD J3.1.1 (Int.toNat a1) aA).1).2).1).1).2),((((((((List.getD J3.1.1 (Int.toNat a1) aA).1).2).1).2).1).1,((((((List.getD J3.1.1 (Int.toNat a1) aA).1).2).1).2).1).2),(((((List.getD J3.1.1 (Int.toNat a1) aA).1).2).1).2).2)),(((List.getD J3.1.1 (Int.toNat a1) aA).1).2).2)),(true,((((Sr.1.1.1.1,Sr.1.1.1.2),Sr.1.1.2),((Sr.1.2.1.1,Sr.1.2.1.2),Sr.1.2.2)),a4)))
 some ((v54,(J3.1.2.1,v52)),((1:Int),(0:Int)),(0:Int),()))
 else none)
 else(bif decide (0≤a1)&&decide (a1<(List.length J3.1.1:Int))then(let v55:=List.set J3.1.1 (Int.toNat a1) ((true,((((Sr.1.1.1.1,Sr.1.1.1.2),Sr.1.1.2),((Sr.1.2.1.1,Sr.1.2.1.2),Sr.1.2.2)),a4)),(((List.getD J3.1.1 (Int.toNat a1) aA).2).1,((((((((((List.getD J3.1.1 (Int.toNat a1) aA).2).2).1).1).1).1,((((((List.getD J3.1.1 (Int.toNat a1) aA).2).2).1).1).1).2),(((((List.getD J3.1.1 (Int.toNat a1) aA).2).2).1).1).2),((((((((List.getD J3.1.1 (Int.toNat a1) aA).2).2).1).2).1).1,((((((List.getD J3.1.1 (Int.toNat a1) aA).2).2).1).2).1).2),(((((List.getD J3.1.1 (Int.toNat a1) aA).2).2).1).2).2)),(((List.getD J3.1.1 (Int.toNat a1) aA).2).2).2)))
 some ((v55,(J3.1.2.1,v52)),((1:Int),(0:Int)),(0:Int),()))
 else none))
 else none))
 else((dh.F ((a0.1,(a0.2.1,a0.2.2)),())).bind fun J4=>
 let v57:=([(a1,(a2,(a0.2.1,(v3,((((v4,v5),v6),((v7,v8),v9)),v10)))))]:List bZ)
 bif decide (List.length J4.1.2.2+List.length v57<925904528653)then(let v58:=List.append J4.1.2.2 v57
 (jT.F ((((a3.1.1.1,a3.1.1.2),a3.1.2),((a3.2.1.1,a3.2.1.2),a3.2.2)),())).bind fun y59=>
 bif a2 then(bif decide (0≤a1)&&decide (a1<(List.length J4.1.1:Int))then(let v60:=List.set J4.1.1 (Int.toNat a1) ((((List.getD J4.1.1 (Int.toNat a1) aA).1).1,((((((((((List.getD J4.1.1 (Int.toNat a1) aA).1).2).1).1).1).1,((((((List.getD J4.1.1 (Int.toNat a1) aA).1).2).1).1).1).2),(((((List.getD J4.1.1 (Int.toNat a1) aA).1).2).1).1).2),((((((((List.getD J4.1.1 (Int.toNat a1) aA).1).2).1).2).1).1,((((((List.getD J4.1.1 (Int.toNat a1) aA).1).2).1).2).1).2),(((((List.getD J4.1.1 (Int.toNat a1) aA).1).2).1).2).2)),(((List.getD J4.1.1 (Int.toNat a1) aA).1).2).2)),(true,((((y59.1.1.1.1,y59.1.1.1.2),y59.1.1.2),((y59.1.2.1.1,y59.1.2.1.2),y59.1.2.2)),a4)))
 some ((v60,(J4.1.2.1,v58)),((1:Int),(0:Int)),(0:Int),()))
 else none)
 else(bif decide (0≤a1)&&decide (a1<(List.length J4.1.1:Int))then(let v61:=List.set J4.1.1 (Int.toNat a1) ((true,((((y59.1.1.1.1,y59.1.1.1.2),y59.1.1.2),((y59.1.2.1.1,y59.1.2.1.2),y59.1.2.2)),a4)),(((List.getD J4.1.1 (Int.toNat a1) aA).2).1,((((((((((List.getD J4.1.1 (Int.toNat a1) aA).2).2).1).1).1).1,((((((List.getD J4.1.1 (Int.toNat a1) aA).2).2).1).1).1).2),(((((List.getD J4.1.1 (Int.toNat a1) aA).2).2).1).1).2),((((((((List.getD J4.1.1 (Int.toNat a1) aA).2).2).1).2).1).1,((((((List.getD J4.1.1 (Int.toNat a1) aA).2).2).1).2).1).2),(((((List.getD J4.1.1 (Int.toNat a1) aA).2).2).1).2).2)),(((List.getD J4.1.1 (Int.toNat a1) aA).2).2).2)))
 some ((v61,(J4.1.2.1,v58)),((1:Int),(0:Int)),(0:Int),()))
 else none))
 else none)))
 else(bif v11 then((iI.F (a2,(((a3.1.1.1,a3.1.1.2),a3.1.2),((a3.2.1.1,a3.2.1.2),a3.2.2)),(((v12,v13),v14),((v15,v16),v17)),())).bind fun y62=>
 bif y62.1 then(some ((a0.1,(a0.2.1,a0.2.2)),((2:Int),v18),(0:Int),()))
 else((dh.F ((a0.1,(a0.2.1,a0.2.2)),())).bind fun J5=>
 let v64:=([(a1,(a2,(a0.2.1,(v3,((((v4,v5),v6),((v7,v8),v9)),v10)))))]:List bZ)
 bif decide (List.length J5.1.2.2+List.length v64<925904528653)then(let v65:=List.append J5.1.2.2 v64
 (jT.F ((((a3.1.1.1,a3.1.1.2),a3.1.2),((a3.2.1.1,a3.2.1.2),a3.2.2)),())).bind fun y66=>
 bif a2 then(bif decide (0≤a1)&&decide (a1<(List.length J5.1.1:Int))then(let v67:=List.set J5.1.1 (Int.toNat a1) ((((List.getD J5.1.1 (Int.toNat a1) aA).1).1,((((((((((List.getD J5.1.1 (Int.toNat a1) aA).1).2).1).1).1).1,((((((List.getD J5.1.1 (Int.toNat a1) aA).1).2).1).1).1).2),(((((List.getD J5.1.1 (Int.toNat a1) aA).1).2).1).1).2),((((((((List.getD J5.1.1 (Int.toNat a1) aA).1).2).1).2).1).1,((((((List.getD J5.1.1 (Int.toNat a1) aA).1).2).1).2).1).2),(((((List.getD J5.1.1 (Int.toNat a1) aA).1).2).1).2).2)),(((List.getD J5.1.1 (Int.toNat a1) aA).1).2).2)),(true,((((y66.1.1.1.1,y66.1.1.1.2),y66.1.1.2),((y66.1.2.1.1,y66.1.2.1.2),y66.1.2.2)),a4)))
 some ((v67,(J5.1.2.1,v65)),((1:Int),(0:Int)),(0:Int),()))
 else none)
 else(bif decide (0≤a1)&&decide (a1<(List.length J5.1.1:Int))then(let v68:=List.set J5.1.1 (Int.toNat a1) ((true,((((y66.1.1.1.1,y66.1.1.1.2),y66.1.1.2),((y66.1.2.1.1,y66.1.2.1.2),y66.1.2.2)),a4)),(((List.getD J5.1.1 (Int.toNat a1) aA).2).1,((((((((((List.getD J5.1.1 (Int.toNat a1) aA).2).2).1).1).1).1,((((((List.getD J5.1.1 (Int.toNat a1) aA).2).2).1).1).1).2),(((((List.getD J5.1.1 (Int.toNat a1) aA).2).2).1).1).2),((((((((List.getD J5.1.1 (Int.toNat a1) aA).2).2).1).2).1).1,((((((List.getD J5.1.1 (Int.toNat a1) aA).2).2).1).2).1).2),(((((List.getD J5.1.1 (Int.toNat a1) aA).2).2).1).2).2)),(((List.getD J5.1.1 (Int.toNat a1) aA).2).2).2)))
 some ((v68,(J5.1.2.1,v65)),((1:Int),(0:Int)),(0:Int),()))
 else none))
 else none))
 else((dh.F ((a0.1,(a0.2.1,a0.2.2)),())).bind fun J6=>
 let v70:=([(a1,(a2,(a0.2.1,(v3,((((v4,v5),v6),((v7,v8),v9)),v10)))))]:List bZ)
 bif decide (List.length J6.1.2.2+List.length v70<925904528653)then(let v71:=List.append J6.1.2.2 v70
 (jT.F ((((a3.1.1.1,a3.1.1.2),a3.1.2),((a3.2.1.1,a3.2.1.2),a3.2.2)),())).bind fun y72=>
 bif a2 then(bif decide (0≤a1)&&decide (a1<(List.length J6.1.1:Int))then(let v73:=List.set J6.1.1 (Int.toNat a1) ((((List.getD J6.1.1 (Int.toNat a1) aA).1).1,((((((((((List.getD J6.1.1 (Int.toNat a1) aA).1).2).1).1).1).1,((((((List.getD J6.1.1 (Int.toNat a1) aA).1).2).1).1).1).2),(((((List.getD J6.1.1 (Int.toNat a1) aA).1).2).1).1).2),((((((((List.getD J6.1.1 (Int.toNat a1) aA).1).2).1).2).1).1,((((((List.getD J6.1.1 (Int.toNat a1) aA).1).2).1).2).1).2),(((((List.getD J6.1.1 (Int.toNat a1) aA).1).2).1).2).2)),(((List.getD J6.1.1 (Int.toNat a1) aA).1).2).2)),(true,((((y72.1.1.1.1,y72.1.1.1.2),y72.1.1.2),((y72.1.2.1.1,y72.1.2.1.2),y72.1.2.2)),a4)))
 some ((v73,(J6.1.2.1,v71)),((1:Int),(0:Int)),(0:Int),()))
 else none)
 else(bif decide (0≤a1)&&decide (a1<(List.length J6.1.1:Int))then(let v74:=List.set J6.1.1 (Int.toNat a1) ((true,((((y72.1.1.1.1,y72.1.1.1.2),y72.1.1.2),((y72.1.2.1.1,y72.1.2.1.2),y72.1.2.2)),a4)),(((List.getD J6.1.1 (Int.toNat a1) aA).2).1,((((((((((List.getD J6.1.1 (Int.toNat a1) aA).2).2).1).1).1).1,((((((List.getD J6.1.1 (Int.toNat a1) aA).2).2).1).1).1).2),(((((List.getD J6.1.1 (Int.toNat a1) aA).2).2).1).1).2),((((((((List.getD J6.1.1 (Int.toNat a1) aA).2).2).1).2).1).1,((((((List.getD J6.1.1 (Int.toNat a1) aA).2).2).1).2).1).2),(((((List.getD J6.1.1 (Int.toNat a1) aA).2).2).1).2).2)),(((List.getD J6.1.1 (Int.toNat a1) aA).2).2).2)))
 some ((v74,(J6.1.2.1,v71)),((1:Int),(0:Int)),(0:Int),()))
 else none))
 else none))))
 else none)
 else none)
theorem of (k:Nat)(a0:b_)(a1:Int)(a2:Bool)(a3:cu)(a4:Int){y:b_×NT×Int×Unit}(h:e a0 a1 a2 a3 a4=some y):F (a0,a1,a2,a3,a4,())=some y:=aV k (.trans (by kernel_rfl) h)
end mg
namespace kJ
def spec:jH:=⟨some ⟨81,0,Jr,0⟩,false,[],false,none,[],false,fun j=>match j with|_=>[],99⟩
def au:ak:=(ak.h_ 36 false dB.sig (ak.base aJ))
def sig:rP:=spec.sig au T Tryz.f30
def F (d:cO)(x:Unit):Option (Unit×(Unit)×cO):=yE spec au T Tryz.f30 d x
theorem ck:ah Tryz.prog au:=(ah.h_ dB.bU (ah.base aX))
theorem bU:Oz Tryz.prog aJ 30 sig:=Dq aH ck mix Tryz.func30 (by kernel_rfl)
def e (G:Gh)(d:cO):Option ((Unit×(Unit)×cO)×Nat×List Value):=
 (dB.F ((d.1.1,d.1.2),(d.2.1,d.2.2)) ()).bind fun y1=>
 bif y1.2.1.1 then(let v2:=IntKind.i64.wrap (y1.2.2.1.1+(1:Int))
 some (((),(),((v2,y1.2.2.1.2),(y1.2.2.2.1,y1.2.2.2.2))),G.b,[]))
 else(some (((),(),((y1.2.2.1.1,y1.2.2.1.2),(y1.2.2.2.1,y1.2.2.2.2))),G.b,[]))
theorem of (d:cO)(y:(Unit×(Unit)×cO))(h:∀G:Gh,∃k:Nat,e G d=some (y,(G.b,[]))):F d ()=some y:=nO (q:=spec) y fun G=>(h G).imp fun k hk=> .trans (by kernel_rfl) hk
end kJ
namespace zh
def spec:Spec:=⟨[(true,xP)],[(true,xP)],.own,fun j=>match j with|_=>[]⟩
def au:ak:=(ak.cons 60 dh.sig (ak.base aJ))
def sig:kH:=spec.sig au T Tryz.f31
def F (x:b_×Unit):Option (b_×Unit):=eF spec au T Tryz.f31 x
theorem ck:ah Tryz.prog au:=(ah.cons dh.bU (ah.base aX))
theorem bU:bW Tryz.prog aJ 31 sig:=fC aH ck mix Tryz.func31 (by kernel_rfl)
def e (a0:b_):Option (b_×Unit):=
 (dh.F ((a0.1,(a0.2.1,a0.2.2)),())).bind fun y1=>
 let v2:=IntKind.i64.wrap (y1.1.2.1+(1:Int))
 some ((y1.1.1,(v2,y1.1.2.2)),())
theorem of (k:Nat)(a0:b_){y:b_×Unit}(h:e a0=some y):F (a0,())=some y:=aV k (.trans (by kernel_rfl) h)
end zh
namespace gG
def spec:jH:=⟨some ⟨81,0,afS,2⟩,false,[(false,(.int .i64))],false,none,[(true,fU),(false,.bool)],false,fun j=>match j with|_=>[],99⟩
def au:ak:=(ak.base aJ)
def sig:rP:=spec.sig au T Tryz.f66
def F (d:Eb)(x:Int×Unit):Option (Unit×(bZ×Bool×Unit)×Eb):=yE spec au T Tryz.f66 d x
theorem ck:ah Tryz.prog au:=(ah.base aX)
theorem bU:Oz Tryz.prog aJ 66 sig:=Dq aH ck mix Tryz.func66 (by kernel_rfl)
def e (G:Gh)(d:Eb)(a0:Int):Option ((Unit×(bZ×Bool×Unit)×Eb)×Nat×List Value):=
 let v1:=(List.length d.2:Int)
 let v2:=IntKind.i64.wrap (v1-(1:Int))
 let v3:=decide (v2<(0:Int))
 bif v3 then(some (((),(dN,false,()),(d.1,d.2)),G.b,[G.v 0,G.v 1]))
 else(bif decide (0≤v2)&&decide (v2<(List.length d.2:Int))then(let v4:=(((List.getD d.2 (Int.toNat v2) dN).2).2).1
 let v5:=decide (v4≤a0)
 bif v5 then(some (((),(dN,false,()),(d.1,d.2)),G.b,[G.v 0,G.v 1]))
 else(bif decide (0≤v2)&&decide (v2<(List.length d.2:Int))then(let v6:=(List.getD d.2 (Int.toNat v2) dN).1
 let v7:=((List.getD d.2 (Int.toNat v2) dN).2).1
 let v8:=(((List.getD d.2 (Int.toNat v2) dN).2).2).1
 let v9:=((((List.getD d.2 (Int.toNat v2) dN).2).2).2).1
 let v10:=((((((((List.getD d.2 (Int.toNat v2) dN).2).2).2).2).1).1).1).1
 let v11:=((((((((List.getD d.2 (Int.toNat v2) dN).2).2).2).2).1).1).1).2
 let v12:=(((((((List.getD d.2 (Int.toNat v2) dN).2).2).2).2).1).1).2
 let v13:=((((((((List.getD d.2 (Int.toNat v2) dN).2).2).2).2).1).2).1).1
 let v14:=((((((((List.getD d.2 (Int.toNat v2) dN).2).2).2).2).1).2).1).2
 let v15:=(((((((List.getD d.2 (Int.toNat v2) dN).2).2).2).2).1).2).2
 let v16:=(((((List.getD d.2 (Int.toNat v2) dN).2).2).2).2).2
 bif decide (0≤v2)&&decide (v2≤(List.length d.2:Int))then(let v17:=List.take (Int.toNat v2) d.2
 some (((),((v6,(v7,(v8,(v9,((((v10,v11),v12),((v13,v14),v15)),v16))))),true,()),(d.1,v17)),G.b,[G.v 0,G.v 1]))
 else none)
 else none))
 else none)
theorem of (d:Eb)(a0:Int)(y:(Unit×(bZ×Bool×Unit)×Eb))(h:∀G:Gh,∃k:Nat,e G d a0=some (y,(G.b,[G.v 0,G.v 1]))):F d (a0,())=some y:=nO (q:=spec) y fun G=>(h G).imp fun k hk=> .trans (by kernel_rfl) hk
end gG
namespace dQ
def spec:jH:=⟨some ⟨81,0,Jr,0⟩,false,[(false,(.int .i64))],false,none,[(false,(.int .i64))],false,fun j=>match j with|6=>[(0,.kX 81 [.v true,.o 70 fU true,.v true,.o 68 fD true]),(1,.lf (.v true)),(5,.box 70 [.v true,.v true,.v true,.v true,.v true,.z 114 (.int .u32) true,.z 114 (.int .u32) true,.v true,.z 114 (.int .u32) true,.z 114 (.int .u32) true,.v true]),(6,.lf (.v true))]|_=>[],99⟩
def au:ak:=(ak.h_ 36 false dB.sig (ak.h_ 66 false gG.sig (ak.base aJ)))
def sig:rP:=spec.sig au T Tryz.f32
def F (d:cO)(x:Int×Unit):Option (Unit×(Int×Unit)×cO):=yE spec au T Tryz.f32 d x
theorem ck:ah Tryz.prog au:=(ah.h_ dB.bU (ah.h_ gG.bU (ah.base aX)))
theorem bU:Oz Tryz.prog aJ 32 sig:=Dq aH ck mix Tryz.func32 (by kernel_rfl)
def m6 (jg:Nat)(rX:Int)(yF:dA)(rE:Bool)(oZ:bC)(x1:Int)(rY:Int)(UF:Bool)(WZ:Int)(QK:Bool)(QL:Bool)(QM:aj)(QN:aj)(QO:Bool)(QS:aj)(QT:aj)(FY:Int)(x6:Bool):S:=⟨[(0,.kX 0 0 jg),(1,.one (.lf (.val true (.int .i64) x1))),(5,.box 1 0),(6,.one (.lf (.val true .bool x6)))],⟨[some ⟨70,fU,true,true,yF⟩,some ⟨68,fD,true,true,oZ⟩],[some ⟨81,[.val true (.int .i64) rX,.own 0,.val true .bool rE,.own 1]⟩,some ⟨70,[.val true (.int .i64) rY,.val true .bool UF,.val true (.int .i64) WZ,.val true .bool QK,.val true .bool QL,.val true dI QM,.val true dI QN,.val true .bool QO,.val true dI QS,.val true dI QT,.val true (.int .i64) FY]⟩]⟩⟩
def b6 (f6:Nat→Int→dA→Bool→bC→Int→Int→Bool→Int→Bool→Bool→aj→aj→Bool→aj→aj→Int→Bool→Option ((Unit×(Int×Unit)×cO)×Nat×List Value))(jg:Nat)(rX:Int)(yF:dA)(rE:Bool)(oZ:bC)(x1:Int)(rY:Int)(UF:Bool)(WZ:Int)(QK:Bool)(QL:Bool)(QM:aj)(QN:aj)(QO:Bool)(QS:aj)(QT:aj)(FY:Int)(x6:Bool):Option ((Unit×(Int×Unit)×cO)×Nat×List Value):=
 bif x6 then(bif UF then(bif decide (0≤rY)&&decide (rY<(List.length oZ:Int))then(let v1:=List.set oZ (Int.toNat rY) ((((List.getD oZ (Int.toNat rY) aA).1).1,((((((((((List.getD oZ (Int.toNat rY) aA).1).2).1).1).1).1,((((((List.getD oZ (Int.toNat rY) aA).1).2).1).1).1).2),(((((List.getD oZ (Int.toNat rY) aA).1).2).1).1).2),((((((((List.getD oZ (Int.toNat rY) aA).1).2).1).2).1).1,((((((List.getD oZ (Int.toNat rY) aA).1).2).1).2).1).2),(((((List.getD oZ (Int.toNat rY) aA).1).2).1).2).2)),(((List.getD oZ (Int.toNat rY) aA).1).2).2)),(QK,((((QL,QM),QN),((QO,QS),QT)),FY)))
 (gG.F (rX,yF) (x1,())).bind fun y2=>
 f6 jg y2.2.2.1 y2.2.2.2 rE v1 x1 y2.2.1.1.1 y2.2.1.1.2.1 y2.2.1.1.2.2.1 y2.2.1.1.2.2.2.1 y2.2.1.1.2.2.2.2.1.1.1.1 y2.2.1.1.2.2.2.2.1.1.1.2 y2.2.1.1.2.2.2.2.1.1.2 y2.2.1.1.2.2.2.2.1.2.1.1 y2.2.1.1.2.2.2.2.1.2.1.2 y2.2.1.1.2.2.2.2.1.2.2 y2.2.1.1.2.2.2.2.2 y2.2.1.2.1)
 else none)
 else(bif decide (0≤rY)&&decide (rY<(List.length oZ:Int))then(let v3:=List.set oZ (Int.toNat rY) ((QK,((((QL,QM),QN),((QO,QS),QT)),FY)),(((List.getD oZ (Int.toNat rY) aA).2).1,((((((((((List.getD oZ (Int.toNat rY) aA).2).2).1).1).1).1,((((((List.getD oZ (Int.toNat rY) aA).2).2).1).1).1).2),(((((List.getD oZ (Int.toNat rY) aA).2).2).1).1).2),((((((((List.getD oZ (Int.toNat rY) aA).2).2).1).2).1).1,((((((List.getD oZ (Int.toNat rY) aA).2).2).1).2).1).2),(((((List.getD oZ (Int.toNat rY) aA).2).2).1).2).2)),(((List.getD oZ (Int.toNat rY) aA).2).2).2)))
 (gG.F (rX,yF) (x1,())).bind fun y4=>
 f6 jg y4.2.2.1 y4.2.2.2 rE v3 x1 y4.2.1.1.1 y4.2.1.1.2.1 y4.2.1.1.2.2.1 y4.2.1.1.2.2.2.1 y4.2.1.1.2.2.2.2.1.1.1.1 y4.2.1.1.2.2.2.2.1.1.1.2 y4.2.1.1.2.2.2.2.1.1.2 y4.2.1.1.2.2.2.2.1.2.1.1 y4.2.1.1.2.2.2.2.1.2.1.2 y4.2.1.1.2.2.2.2.1.2.2 y4.2.1.1.2.2.2.2.2 y4.2.1.2.1)
 else none))
 else(some (((),((0:Int),()),((x1,yF),(rE,oZ))),jg,[]))
def e (f6:Nat→Int→dA→Bool→bC→Int→Int→Bool→Int→Bool→Bool→aj→aj→Bool→aj→aj→Int→Bool→Option ((Unit×(Int×Unit)×cO)×Nat×List Value))(G:Gh)(d:cO)(a0:Int):Option ((Unit×(Int×Unit)×cO)×Nat×List Value):=
 (dB.F ((d.1.1,d.1.2),(d.2.1,d.2.2)) ()).bind fun y1=>
 let v2:=not y1.2.1.1
 bif v2 then(some (((),((1:Int),()),((y1.2.2.1.1,y1.2.2.1.2),(y1.2.2.2.1,y1.2.2.2.2))),G.b,[]))
 else(let v3:=decide (a0<(0:Int))
 bif v3 then(some (((),((80:Int),()),((y1.2.2.1.1,y1.2.2.1.2),(y1.2.2.2.1,y1.2.2.2.2))),G.b,[]))
 else(let v4:=decide (a0>y1.2.2.1.1)
 bif v4 then(some (((),((80:Int),()),((y1.2.2.1.1,y1.2.2.1.2),(y1.2.2.2.1,y1.2.2.2.2))),G.b,[]))
 else((gG.F (y1.2.2.1.1,y1.2.2.1.2) (a0,())).bind fun y5=>
 f6 G.b y5.2.2.1 y5.2.2.2 y1.2.2.2.1 y1.2.2.2.2 a0 y5.2.1.1.1 y5.2.1.1.2.1 y5.2.1.1.2.2.1 y5.2.1.1.2.2.2.1 y5.2.1.1.2.2.2.2.1.1.1.1 y5.2.1.1.2.2.2.2.1.1.1.2 y5.2.1.1.2.2.2.2.1.1.2 y5.2.1.1.2.2.2.2.1.2.1.1 y5.2.1.1.2.2.2.2.1.2.1.2 y5.2.1.1.2.2.2.2.1.2.2 y5.2.1.1.2.2.2.2.2 y5.2.1.2.1)))
def L6 (k:Nat)(jg:Nat)(rX:Int)(yF:dA)(rE:Bool)(oZ:bC)(x1:Int)(rY:Int)(UF:Bool)(WZ:Int)(QK:Bool)(QL:Bool)(QM:aj)(QN:aj)(QO:Bool)(QS:aj)(QT:aj)(FY:Int)(x6:Bool):Option ((Unit×(Int×Unit)×cO)×Nat×List Value):=gB (spec.env au T Tryz.f32) (Func.lN Tryz.f32) k 6 (m6 jg rX yF rE oZ x1 rY UF WZ QK QL QM QN QO QS QT FY x6)
theorem mJ (k:Nat)(jg:Nat)(rX:Int)(yF:dA)(rE:Bool)(oZ:bC)(x1:Int)(rY:Int)(UF:Bool)(WZ:Int)(QK:Bool)(QL:Bool)(QM:aj)(QN:aj)(QO:Bool)(QS:aj)(QT:aj)(FY:Int)(x6:Bool):L6 (k+1) jg rX yF rE oZ x1 rY UF WZ QK QL QM QN QO QS QT FY x6=b6 (L6 k) jg rX yF rE oZ x1 rY UF WZ QK QL QM QN QO QS QT FY x6:=by kernel_rfl
theorem of (d:cO)(a0:Int)(y:(Unit×(Int×Unit)×cO))(h:∀G:Gh,∃k:Nat,e (L6 k) G d a0=some (y,(G.b,[]))):F d (a0,())=some y:=nO (q:=spec) y fun G=>(h G).imp fun k hk=> .trans (by kernel_rfl) hk
end dQ
namespace xu
def spec:jH:=⟨none,false,[(true,xP)],true,none,[(true,xP)],true,fun j=>match j with|_=>[],99⟩
def au:ak:=(ak.base aJ)
def sig:rP:=spec.sig au T Tryz.f67
def F (d:Unit)(x:b_×Unit):Option (Unit×(b_×Unit)×Unit):=yE spec au T Tryz.f67 d x
theorem ck:ah Tryz.prog au:=(ah.base aX)
theorem bU:Oz Tryz.prog aJ 67 sig:=Dq aH ck mix Tryz.func67 (by kernel_rfl)
def e (G:Gh)(d:Unit)(a0:b_):Option ((Unit×(b_×Unit)×Unit)×Nat×List Value):=
 let v1:=(List.length a0.2.2:Int)
 let v2:=IntKind.i64.wrap (v1-(1:Int))
 bif decide (0≤v2)&&decide (v2<(List.length a0.2.2:Int))then(let v3:=(List.getD a0.2.2 (Int.toNat v2) dN).1
 let v4:=((List.getD a0.2.2 (Int.toNat v2) dN).2).1
 let v5:=(((List.getD a0.2.2 (Int.toNat v2) dN).2).2).1
 let v6:=((((List.getD a0.2.2 (Int.toNat v2) dN).2).2).2).1
 let v7:=((((((((List.getD a0.2.2 (Int.toNat v2) dN).2).2).2).2).1).1).1).1
 let v8:=((((((((List.getD a0.2.2 (Int.toNat v2) dN).2).2).2).2).1).1).1).2
 let v9:=(((((((List.getD a0.2.2 (Int.toNat v2) dN).2).2).2).2).1).1).2
 let v10:=((((((((List.getD a0.2.2 (Int.toNat v2) dN).2).2).2).2).1).2).1).1
 let v11:=((((((((List.getD a0.2.2 (Int.toNat v2) dN).2).2).2).2).1).2).1).2
 let v12:=(((((((List.getD a0.2.2 (Int.toNat v2) dN).2).2).2).2).1).2).2
 let v13:=(((((List.getD a0.2.2 (Int.toNat v2) dN).2).2).2).2).2
 let v14:=(List.length a0.2.2:Int)
 let v15:=IntKind.i64.wrap (v14-(1:Int))
 bif decide (0≤v15)&&decide (v15≤(List.length a0.2.2:Int))then(let v16:=List.take (Int.toNat v15) a0.2.2
 bif v4 then(bif decide (0≤v3)&&decide (v3<(List.length a0.1:Int))then(let v17:=List.set a0.1 (Int.toNat v3) ((((List.getD a0.1 (Int.toNat v3) aA).1).1,((((((((((List.getD a0.1 (Int.toNat v3) aA).1).2).1).1).1).1,((((((List.getD a0.1 (Int.toNat v3) aA).1).2).1).1).1).2),(((((List.getD a0.1 (Int.toNat v3) aA).1).2).1).1).2),((((((((List.getD a0.1 (Int.toNat v3) aA).1).2).1).2).1).1,((((((List.getD a0.1 (Int.toNat v3) aA).1).2).1).2).1).2),(((((List.getD a0.1 (Int.toNat v3) aA).1).2).1).2).2)),(((List.getD a0.1 (Int.toNat v3) aA).1).2).2)),(v6,((((v7,v8),v9),((v10,v11),v12)),v13)))
 some (((),((v17,(a0.2.1,v16)),()),()),0,[]))
 else none)
 else(bif decide (0≤v3)&&decide (v3<(List.length a0.1:Int))then(let v18:=List.set a0.1 (Int.toNat v3) ((v6,((((v7,v8),v9),((v10,v11),v12)),v13)),(((List.getD a0.1 (Int.toNat v3) aA).2).1,((((((((((List.getD a0.1 (Int.toNat v3) aA).2).2).1).1).1).1,((((((List.getD a0.1 (Int.toNat v3) aA).2).2).1).1).1).2),(((((List.getD a0.1 (Int.toNat v3) aA).2).2).1).1).2),((((((((List.getD a0.1 (Int.toNat v3) aA).2).2).1).2).1).1,((((((List.getD a0.1 (Int.toNat v3) aA).2).2).1).2).1).2),(((((List.getD a0.1 (Int.toNat v3) aA).2).2).1).2).2)),(((List.getD a0.1 (Int.toNat v3) aA).2).2).2)))
 some (((),((v18,(a0.2.1,v16)),()),()),0,[]))
 else none))
 else none)
 else none
theorem of (d:Unit)(a0:b_)(y:(Unit×(b_×Unit)×Unit))(h:∀G:Gh,∃k:Nat,e G d a0=some (y,(0,[]))):F d (a0,())=some y:=nO (q:=spec) y fun G=>(h G).imp fun k hk=> .trans (by kernel_rfl) hk
end xu
namespace mZ
def spec:Spec:=⟨[(true,xP),(false,(.int .i64))],[(true,xP),(false,(.int .i64))],.shared,fun j=>match j with|4=>[(1,.lf (.v true)),(4,.box 32 [.v true,.v true,.v true]),(6,.box 32 [.o 68 fD true,.v true,.o 70 fU true])]|_=>[]⟩
def au:ak:=(ak.h_ 67 false xu.sig (ak.cons 60 dh.sig (ak.base aJ)))
def sig:kH:=spec.sig au T Tryz.f33
def F (x:b_×Int×Unit):Option (b_×Int×Unit):=eF spec au T Tryz.f33 x
theorem ck:ah Tryz.prog au:=(ah.h_ xu.bU (ah.cons dh.bU (ah.base aX)))
theorem bU:bW Tryz.prog aJ 33 sig:=fC aH ck mix Tryz.func33 (by kernel_rfl)
def m4 (x1:Int)(xQ:Int)(NU:bC)(UG:Int)(FZ:dA):S:=⟨[(1,.one (.lf (.val true (.int .i64) x1))),(4,.box 0 0),(6,.box 1 0)],⟨[some ⟨68,fD,true,true,NU⟩,some ⟨70,fU,true,true,FZ⟩],[some ⟨32,[.nil,.val true (.int .i64) xQ,.nil]⟩,some ⟨32,[.own 0,.val true (.int .i64) UG,.own 1]⟩]⟩⟩
def b4 (f4:Int→Int→bC→Int→dA→Option (b_×Int×Unit))(x1:Int)(xQ:Int)(NU:bC)(UG:Int)(FZ:dA):Option (b_×Int×Unit):=
 let v1:=(List.length FZ:Int)
 let v2:=decide (v1>(0:Int))
 bif v2 then(let v3:=(List.length FZ:Int)
 let v4:=IntKind.i64.wrap (v3-(1:Int))
 bif decide (0≤v4)&&decide (v4<(List.length FZ:Int))then(let v5:=(((List.getD FZ (Int.toNat v4) dN).2).2).1
 let v6:=decide (v5>x1)
 bif v6 then((xu.F () ((NU,(UG,FZ)),())).bind fun y7=>
 f4 x1 xQ y7.2.1.1.1 y7.2.1.1.2.1 y7.2.1.1.2.2)
 else(some ((NU,(x1,FZ)),(0:Int),())))
 else none)
 else(some ((NU,(x1,FZ)),(0:Int),()))
def e (f4:Int→Int→bC→Int→dA→Option (b_×Int×Unit))(a0:b_)(a1:Int):Option (b_×Int×Unit):=
 let v1:=decide (a1<(0:Int))
 bif v1 then(some ((a0.1,(a0.2.1,a0.2.2)),(80:Int),()))
 else(let v2:=decide (a1>a0.2.1)
 bif v2 then(some ((a0.1,(a0.2.1,a0.2.2)),(80:Int),()))
 else((dh.F ((a0.1,(a0.2.1,a0.2.2)),())).bind fun y3=>
 f4 a1 (0:Int) y3.1.1 y3.1.2.1 y3.1.2.2))
def L4 (k:Nat)(x1:Int)(xQ:Int)(NU:bC)(UG:Int)(FZ:dA):Option (b_×Int×Unit):=gB (spec.env au T Tryz.f33) (Func.lN Tryz.f33) k 4 (m4 x1 xQ NU UG FZ)
theorem iW (k:Nat)(x1:Int)(xQ:Int)(NU:bC)(UG:Int)(FZ:dA):L4 (k+1) x1 xQ NU UG FZ=b4 (L4 k) x1 xQ NU UG FZ:=by kernel_rfl
theorem of (k:Nat)(a0:b_)(a1:Int){y:b_×Int×Unit}(h:e (L4 k) a0 a1=some y):F (a0,a1,())=some y:=aV k (.trans (by kernel_rfl) h)
end mZ
namespace jC
def spec:jH:=⟨some ⟨81,0,Jr,0⟩,false,[],false,none,[(false,(.int .i64)),(false,(.int .i64))],false,fun j=>match j with|_=>[],99⟩
def au:ak:=(ak.h_ 36 false dB.sig (ak.base aJ))
def sig:rP:=spec.sig au T Tryz.f34
def F (d:cO)(x:Unit):Option (Unit×(Int×Int×Unit)×cO):=yE spec au T Tryz.f34 d x
theorem ck:ah Tryz.prog au:=(ah.h_ dB.bU (ah.base aX))
theorem bU:Oz Tryz.prog aJ 34 sig:=Dq aH ck mix Tryz.func34 (by kernel_rfl)
def e (G:Gh)(d:cO):Option ((Unit×(Int×Int×Unit)×cO)×Nat×List Value):=
 (dB.F ((d.1.1,d.1.2),(d.2.1,d.2.2)) ()).bind fun y1=>
 let v2:=not y1.2.1.1
 bif v2 then(some (((),((0:Int),(1:Int),()),((y1.2.2.1.1,y1.2.2.1.2),(y1.2.2.2.1,y1.2.2.2.2))),G.b,[]))
 else(let v3:=(List.length y1.2.2.2.2:Int)
 let v4:=(v3==(65536:Int))
 bif v4 then(some (((),((0:Int),(2:Int),()),((y1.2.2.1.1,y1.2.2.1.2),(y1.2.2.2.1,y1.2.2.2.2))),G.b,[]))
 else(let v5:=([aA]:List dJ)
 bif decide (List.length y1.2.2.2.2+List.length v5<549755813888)then(let v6:=List.append y1.2.2.2.2 v5
 let v7:=(List.length v6:Int)
 let v8:=IntKind.i64.wrap (v7-(1:Int))
 some (((),(v8,(0:Int),()),((y1.2.2.1.1,y1.2.2.1.2),(y1.2.2.2.1,v6))),G.b,[]))
 else none))
theorem of (d:cO)(y:(Unit×(Int×Int×Unit)×cO))(h:∀G:Gh,∃k:Nat,e G d=some (y,(G.b,[]))):F d ()=some y:=nO (q:=spec) y fun G=>(h G).imp fun k hk=> .trans (by kernel_rfl) hk
end jC
namespace xw
def spec:Spec:=⟨[(true,xP)],[(true,xP),(false,(.int .i64)),(false,(.int .i64))],.shared,fun j=>match j with|_=>[]⟩
def au:ak:=(ak.cons 60 dh.sig (ak.base aJ))
def sig:kH:=spec.sig au T Tryz.f35
def F (x:b_×Unit):Option (b_×Int×Int×Unit):=eF spec au T Tryz.f35 x
theorem ck:ah Tryz.prog au:=(ah.cons dh.bU (ah.base aX))
theorem bU:bW Tryz.prog aJ 35 sig:=fC aH ck mix Tryz.func35 (by kernel_rfl)
def e (a0:b_):Option (b_×Int×Int×Unit):=
 let v1:=(List.length a0.1:Int)
 let v2:=decide (v1≥(65536:Int))
 bif v2 then(some ((a0.1,(a0.2.1,a0.2.2)),(0:Int),(2:Int),()))
 else((dh.F ((a0.1,(a0.2.1,a0.2.2)),())).bind fun y3=>
 let v4:=([aA]:List dJ)
 bif decide (List.length y3.1.1+List.length v4<549755813888)then(let v5:=List.append y3.1.1 v4
 let v6:=(List.length a0.1:Int)
 some ((v5,(y3.1.2.1,y3.1.2.2)),v6,(0:Int),()))
 else none)
theorem of (k:Nat)(a0:b_){y:b_×Int×Int×Unit}(h:e a0=some y):F (a0,())=some y:=aV k (.trans (by kernel_rfl) h)
end xw
namespace BM
def spec:jH:=⟨some ⟨81,0,Jr,0⟩,false,[(true,xP),(true,zW)],false,none,[(true,xP),(false,.bool)],false,fun j=>match j with|_=>[],1⟩
def au:ak:=(ak.LP 83 2 (ak.h_ 27 false iE.sig (ak.h_ 28 false gW.sig (ak.h_ 30 false kJ.sig (ak.h_ 32 false dQ.sig (ak.h_ 34 false jC.sig (ak.cons 29 mg.sig (ak.cons 31 zh.sig (ak.cons 33 mZ.sig (ak.cons 35 xw.sig (ak.base aJ)))))))))))
def sig:rP:=spec.sig au T Tryz.f9
def F (d:cO)(x:b_×kQ×Unit):Option (Unit×(b_×Bool×Unit)×cO):=yE spec au T Tryz.f9 d x
theorem ck:ah Tryz.prog au:=(ah.LP ajr (ah.h_ iE.bU (ah.h_ gW.bU (ah.h_ kJ.bU (ah.h_ dQ.bU (ah.h_ jC.bU (ah.cons mg.bU (ah.cons zh.bU (ah.cons mZ.bU (ah.cons xw.bU (ah.base aX)))))))))))
theorem bU:Oz Tryz.prog aJ 9 sig:=Dq aH ck mix Tryz.func9 (by kernel_rfl)
def e (G:Gh)(d:cO)(a0:b_)(a1:kQ):Option ((Unit×(b_×Bool×Unit)×cO)×Nat×List Value):=
 let v1:=(a1.1==(0:Int))
 bif v1 then(let v2:=(a1.1==(0:Int))
 bif v2 then((iE.F ((d.1.1,d.1.2),(d.2.1,d.2.2)) (a1.2.1,(((a1.2.2.1.1.1.1,a1.2.2.1.1.1.2),a1.2.2.1.1.2),((a1.2.2.1.2.1.1,a1.2.2.1.2.1.2),a1.2.2.1.2.2)),a1.2.2.2.1,())).bind fun y3=>
 let v4:=(a1.1==(1:Int))
 (mg.F ((a0.1,(a0.2.1,a0.2.2)),a1.2.1,v4,(((a1.2.2.1.1.1.1,a1.2.2.1.1.1.2),a1.2.2.1.1.2),((a1.2.2.1.2.1.1,a1.2.2.1.2.1.2),a1.2.2.1.2.2)),a1.2.2.2.1,())).bind fun y5=>
 let v6:=VH y3.2.1.1.1 y5.2.1.1&&(VH y3.2.1.1.2 y5.2.1.2&&true)
 bif v6 then(let v7:=(y3.2.1.2.1==y5.2.2.1)
 some (((),((y5.1.1,(y5.1.2.1,y5.1.2.2)),v7,()),((y3.2.2.1.1,y3.2.2.1.2),(y3.2.2.2.1,y3.2.2.2.2))),G.b,[]))
 else(some (((),((y5.1.1,(y5.1.2.1,y5.1.2.2)),false,()),((y3.2.2.1.1,y3.2.2.1.2),(y3.2.2.2.1,y3.2.2.2.2))),G.b,[])))
 else((gW.F ((d.1.1,d.1.2),(d.2.1,d.2.2)) (a1.2.1,(((a1.2.2.1.1.1.1,a1.2.2.1.1.1.2),a1.2.2.1.1.2),((a1.2.2.1.2.1.1,a1.2.2.1.2.1.2),a1.2.2.1.2.2)),a1.2.2.2.1,())).bind fun y8=>
 let v9:=(a1.1==(1:Int))
 (mg.F ((a0.1,(a0.2.1,a0.2.2)),a1.2.1,v9,(((a1.2.2.1.1.1.1,a1.2.2.1.1.1.2),a1.2.2.1.1.2),((a1.2.2.1.2.1.1,a1.2.2.1.2.1.2),a1.2.2.1.2.2)),a1.2.2.2.1,())).bind fun H7=>
 let v11:=VH y8.2.1.1.1 H7.2.1.1&&(VH y8.2.1.1.2 H7.2.1.2&&true)
 bif v11 then(let v12:=(y8.2.1.2.1==H7.2.2.1)
 some (((),((H7.1.1,(H7.1.2.1,H7.1.2.2)),v12,()),((y8.2.2.1.1,y8.2.2.1.2),(y8.2.2.2.1,y8.2.2.2.2))),G.b,[]))
 else(some (((),((H7.1.1,(H7.1.2.1,H7.1.2.2)),false,()),((y8.2.2.1.1,y8.2.2.1.2),(y8.2.2.2.1,y8.2.2.2.2))),G.b,[]))))
 else(let v13:=(a1.1==(1:Int))
 bif v13 then(let v14:=(a1.1==(0:Int))
 bif v14 then((iE.F ((d.1.1,d.1.2),(d.2.1,d.2.2)) (a1.2.1,(((a1.2.2.1.1.1.1,a1.2.2.1.1.1.2),a1.2.2.1.1.2),((a1.2.2.1.2.1.1,a1.2.2.1.2.1.2),a1.2.2.1.2.2)),a1.2.2.2.1,())).bind fun O9=>
 let v16:=(a1.1==(1:Int))
 (mg.F ((a0.1,(a0.2.1,a0.2.2)),a1.2.1,v16,(((a1.2.2.1.1.1.1,a1.2.2.1.1.1.2),a1.2.2.1.1.2),((a1.2.2.1.2.1.1,a1.2.2.1.2.1.2),a1.2.2.1.2.2)),a1.2.2.2.1,())).bind fun Yd=>
 let v18:=VH O9.2.1.1.1 Yd.2.1.1&&(VH O9.2.1.1.2 Yd.2.1.2&&true)
 bif v18 then(let v19:=(O9.2.1.2.1==Yd.2.2.1)
 some (((),((Yd.1.1,(Yd.1.2.1,Yd.1.2.2)),v19,()),((O9.2.2.1.1,O9.2.2.1.2),(O9.2.2.2.1,O9.2.2.2.2))),G.b,[]))
 else(some (((),((Yd.1.1,(Yd.1.2.1,Yd.1.2.2)),false,()),((O9.2.2.1.1,O9.2.2.1.2),(O9.2.2.2.1,O9.2.2.2.2))),G.b,[])))
 else((gW.F ((d.1.1,d.1.2),(d.2.1,d.2.2)) (a1.2.1,(((a1.2.2.1.1.1.1,a1.2.2.1.1.1.2),a1.2.2.1.1.2),((a1.2.2.1.2.1.1,a1.2.2.1.2.1.2),a1.2.2.1.2.2)),a1.2.2.2.1,())).bind fun y20=>
 let v21:=(a1.1==(1:Int))
 (mg.F ((a0.1,(a0.2.1,a0.2.2)),a1.2.1,v21,(((a1.2.2.1.1.1.1,a1.2.2.1.1.1.2),a1.2.2.1.1.2),((a1.2.2.1.2.1.1,a1.2.2.1.2.1.2),a1.2.2.1.2.2)),a1.2.2.2.1,())).bind fun y22=>
 let v23:=VH y20.2.1.1.1 y22.2.1.1&&(VH y20.2.1.1.2 y22.2.1.2&&true)
 bif v23 then(let v24:=(y20.2.1.2.1==y22.2.2.1)
 some (((),((y22.1.1,(y22.1.2.1,y22.1.2.2)),v24,()),((y20.2.2.1.1,y20.2.2.1.2),(y20.2.2.2.1,y20.2.2.2.2))),G.b,[]))
 else(some (((),((y22.1.1,(y22.1.2.1,y22.1.2.2)),false,()),((y20.2.2.1.1,y20.2.2.1.2),(y20.2.2.2.1,y20.2.2.2.2))),G.b,[]))))
 else(let v25:=(a1.1==(2:Int))
 bif v25 then((kJ.F ((d.1.1,d.1.2),(d.2.1,d.2.2)) ()).bind fun y26=>
 (zh.F ((a0.1,(a0.2.1,a0.2.2)),())).bind fun y27=>
 some (((),((y27.1.1,(y27.1.2.1,y27.1.2.2)),true,()),((y26.2.2.1.1,y26.2.2.1.2),(y26.2.2.2.1,y26.2.2.2.2))),G.b,[]))
 else(let v28:=(a1.1==(3:Int))
 bif v28 then((dQ.F ((d.1.1,d.1.2),(d.2.1,d.2.2)) (a1.2.2.2.1,())).bind fun y29=>
 (mZ.F ((a0.1,(a0.2.1,a0.2.2)),a1.2.2.2.1,())).bind fun Vz=>
 let v31:=(y29.2.1.1==Vz.2.1)
 some (((),((Vz.1.1,(Vz.1.2.1,Vz.1.2.2)),v31,()),((y29.2.2.1.1,y29.2.2.1.2),(y29.2.2.2.1,y29.2.2.2.2))),G.b,[]))
 else(let v32:=(a1.1==(4:Int))
 bif v32 then((jC.F ((d.1.1,d.1.2),(d.2.1,d.2.2)) ()).bind fun JY=>
 (xw.F ((a0.1,(a0.2.1,a0.2.2)),())).bind fun y34=>
 let v35:=(JY.2.1.1==y34.2.1)
 bif v35 then(let v36:=(JY.2.1.2.1==y34.2.2.1)
 some (((),((y34.1.1,(y34.1.2.1,y34.1.2.2)),v36,()),((JY.2.2.1.1,JY.2.2.1.2),(JY.2.2.2.1,JY.2.2.2.2))),G.b,[]))
 else(some (((),((y34.1.1,(y34.1.2.1,y34.1.2.2)),false,()),((JY.2.2.1.1,JY.2.2.1.2),(JY.2.2.2.1,JY.2.2.2.2))),G.b,[])))
 else(some (((),((a0.1,(a0.2.1,a0.2.2)),true,()),((d.1.1,d.1.2),(d.2.1,d.2.2))),G.b,[]))))))
theorem of (d:cO)(a0:b_)(a1:kQ)(y:(Unit×(b_×Bool×Unit)×cO))(h:∀G:Gh,∃k:Nat,e G d a0 a1=some (y,(G.b,[]))):F d (a0,a1,())=some y:=nO (q:=spec) y fun G=>(h G).imp fun k hk=> .trans (by kernel_rfl) hk
end BM
namespace iP
def spec:Spec:=⟨[(false,dI),(false,dI)],[(false,.bool)],.own,fun j=>match j with|4=>[(0,.lf (.z 114 (.int .u32) false)),(1,.lf (.z 114 (.int .u32) false)),(5,.lf (.v true))]|_=>[]⟩
def au:ak:=(ak.base aJ)
def sig:kH:=spec.sig au T Tryz.f78
def F (x:aj×aj×Unit):Option (Bool×Unit):=eF spec au T Tryz.f78 x
theorem ck:ah Tryz.prog au:=(ah.base aX)
theorem bU:bW Tryz.prog aJ 78 sig:=fC aH ck mix Tryz.func78 (by kernel_rfl)
def m4 (x0:aj)(x1:aj)(x5:Int):S:=⟨[(0,.one (.lf (.val false dI x0))),(1,.one (.lf (.val false dI x1))),(5,.one (.lf (.val true (.int .i64) x5)))],⟨[],[]⟩⟩
def b4 (f4:aj→aj→Int→Option (Bool×Unit))(x0:aj)(x1:aj)(x5:Int):Option (Bool×Unit):=
 let v1:=(List.length x0:Int)
 let v2:=decide (x5<v1)
 bif v2 then(bif decide (0≤x5)&&decide (x5<(List.length x0:Int))then(let v3:=List.getD x0 (Int.toNat x5) (0:Int)
 bif decide (0≤x5)&&decide (x5<(List.length x1:Int))then(let v4:=List.getD x1 (Int.toNat x5) (0:Int)
 let v5:=(v3 != v4)
 bif v5 then(some (false,()))
 else(let v6:=IntKind.i64.wrap (x5+(1:Int))
 f4 x0 x1 v6))
 else none)
 else none)
 else(some (true,()))
def e (f4:aj→aj→Int→Option (Bool×Unit))(a0:aj)(a1:aj):Option (Bool×Unit):=
 let v1:=(List.length a0:Int)
 let v2:=(List.length a1:Int)
 let v3:=(v1 != v2)
 bif v3 then(some (false,()))
 else(f4 a0 a1 (0:Int))
def L4 (k:Nat)(x0:aj)(x1:aj)(x5:Int):Option (Bool×Unit):=gB (spec.env au T Tryz.f78) (Func.lN Tryz.f78) k 4 (m4 x0 x1 x5)
theorem iW (k:Nat)(x0:aj)(x1:aj)(x5:Int):L4 (k+1) x0 x1 x5=b4 (L4 k) x0 x1 x5:=by kernel_rfl
theorem of (k:Nat)(a0:aj)(a1:aj){y:Bool×Unit}(h:e (L4 k) a0 a1=some y):F (a0,a1,())=some y:=aV k (.trans (by kernel_rfl) h)
end iP
namespace uf
def spec:Spec:=⟨[(true,oD),(true,oD)],[(false,.bool)],.own,fun j=>match j with|_=>[]⟩
def au:ak:=(ak.cons 78 iP.sig (ak.base aJ))
def sig:kH:=spec.sig au T Tryz.f77
def F (x:dK×dK×Unit):Option (Bool×Unit):=eF spec au T Tryz.f77 x
theorem ck:ah Tryz.prog au:=(ah.cons iP.bU (ah.base aX))
theorem bU:bW Tryz.prog aJ 77 sig:=fC aH ck mix Tryz.func77 (by kernel_rfl)
def e (a0:dK)(a1:dK):Option (Bool×Unit):=
 let v1:=(a0.1==a1.1)
 bif v1 then((iP.F (a0.2,a1.2,())).bind fun y2=>
 some (y2.1,()))
 else(some (false,()))
theorem of (k:Nat)(a0:dK)(a1:dK){y:Bool×Unit}(h:e a0 a1=some y):F (a0,a1,())=some y:=aV k (.trans (by kernel_rfl) h)
end uf
namespace ug
def spec:Spec:=⟨[(true,pq),(true,pq)],[(false,.bool)],.own,fun j=>match j with|_=>[]⟩
def au:ak:=(ak.cons 77 uf.sig (ak.cons 78 iP.sig (ak.base aJ)))
def sig:kH:=spec.sig au T Tryz.f53
def F (x:fP×fP×Unit):Option (Bool×Unit):=eF spec au T Tryz.f53 x
theorem ck:ah Tryz.prog au:=(ah.cons uf.bU (ah.cons iP.bU (ah.base aX)))
theorem bU:bW Tryz.prog aJ 53 sig:=fC aH ck mix Tryz.func53 (by kernel_rfl)
def e (a0:fP)(a1:fP):Option (Bool×Unit):=
 (uf.F ((a0.1.1,a0.1.2),(a1.1.1,a1.1.2),())).bind fun y1=>
 bif y1.1 then((iP.F (a0.2,a1.2,())).bind fun y2=>
 some (y2.1,()))
 else(some (false,()))
theorem of (k:Nat)(a0:fP)(a1:fP){y:Bool×Unit}(h:e a0 a1=some y):F (a0,a1,())=some y:=aV k (.trans (by kernel_rfl) h)
end ug
namespace lF
def spec:Spec:=⟨[(true,nX),(true,nX)],[(false,.bool)],.own,fun j=>match j with|_=>[]⟩
def au:ak:=(ak.cons 53 ug.sig (ak.base aJ))
def sig:kH:=spec.sig au T Tryz.f18
def F (x:cu×cu×Unit):Option (Bool×Unit):=eF spec au T Tryz.f18 x
theorem ck:ah Tryz.prog au:=(ah.cons ug.bU (ah.base aX))
theorem bU:bW Tryz.prog aJ 18 sig:=fC aH ck mix Tryz.func18 (by kernel_rfl)
def e (a0:cu)(a1:cu):Option (Bool×Unit):=
 (ug.F (((a0.1.1.1,a0.1.1.2),a0.1.2),((a1.1.1.1,a1.1.1.2),a1.1.2),())).bind fun y1=>
 bif y1.1 then((ug.F (((a0.2.1.1,a0.2.1.2),a0.2.2),((a1.2.1.1,a1.2.1.2),a1.2.2),())).bind fun y2=>
 some (y2.1,()))
 else(some (false,()))
theorem of (k:Nat)(a0:cu)(a1:cu){y:Bool×Unit}(h:e a0 a1=some y):F (a0,a1,())=some y:=aV k (.trans (by kernel_rfl) h)
end lF
namespace kC
def spec:Spec:=⟨[(true,zV),(true,zV)],[(false,.bool)],.own,fun j=>match j with|_=>[]⟩
def au:ak:=(ak.cons 18 lF.sig (ak.base aJ))
def sig:kH:=spec.sig au T Tryz.f45
def F (x:jL×jL×Unit):Option (Bool×Unit):=eF spec au T Tryz.f45 x
theorem ck:ah Tryz.prog au:=(ah.cons lF.bU (ah.base aX))
theorem bU:bW Tryz.prog aJ 45 sig:=fC aH ck mix Tryz.func45 (by kernel_rfl)
def e (a0:jL)(a1:jL):Option (Bool×Unit):=
 let v1:=(a0.1==a1.1)
 bif v1 then(let v2:=(a0.2.2==a1.2.2)
 bif v2 then((lF.F ((((a0.2.1.1.1.1,a0.2.1.1.1.2),a0.2.1.1.2),((a0.2.1.2.1.1,a0.2.1.2.1.2),a0.2.1.2.2)),(((a1.2.1.1.1.1,a1.2.1.1.1.2),a1.2.1.1.2),((a1.2.1.2.1.1,a1.2.1.2.1.2),a1.2.1.2.2)),())).bind fun y3=>
 some (y3.1,()))
 else(some (false,())))
 else(some (false,()))
theorem of (k:Nat)(a0:jL)(a1:jL){y:Bool×Unit}(h:e a0 a1=some y):F (a0,a1,())=some y:=aV k (.trans (by kernel_rfl) h)
end kC
namespace qZ
def spec:Spec:=⟨[(true,fD),(true,fD)],[(false,.bool)],.own,fun j=>match j with|_=>[]⟩
def au:ak:=(ak.cons 45 kC.sig (ak.base aJ))
def sig:kH:=spec.sig au T Tryz.f38
def F (x:dJ×dJ×Unit):Option (Bool×Unit):=eF spec au T Tryz.f38 x
theorem ck:ah Tryz.prog au:=(ah.cons kC.bU (ah.base aX))
theorem bU:bW Tryz.prog aJ 38 sig:=fC aH ck mix Tryz.func38 (by kernel_rfl)
def e (a0:dJ)(a1:dJ):Option (Bool×Unit):=
 (kC.F ((a0.1.1,((((a0.1.2.1.1.1.1,a0.1.2.1.1.1.2),a0.1.2.1.1.2),((a0.1.2.1.2.1.1,a0.1.2.1.2.1.2),a0.1.2.1.2.2)),a0.1.2.2)),(a1.1.1,((((a1.1.2.1.1.1.1,a1.1.2.1.1.1.2),a1.1.2.1.1.2),((a1.1.2.1.2.1.1,a1.1.2.1.2.1.2),a1.1.2.1.2.2)),a1.1.2.2)),())).bind fun y1=>
 bif y1.1 then((kC.F ((a0.2.1,((((a0.2.2.1.1.1.1,a0.2.2.1.1.1.2),a0.2.2.1.1.2),((a0.2.2.1.2.1.1,a0.2.2.1.2.1.2),a0.2.2.1.2.2)),a0.2.2.2)),(a1.2.1,((((a1.2.2.1.1.1.1,a1.2.2.1.1.1.2),a1.2.2.1.1.2),((a1.2.2.1.2.1.1,a1.2.2.1.2.1.2),a1.2.2.1.2.2)),a1.2.2.2)),())).bind fun y2=>
 some (y2.1,()))
 else(some (false,()))
theorem of (k:Nat)(a0:dJ)(a1:dJ){y:Bool×Unit}(h:e a0 a1=some y):F (a0,a1,())=some y:=aV k (.trans (by kernel_rfl) h)
end qZ
namespace dF
def spec:Spec:=⟨[(true,xP),(true,xP)],[(false,.bool)],.own,fun j=>match j with|4=>[(2,.box 32 [.z 68 fD false,.v false,.z 70 fU false]),(3,.box 32 [.z 68 fD false,.v false,.z 70 fU false]),(5,.lf (.v true))]|10=>[(2,.box 32 [.z 68 fD false,.v false,.z 70 fU false]),(3,.box 32 [.z 68 fD false,.v false,.z 70 fU false]),(7,.lf (.v true))]|_=>[]⟩
def au:ak:=(ak.cons 38 qZ.sig (ak.cons 45 kC.sig (ak.base aJ)))
def sig:kH:=spec.sig au T Tryz.f13
def F (x:b_×b_×Unit):Option (Bool×Unit):=eF spec au T Tryz.f13 x
theorem ck:ah Tryz.prog au:=(ah.cons qZ.bU (ah.cons kC.bU (ah.base aX)))
theorem bU:bW Tryz.prog aJ 13 sig:=fC aH ck mix Tryz.func13 (by kernel_rfl)
def m4 (pJ:bC)(jU:Int)(qW:dA)(iq:bC)(jG:Int)(kE:dA)(x5:Int):S:=⟨[(2,.box 0 0),(3,.box 1 0),(5,.one (.lf (.val true (.int .i64) x5)))],⟨[],[some ⟨32,[.val false Ec pJ,.val false (.int .i64) jU,.val false FV qW]⟩,some ⟨32,[.val false Ec iq,.val false (.int .i64) jG,.val false FV kE]⟩]⟩⟩
def m10 (pJ:bC)(jU:Int)(qW:dA)(iq:bC)(jG:Int)(kE:dA)(x7:Int):S:=⟨[(2,.box 0 0),(3,.box 1 0),(7,.one (.lf (.val true (.int .i64) x7)))],⟨[],[some ⟨32,[.val false Ec pJ,.val false (.int .i64) jU,.val false FV qW]⟩,some ⟨32,[.val false Ec iq,.val false (.int .i64) jG,.val false FV kE]⟩]⟩⟩
def b4 (f4:bC→Int→dA→bC→Int→dA→Int→Option (Bool×Unit))(f10:bC→Int→dA→bC→Int→dA→Int→Option (Bool×Unit))(pJ:bC)(jU:Int)(qW:dA)(iq:bC)(jG:Int)(kE:dA)(x5:Int):Option (Bool×Unit):=
 let v1:=(List.length pJ:Int)
 let v2:=decide (x5<v1)
 bif v2 then(bif decide (0≤x5)&&decide (x5<(List.length pJ:Int))then(let v3:=((List.getD pJ (Int.toNat x5) aA).1).1
 let v4:=((((((List.getD pJ (Int.toNat x5) aA).1).2).1).1).1).1
 let v5:=((((((List.getD pJ (Int.toNat x5) aA).1).2).1).1).1).2
 let v6:=(((((List.getD pJ (Int.toNat x5) aA).1).2).1).1).2
 let v7:=((((((List.getD pJ (Int.toNat x5) aA).1).2).1).2).1).1
 let v8:=((((((List.getD pJ (Int.toNat x5) aA).1).2).1).2).1).2
 let v9:=(((((List.getD pJ (Int.toNat x5) aA).1).2).1).2).2
 let v10:=(((List.getD pJ (Int.toNat x5) aA).1).2).2
 let v11:=((List.getD pJ (Int.toNat x5) aA).2).1
 let v12:=((((((List.getD pJ (Int.toNat x5) aA).2).2).1).1).1).1
 let v13:=((((((List.getD pJ (Int.toNat x5) aA).2).2).1).1).1).2
 let v14:=(((((List.getD pJ (Int.toNat x5) aA).2).2).1).1).2
 let v15:=((((((List.getD pJ (Int.toNat x5) aA).2).2).1).2).1).1
 let v16:=((((((List.getD pJ (Int.toNat x5) aA).2).2).1).2).1).2
 let v17:=(((((List.getD pJ (Int.toNat x5) aA).2).2).1).2).2
 let v18:=(((List.getD pJ (Int.toNat x5) aA).2).2).2
 bif decide (0≤x5)&&decide (x5<(List.length iq:Int))then(let v19:=((List.getD iq (Int.toNat x5) aA).1).1
 let v20:=((((((List.getD iq (Int.toNat x5) aA).1).2).1).1).1).1
 let v21:=((((((List.getD iq (Int.toNat x5) aA).1).2).1).1).1).2
 let v22:=(((((List.getD iq (Int.toNat x5) aA).1).2).1).1).2
 let v23:=((((((List.getD iq (Int.toNat x5) aA).1).2).1).2).1).1
 let v24:=((((((List.getD iq (Int.toNat x5) aA).1).2).1).2).1).2
 let v25:=(((((List.getD iq (Int.toNat x5) aA).1).2).1).2).2
 let v26:=(((List.getD iq (Int.toNat x5) aA).1).2).2
 let v27:=((List.getD iq (Int.toNat x5) aA).2).1
 let v28:=((((((List.getD iq (Int.toNat x5) aA).2).2).1).1).1).1
 let v29:=((((((List.getD iq (Int.toNat x5) aA).2).2).1).1).1).2
 let v30:=(((((List.getD iq (Int.toNat x5) aA).2).2).1).1).2
 let v31:=((((((List.getD iq (Int.toNat x5) aA).2).2).1).2).1).1
 let v32:=((((((List.getD iq (Int.toNat x5) aA).2).2).1).2).1).2
 let v33:=(((((List.getD iq (Int.toNat x5) aA).2).2).1).2).2
 let v34:=(((List.getD iq (Int.toNat x5) aA).2).2).2
 (qZ.F (((v3,((((v4,v5),v6),((v7,v8),v9)),v10)),(v11,((((v12,v13),v14),((v15,v16),v17)),v18))),((v19,((((v20,v21),v22),((v23,v24),v25)),v26)),(v27,((((v28,v29),v30),((v31,v32),v33)),v34))),())).bind fun IW=>
 let v36:=not IW.1
 bif v36 then(some (false,()))
 else(let v37:=IntKind.i64.wrap (x5+(1:Int))
 f4 pJ jU qW iq jG kE v37))
 else none)
 else none)
 else(f10 pJ jU qW iq jG kE (0:Int))
def b10 (f4:bC→Int→dA→bC→Int→dA→Int→Option (Bool×Unit))(f10:bC→Int→dA→bC→Int→dA→Int→Option (Bool×Unit))(pJ:bC)(jU:Int)(qW:dA)(iq:bC)(jG:Int)(kE:dA)(x7:Int):Option (Bool×Unit):=
 let v1:=(List.length qW:Int)
 let v2:=decide (x7<v1)
 bif v2 then(bif decide (0≤x7)&&decide (x7<(List.length qW:Int))then(let v3:=(List.getD qW (Int.toNat x7) dN).1
 let v4:=((List.getD qW (Int.toNat x7) dN).2).1
 let v5:=(((List.getD qW (Int.toNat x7) dN).2).2).1
 let v6:=((((List.getD qW (Int.toNat x7) dN).2).2).2).1
 let v7:=((((((((List.getD qW (Int.toNat x7) dN).2).2).2).2).1).1).1).1
 let v8:=((((((((List.getD qW (Int.toNat x7) dN).2).2).2).2).1).1).1).2
 let v9:=(((((((List.getD qW (Int.toNat x7) dN).2).2).2).2).1).1).2
 let v10:=((((((((List.getD qW (Int.toNat x7) dN).2).2).2).2).1).2).1).1
 let v11:=((((((((List.getD qW (Int.toNat x7) dN).2).2).2).2).1).2).1).2
 let v12:=(((((((List.getD qW (Int.toNat x7) dN).2).2).2).2).1).2).2
 let v13:=(((((List.getD qW (Int.toNat x7) dN).2).2).2).2).2
 bif decide (0≤x7)&&decide (x7<(List.length kE:Int))then(let v14:=(List.getD kE (Int.toNat x7) dN).1
 let v15:=((List.getD kE (Int.toNat x7) dN).2).1
 let v16:=(((List.getD kE (Int.toNat x7) dN).2).2).1
 let v17:=((((List.getD kE (Int.toNat x7) dN).2).2).2).1
 let v18:=((((((((List.getD kE (Int.toNat x7) dN).2).2).2).2).1).1).1).1
 let v19:=((((((((List.getD kE (Int.toNat x7) dN).2).2).2).2).1).1).1).2
 let v20:=(((((((List.getD kE (Int.toNat x7) dN).2).2).2).2).1).1).2
 let v21:=((((((((List.getD kE (Int.toNat x7) dN).2).2).2).2).1).2).1).1
 let v22:=((((((((List.getD kE (Int.toNat x7) dN).2).2).2).2).1).2).1).2
 let v23:=(((((((List.getD kE (Int.toNat x7) dN).2).2).2).2).1).2).2
 let v24:=(((((List.getD kE (Int.toNat x7) dN).2).2).2).2).2
 let v25:=(v3 != v14)
 bif v25 then(some (false,()))
 else(let v26:=(!(v4==v15))
 bif v26 then(some (false,()))
 else(let v27:=(v5 != v16)
 bif v27 then(some (false,()))
 else((kC.F ((v6,((((v7,v8),v9),((v10,v11),v12)),v13)),(v17,((((v18,v19),v20),((v21,v22),v23)),v24)),())).bind fun y28=>
 let v29:=not y28.1
 bif v29 then(some (false,()))
 else(let v30:=IntKind.i64.wrap (x7+(1:Int))
 f10 pJ jU qW iq jG kE v30)))))
 else none)
 else none)
 else(some (true,()))
def e (f4:bC→Int→dA→bC→Int→dA→Int→Option (Bool×Unit))(f10:bC→Int→dA→bC→Int→dA→Int→Option (Bool×Unit))(a0:b_)(a1:b_):Option (Bool×Unit):=
 let v1:=(List.length a0.1:Int)
 let v2:=(List.length a1.1:Int)
 let v3:=(v1 != v2)
 bif v3 then(some (false,()))
 else(let v4:=(a0.2.1 != a1.2.1)
 bif v4 then(some (false,()))
 else(let v5:=(List.length a0.2.2:Int)
 let v6:=(List.length a1.2.2:Int)
 let v7:=(v5 != v6)
 bif v7 then(some (false,()))
 else(f4 a0.1 a0.2.1 a0.2.2 a1.1 a1.2.1 a1.2.2 (0:Int))))
def L4 (k:Nat)(pJ:bC)(jU:Int)(qW:dA)(iq:bC)(jG:Int)(kE:dA)(x5:Int):Option (Bool×Unit):=gB (spec.env au T Tryz.f13) (Func.lN Tryz.f13) k 4 (m4 pJ jU qW iq jG kE x5)
def FW (k:Nat)(pJ:bC)(jU:Int)(qW:dA)(iq:bC)(jG:Int)(kE:dA)(x7:Int):Option (Bool×Unit):=gB (spec.env au T Tryz.f13) (Func.lN Tryz.f13) k 10 (m10 pJ jU qW iq jG kE x7)
theorem iW (k:Nat)(pJ:bC)(jU:Int)(qW:dA)(iq:bC)(jG:Int)(kE:dA)(x5:Int):L4 (k+1) pJ jU qW iq jG kE x5=b4 (L4 k) (FW k) pJ jU qW iq jG kE x5:=by kernel_rfl
theorem rW (k:Nat)(pJ:bC)(jU:Int)(qW:dA)(iq:bC)(jG:Int)(kE:dA)(x7:Int):FW (k+1) pJ jU qW iq jG kE x7=b10 (L4 k) (FW k) pJ jU qW iq jG kE x7:=by kernel_rfl
theorem of (k:Nat)(a0:b_)(a1:b_){y:Bool×Unit}(h:e (L4 k) (FW k) a0 a1=some y):F (a0,a1,())=some y:=aV k (.trans (by kernel_rfl) h)
end dF
namespace gI
def spec:Spec:=⟨[(true,zV)],[(true,zV)],.own,fun j=>match j with|_=>[]⟩
def au:ak:=(ak.cons 62 iT.sig (ak.base aJ))
def sig:kH:=spec.sig au T Tryz.f72
def F (x:jL×Unit):Option (jL×Unit):=eF spec au T Tryz.f72 x
theorem ck:ah Tryz.prog au:=(ah.cons iT.bU (ah.base aX))
theorem bU:bW Tryz.prog aJ 72 sig:=fC aH ck mix Tryz.func72 (by kernel_rfl)
def e (a0:jL):Option (jL×Unit):=
 let v1:=not a0.1
 bif v1 then(some (HY,()))
 else((iT.F ((((a0.2.1.1.1.1,a0.2.1.1.1.2),a0.2.1.1.2),((a0.2.1.2.1.1,a0.2.1.2.1.2),a0.2.1.2.2)),())).bind fun y2=>
 some ((true,((((y2.1.1.1.1,y2.1.1.1.2),y2.1.1.2),((y2.1.2.1.1,y2.1.2.1.2),y2.1.2.2)),a0.2.2)),()))
theorem of (k:Nat)(a0:jL){y:jL×Unit}(h:e a0=some y):F (a0,())=some y:=aV k (.trans (by kernel_rfl) h)
end gI
namespace bg
def spec:Spec:=⟨[(true,fD)],[(true,fD)],.own,fun j=>match j with|_=>[]⟩
def au:ak:=(ak.cons 72 gI.sig (ak.base aJ))
def sig:kH:=spec.sig au T Tryz.f46
def F (x:dJ×Unit):Option (dJ×Unit):=eF spec au T Tryz.f46 x
theorem ck:ah Tryz.prog au:=(ah.cons gI.bU (ah.base aX))
theorem bU:bW Tryz.prog aJ 46 sig:=fC aH ck mix Tryz.func46 (by kernel_rfl)
def e (a0:dJ):Option (dJ×Unit):=
 (gI.F ((a0.1.1,((((a0.1.2.1.1.1.1,a0.1.2.1.1.1.2),a0.1.2.1.1.2),((a0.1.2.1.2.1.1,a0.1.2.1.2.1.2),a0.1.2.1.2.2)),a0.1.2.2)),())).bind fun y1=>
 (gI.F ((a0.2.1,((((a0.2.2.1.1.1.1,a0.2.2.1.1.1.2),a0.2.2.1.1.2),((a0.2.2.1.2.1.1,a0.2.2.1.2.1.2),a0.2.2.1.2.2)),a0.2.2.2)),())).bind fun y2=>
 some (((y1.1.1,((((y1.1.2.1.1.1.1,y1.1.2.1.1.1.2),y1.1.2.1.1.2),((y1.1.2.1.2.1.1,y1.1.2.1.2.1.2),y1.1.2.1.2.2)),y1.1.2.2)),(y2.1.1,((((y2.1.2.1.1.1.1,y2.1.2.1.1.1.2),y2.1.2.1.1.2),((y2.1.2.1.2.1.1,y2.1.2.1.2.1.2),y2.1.2.1.2.2)),y2.1.2.2))),())
theorem of (k:Nat)(a0:dJ){y:dJ×Unit}(h:e a0=some y):F (a0,())=some y:=aV k (.trans (by kernel_rfl) h)
end bg
namespace bD
def spec:Spec:=⟨[(true,fU)],[(true,fU)],.own,fun j=>match j with|_=>[]⟩
def au:ak:=(ak.cons 72 gI.sig (ak.base aJ))
def sig:kH:=spec.sig au T Tryz.f47
def F (x:bZ×Unit):Option (bZ×Unit):=eF spec au T Tryz.f47 x
theorem ck:ah Tryz.prog au:=(ah.cons gI.bU (ah.base aX))
theorem bU:bW Tryz.prog aJ 47 sig:=fC aH ck mix Tryz.func47 (by kernel_rfl)
def e (a0:bZ):Option (bZ×Unit):=
 (gI.F ((a0.2.2.2.1,((((a0.2.2.2.2.1.1.1.1,a0.2.2.2.2.1.1.1.2),a0.2.2.2.2.1.1.2),((a0.2.2.2.2.1.2.1.1,a0.2.2.2.2.1.2.1.2),a0.2.2.2.2.1.2.2)),a0.2.2.2.2.2)),())).bind fun y1=>
 some ((a0.1,(a0.2.1,(a0.2.2.1,(y1.1.1,((((y1.1.2.1.1.1.1,y1.1.2.1.1.1.2),y1.1.2.1.1.2),((y1.1.2.1.2.1.1,y1.1.2.1.2.1.2),y1.1.2.1.2.2)),y1.1.2.2))))),())
theorem of (k:Nat)(a0:bZ){y:bZ×Unit}(h:e a0=some y):F (a0,())=some y:=aV k (.trans (by kernel_rfl) h)
end bD
namespace aF
def spec:jH:=⟨some ⟨81,0,Jr,0⟩,false,[],false,none,[(true,xP)],false,fun j=>match j with|5=>[(0,.kX 81 [.v true,.o 70 fU true,.v true,.o 68 fD true]),(2,.box 32 [.v true,.v true,.v true]),(3,.box 32 [.o 68 fD true,.v true,.v true]),(21,.lf (.o 68 fD true)),(22,.lf (.v true)),(23,.lf (.v true))]|10=>[(0,.kX 81 [.v true,.o 70 fU true,.v true,.o 68 fD true]),(2,.box 32 [.v true,.v true,.v true]),(3,.box 32 [.o 68 fD true,.v true,.o 70 fU true]),(39,.lf (.o 70 fU true)),(40,.lf (.v true)),(41,.lf (.v true))]|_=>[],99⟩
def au:ak:=(ak.h_ 36 false dB.sig (ak.cons 46 bg.sig (ak.cons 47 bD.sig (ak.base aJ))))
def sig:rP:=spec.sig au T Tryz.f14
def F (d:cO)(x:Unit):Option (Unit×(b_×Unit)×cO):=yE spec au T Tryz.f14 d x
theorem ck:ah Tryz.prog au:=(ah.h_ dB.bU (ah.cons bg.bU (ah.cons bD.bU (ah.base aX))))
theorem bU:Oz Tryz.prog aJ 14 sig:=Dq aH ck mix Tryz.func14 (by kernel_rfl)
def m5 (jg:Nat)(rX:Int)(yF:dA)(rE:Bool)(jU:Int)(iq:bC)(jG:Int)(x21:bC)(sS:Int)(x23:Int):S:=⟨[(0,.kX 0 0 jg),(2,.box 1 0),(3,.box 2 0),(21,.one (.lf (.own 0))),(22,.one (.lf (.val true (.int .i64) sS))),(23,.one (.lf (.val true (.int .i64) x23)))],⟨[some ⟨68,fD,true,true,x21⟩,some ⟨70,fU,true,true,yF⟩,some ⟨68,fD,true,true,iq⟩],[some ⟨81,[.val true (.int .i64) rX,.own 1,.val true .bool rE,.own 0]⟩,some ⟨32,[.nil,.val true (.int .i64) jU,.nil]⟩,some ⟨32,[.own 2,.val true (.int .i64) jG,.nil]⟩]⟩⟩
def m10 (jg:Nat)(rX:Int)(rE:Bool)(oZ:bC)(jU:Int)(iq:bC)(jG:Int)(kE:dA)(x39:dA)(x40:Int)(x41:Int):S:=⟨[(0,.kX 0 0 jg),(2,.box 1 0),(3,.box 2 0),(39,.one (.lf (.own 0))),(40,.one (.lf (.val true (.int .i64) x40))),(41,.one (.lf (.val true (.int .i64) x41)))],⟨[some ⟨70,fU,true,true,x39⟩,some ⟨68,fD,true,true,oZ⟩,some ⟨68,fD,true,true,iq⟩,some ⟨70,fU,true,true,kE⟩],[some ⟨81,[.val true (.int .i64) rX,.own 0,.val true .bool rE,.own 1]⟩,some ⟨32,[.nil,.val true (.int .i64) jU,.nil]⟩,some ⟨32,[.own 2,.val true (.int .i64) jG,.own 3]⟩]⟩⟩
def b5 (f5:Nat→Int→dA→Bool→Int→bC→Int→bC→Int→Int→Option ((Unit×(b_×Unit)×cO)×Nat×List Value))(f10:Nat→Int→Bool→bC→Int→bC→Int→dA→dA→Int→Int→Option ((Unit×(b_×Unit)×cO)×Nat×List Value))(jg:Nat)(rX:Int)(yF:dA)(rE:Bool)(jU:Int)(iq:bC)(jG:Int)(x21:bC)(sS:Int)(x23:Int):Option ((Unit×(b_×Unit)×cO)×Nat×List Value):=
 let v1:=decide (x23<sS)
 bif v1 then(bif decide (0≤x23)&&decide (x23<(List.length x21:Int))then(let v2:=((List.getD x21 (Int.toNat x23) aA).1).1
 let v3:=((((((List.getD x21 (Int.toNat x23) aA).1).2).1).1).1).1
 let v4:=((((((List.getD x21 (Int.toNat x23) aA).1).2).1).1).1).2
 let v5:=(((((List.getD x21 (Int.toNat x23) aA).1).2).1).1).2
 let v6:=((((((List.getD x21 (Int.toNat x23) aA).1).2).1).2).1).1
 let v7:=((((((List.getD x21 (Int.toNat x23) aA).1).2).1).2).1).2
 let v8:=(((((List.getD x21 (Int.toNat x23) aA).1).2).1).2).2
 let v9:=(((List.getD x21 (Int.toNat x23) aA).1).2).2
 let v10:=((List.getD x21 (Int.toNat x23) aA).2).1
 let v11:=((((((List.getD x21 (Int.toNat x23) aA).2).2).1).1).1).1
 let v12:=((((((List.getD x21 (Int.toNat x23) aA).2).2).1).1).1).2
 let v13:=(((((List.getD x21 (Int.toNat x23) aA).2).2).1).1).2
 let v14:=((((((List.getD x21 (Int.toNat x23) aA).2).2).1).2).1).1
 let v15:=((((((List.getD x21 (Int.toNat x23) aA).2).2).1).2).1).2
 let v16:=(((((List.getD x21 (Int.toNat x23) aA).2).2).1).2).2
 let v17:=(((List.getD x21 (Int.toNat x23) aA).2).2).2
 (bg.F (((v2,((((v3,v4),v5),((v6,v7),v8)),v9)),(v10,((((v11,v12),v13),((v14,v15),v16)),v17))),())).bind fun O_=>
 let v19:=([((O_.1.1.1,((((O_.1.1.2.1.1.1.1,O_.1.1.2.1.1.1.2),O_.1.1.2.1.1.2),((O_.1.1.2.1.2.1.1,O_.1.1.2.1.2.1.2),O_.1.1.2.1.2.2)),O_.1.1.2.2)),(O_.1.2.1,((((O_.1.2.2.1.1.1.1,O_.1.2.2.1.1.1.2),O_.1.2.2.1.1.2),((O_.1.2.2.1.2.1.1,O_.1.2.2.1.2.1.2),O_.1.2.2.1.2.2)),O_.1.2.2.2)))]:List dJ)
 bif decide (List.length iq+List.length v19<549755813888)then(let v20:=List.append iq v19
 let v21:=IntKind.i64.wrap (x23+(1:Int))
 f5 jg rX yF rE jU v20 jG x21 sS v21)
 else none)
 else none)
 else(let v22:=(List.length yF:Int)
 f10 jg rX rE x21 jU iq jG afR yF v22 (0:Int))
def b10 (f5:Nat→Int→dA→Bool→Int→bC→Int→bC→Int→Int→Option ((Unit×(b_×Unit)×cO)×Nat×List Value))(f10:Nat→Int→Bool→bC→Int→bC→Int→dA→dA→Int→Int→Option ((Unit×(b_×Unit)×cO)×Nat×List Value))(jg:Nat)(rX:Int)(rE:Bool)(oZ:bC)(jU:Int)(iq:bC)(jG:Int)(kE:dA)(x39:dA)(x40:Int)(x41:Int):Option ((Unit×(b_×Unit)×cO)×Nat×List Value):=
 let v1:=decide (x41<x40)
 bif v1 then(bif decide (0≤x41)&&decide (x41<(List.length x39:Int))then(let v2:=(List.getD x39 (Int.toNat x41) dN).1
 let v3:=((List.getD x39 (Int.toNat x41) dN).2).1
 let v4:=(((List.getD x39 (Int.toNat x41) dN).2).2).1
 let v5:=((((List.getD x39 (Int.toNat x41) dN).2).2).2).1
 let v6:=((((((((List.getD x39 (Int.toNat x41) dN).2).2).2).2).1).1).1).1
 let v7:=((((((((List.getD x39 (Int.toNat x41) dN).2).2).2).2).1).1).1).2
 let v8:=(((((((List.getD x39 (Int.toNat x41) dN).2).2).2).2).1).1).2
 let v9:=((((((((List.getD x39 (Int.toNat x41) dN).2).2).2).2).1).2).1).1
 let v10:=((((((((List.getD x39 (Int.toNat x41) dN).2).2).2).2).1).2).1).2
 let v11:=(((((((List.getD x39 (Int.toNat x41) dN).2).2).2).2).1).2).2
 let v12:=(((((List.getD x39 (Int.toNat x41) dN).2).2).2).2).2
 (bD.F ((v2,(v3,(v4,(v5,((((v6,v7),v8),((v9,v10),v11)),v12))))),())).bind fun y13=>
 let v14:=([(y13.1.1,(y13.1.2.1,(y13.1.2.2.1,(y13.1.2.2.2.1,((((y13.1.2.2.2.2.1.1.1.1,y13.1.2.2.2.2.1.1.1.2),y13.1.2.2.2.2.1.1.2),((y13.1.2.2.2.2.1.2.1.1,y13.1.2.2.2.2.1.2.1.2),y13.1.2.2.2.2.1.2.2)),y13.1.2.2.2.2.2)))))]:List bZ)
 bif decide (List.length kE+List.length v14<925904528653)then(let v15:=List.append kE v14
 let v16:=IntKind.i64.wrap (x41+(1:Int))
 f10 jg rX rE oZ jU iq jG v15 x39 x40 v16)
 else none)
 else none)
 else(some (((),((iq,(jG,kE)),()),((rX,x39),(rE,oZ))),jg,[]))
def e (f5:Nat→Int→dA→Bool→Int→bC→Int→bC→Int→Int→Option ((Unit×(b_×Unit)×cO)×Nat×List Value))(f10:Nat→Int→Bool→bC→Int→bC→Int→dA→dA→Int→Int→Option ((Unit×(b_×Unit)×cO)×Nat×List Value))(G:Gh)(d:cO):Option ((Unit×(b_×Unit)×cO)×Nat×List Value):=
 (dB.F ((d.1.1,d.1.2),(d.2.1,d.2.2)) ()).bind fun y1=>
 let v2:=not y1.2.1.1
 bif v2 then(some (((),(afV,()),((y1.2.2.1.1,y1.2.2.1.2),(y1.2.2.2.1,y1.2.2.2.2))),G.b,[]))
 else(let v3:=(List.length y1.2.2.2.2:Int)
 f5 G.b y1.2.2.1.1 y1.2.2.1.2 y1.2.2.2.1 (0:Int) afT y1.2.2.1.1 y1.2.2.2.2 v3 (0:Int))
def L5 (k:Nat)(jg:Nat)(rX:Int)(yF:dA)(rE:Bool)(jU:Int)(iq:bC)(jG:Int)(x21:bC)(sS:Int)(x23:Int):Option ((Unit×(b_×Unit)×cO)×Nat×List Value):=gB (spec.env au T Tryz.f14) (Func.lN Tryz.f14) k 5 (m5 jg rX yF rE jU iq jG x21 sS x23)
def FW (k:Nat)(jg:Nat)(rX:Int)(rE:Bool)(oZ:bC)(jU:Int)(iq:bC)(jG:Int)(kE:dA)(x39:dA)(x40:Int)(x41:Int):Option ((Unit×(b_×Unit)×cO)×Nat×List Value):=gB (spec.env au T Tryz.f14) (Func.lN Tryz.f14) k 10 (m10 jg rX rE oZ jU iq jG kE x39 x40 x41)
theorem zY (k:Nat)(jg:Nat)(rX:Int)(yF:dA)(rE:Bool)(jU:Int)(iq:bC)(jG:Int)(x21:bC)(sS:Int)(x23:Int):L5 (k+1) jg rX yF rE jU iq jG x21 sS x23=b5 (L5 k) (FW k) jg rX yF rE jU iq jG x21 sS x23:=by kernel_rfl
theorem rW (k:Nat)(jg:Nat)(rX:Int)(rE:Bool)(oZ:bC)(jU:Int)(iq:bC)(jG:Int)(kE:dA)(x39:dA)(x40:Int)(x41:Int):FW (k+1) jg rX rE oZ jU iq jG kE x39 x40 x41=b10 (L5 k) (FW k) jg rX rE oZ jU iq jG kE x39 x40 x41:=by kernel_rfl
theorem of (d:cO)(y:(Unit×(b_×Unit)×cO))(h:∀G:Gh,∃k:Nat,e (L5 k) (FW k) G d=some (y,(G.b,[]))):F d ()=some y:=nO (q:=spec) y fun G=>(h G).imp fun k hk=> .trans (by kernel_rfl) hk
end aF
namespace gX
def spec:jH:=⟨some ⟨81,0,Jr,0⟩,false,[(false,(.int .i64))],false,none,[(true,fD),(false,(.int .i64))],true,fun j=>match j with|_=>[],99⟩
def au:ak:=(ak.h_ 55 false dR.sig (ak.cons 46 bg.sig (ak.base aJ)))
def sig:rP:=spec.sig au T Tryz.f22
def F (d:cO)(x:Int×Unit):Option (Unit×(dJ×Int×Unit)×cO):=yE spec au T Tryz.f22 d x
theorem ck:ah Tryz.prog au:=(ah.h_ dR.bU (ah.cons bg.bU (ah.base aX)))
theorem bU:Oz Tryz.prog aJ 22 sig:=Dq aH ck mix Tryz.func22 (by kernel_rfl)
def e (G:Gh)(d:cO)(a0:Int):Option ((Unit×(dJ×Int×Unit)×cO)×Nat×List Value):=
 (dR.F ((d.1.1,d.1.2),(d.2.1,d.2.2)) (a0,())).bind fun y1=>
 let v2:=(y1.2.1.1 != (0:Int))
 bif v2 then(some (((),(aA,y1.2.1.1,()),((y1.2.2.1.1,y1.2.2.1.2),(y1.2.2.2.1,y1.2.2.2.2))),G.b,[]))
 else(bif decide (0≤a0)&&decide (a0<(List.length y1.2.2.2.2:Int))then(let v3:=((List.getD y1.2.2.2.2 (Int.toNat a0) aA).1).1
 let v4:=((((((List.getD y1.2.2.2.2 (Int.toNat a0) aA).1).2).1).1).1).1
 let v5:=((((((List.getD y1.2.2.2.2 (Int.toNat a0) aA).1).2).1).1).1).2
 let v6:=(((((List.getD y1.2.2.2.2 (Int.toNat a0) aA).1).2).1).1).2
 let v7:=((((((List.getD y1.2.2.2.2 (Int.toNat a0) aA).1).2).1).2).1).1
 let v8:=((((((List.getD y1.2.2.2.2 (Int.toNat a0) aA).1).2).1).2).1).2
 let v9:=(((((List.getD y1.2.2.2.2 (Int.toNat a0) aA).1).2).1).2).2
 let v10:=(((List.getD y1.2.2.2.2 (Int.toNat a0) aA).1).2).2
 let v11:=((List.getD y1.2.2.2.2 (Int.toNat a0) aA).2).1
 let v12:=((((((List.getD y1.2.2.2.2 (Int.toNat a0) aA).2).2).1).1).1).1
 let v13:=((((((List.getD y1.2.2.2.2 (Int.toNat a0) aA).2).2).1).1).1).2
 let v14:=(((((List.getD y1.2.2.2.2 (Int.toNat a0) aA).2).2).1).1).2
 let v15:=((((((List.getD y1.2.2.2.2 (Int.toNat a0) aA).2).2).1).2).1).1
 let v16:=((((((List.getD y1.2.2.2.2 (Int.toNat a0) aA).2).2).1).2).1).2
 let v17:=(((((List.getD y1.2.2.2.2 (Int.toNat a0) aA).2).2).1).2).2
 let v18:=(((List.getD y1.2.2.2.2 (Int.toNat a0) aA).2).2).2
 (bg.F (((v3,((((v4,v5),v6),((v7,v8),v9)),v10)),(v11,((((v12,v13),v14),((v15,v16),v17)),v18))),())).bind fun Sv=>
 some (((),(((Sv.1.1.1,((((Sv.1.1.2.1.1.1.1,Sv.1.1.2.1.1.1.2),Sv.1.1.2.1.1.2),((Sv.1.1.2.1.2.1.1,Sv.1.1.2.1.2.1.2),Sv.1.1.2.1.2.2)),Sv.1.1.2.2)),(Sv.1.2.1,((((Sv.1.2.2.1.1.1.1,Sv.1.2.2.1.1.1.2),Sv.1.2.2.1.1.2),((Sv.1.2.2.1.2.1.1,Sv.1.2.2.1.2.1.2),Sv.1.2.2.1.2.2)),Sv.1.2.2.2))),(0:Int),()),((y1.2.2.1.1,y1.2.2.1.2),(y1.2.2.2.1,y1.2.2.2.2))),G.b,[]))
 else none)
theorem of (d:cO)(a0:Int)(y:(Unit×(dJ×Int×Unit)×cO))(h:∀G:Gh,∃k:Nat,e G d a0=some (y,(G.b,[]))):F d (a0,())=some y:=nO (q:=spec) y fun G=>(h G).imp fun k hk=> .trans (by kernel_rfl) hk
end gX
namespace lG
def spec:Spec:=⟨[(true,pq)],[(false,.bool)],.own,fun j=>match j with|_=>[]⟩
def au:ak:=(ak.base aJ)
def sig:kH:=spec.sig au T Tryz.f73
def F (x:fP×Unit):Option (Bool×Unit):=eF spec au T Tryz.f73 x
theorem ck:ah Tryz.prog au:=(ah.base aX)
theorem bU:bW Tryz.prog aJ 73 sig:=fC aH ck mix Tryz.func73 (by kernel_rfl)
def e (a0:fP):Option (Bool×Unit):=
 let v1:=not a0.1.1
 bif v1 then(let v2:=(List.length a0.1.2:Int)
 let v3:=(List.length a0.2:Int)
 let v4:=IntKind.i64.wrap (v2+v3)
 let v5:=(v4==(0:Int))
 some (v5,()))
 else(some (false,()))
theorem of (k:Nat)(a0:fP){y:Bool×Unit}(h:e a0=some y):F (a0,())=some y:=aV k (.trans (by kernel_rfl) h)
end lG
namespace lH
def spec:Spec:=⟨[(true,zV)],[(false,.bool)],.own,fun j=>match j with|_=>[]⟩
def au:ak:=(ak.cons 73 lG.sig (ak.base aJ))
def sig:kH:=spec.sig au T Tryz.f48
def F (x:jL×Unit):Option (Bool×Unit):=eF spec au T Tryz.f48 x
theorem ck:ah Tryz.prog au:=(ah.cons lG.bU (ah.base aX))
theorem bU:bW Tryz.prog aJ 48 sig:=fC aH ck mix Tryz.func48 (by kernel_rfl)
def e (a0:jL):Option (Bool×Unit):=
 bif a0.1 then(some (true,()))
 else(let v1:=(a0.2.2==(0:Int))
 bif v1 then((lG.F (((a0.2.1.1.1.1,a0.2.1.1.1.2),a0.2.1.1.2),())).bind fun y2=>
 bif y2.1 then((lG.F (((a0.2.1.2.1.1,a0.2.1.2.1.2),a0.2.1.2.2),())).bind fun y3=>
 some (y3.1,()))
 else(some (false,())))
 else(some (false,())))
theorem of (k:Nat)(a0:jL){y:Bool×Unit}(h:e a0=some y):F (a0,())=some y:=aV k (.trans (by kernel_rfl) h)
end lH
end
end Go.Fx.Tryz
