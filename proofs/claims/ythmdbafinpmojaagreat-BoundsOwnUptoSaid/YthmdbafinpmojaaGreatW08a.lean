import Derived.Test.YthmdbafinpmojaaGreatEvD
import Derived.Test.YthmdbafinpmojaaGreatProg
set_option linter.unusedVariables false
set_option linter.unusedSimpArgs false
namespace Go.Fx.Tryz
open Go Go.Proofs Go.Fx
set_option maxRecDepth 100000
def ti3:TI:=⟨.int .i64,(.int .i64),false,8⟩
def T3:dH:=dH.cons 3 ti3 dH.nil
theorem acj:aZ Tryz.prog T3:=mW (by kernel_rfl) aZ.nil
def ti4:TI:=⟨.bool,.bool,false,1⟩
def T4:dH:=dH.cons 4 ti4 T3
theorem acn:aZ Tryz.prog T4:=mW (by kernel_rfl) acj
def ahT:TI:=⟨.int .u32,(.int .u32),false,4⟩
def ama:dH:=dH.cons 114 ahT T4
theorem ajf:aZ Tryz.prog ama:=mW (by kernel_rfl) acn
def ajg:TI:=⟨.sl 114,(.sl 114 (.int .u32)),false,24⟩
def T38:dH:=dH.cons 38 ajg ama
theorem aco:aZ Tryz.prog T38:=mW (by kernel_rfl) ajf
def ajh:TI:=⟨.struct [(0,4),(1,38)],(.prod .bool (.sl 114 (.int .u32))),true,32⟩
def T40:dH:=dH.cons 40 ajh T38
theorem acp:aZ Tryz.prog T40:=mW (by kernel_rfl) aco
def aji:TI:=⟨.struct [(0,40),(2,38)],(.prod (.prod .bool (.sl 114 (.int .u32))) (.sl 114 (.int .u32))),true,56⟩
def T42:dH:=dH.cons 42 aji T40
theorem acr:aZ Tryz.prog T42:=mW (by kernel_rfl) acp
def ajj:TI:=⟨.struct [(0,42),(3,42)],(.prod (.prod (.prod .bool (.sl 114 (.int .u32))) (.sl 114 (.int .u32))) (.prod (.prod .bool (.sl 114 (.int .u32))) (.sl 114 (.int .u32)))),true,112⟩
def T44:dH:=dH.cons 44 ajj T42
theorem acs:aZ Tryz.prog T44:=mW (by kernel_rfl) acr
def ajk:TI:=⟨.struct [(0,4),(1,44),(7,3)],(.prod .bool (.prod (.prod (.prod (.prod .bool (.sl 114 (.int .u32))) (.sl 114 (.int .u32))) (.prod (.prod .bool (.sl 114 (.int .u32))) (.sl 114 (.int .u32)))) (.int .i64))),true,128⟩
def T66:dH:=dH.cons 66 ajk T44
theorem acu:aZ Tryz.prog T66:=mW (by kernel_rfl) acs
def acv:TI:=⟨.struct [(0,3),(1,4),(2,3),(3,66)],(.prod (.int .i64) (.prod .bool (.prod (.int .i64) (.prod .bool (.prod (.prod (.prod (.prod .bool (.sl 114 (.int .u32))) (.sl 114 (.int .u32))) (.prod (.prod .bool (.sl 114 (.int .u32))) (.sl 114 (.int .u32)))) (.int .i64)))))),true,152⟩
def T70:dH:=dH.cons 70 acv T66
theorem acw:aZ Tryz.prog T70:=mW (by kernel_rfl) acu
def ZV:TI:=⟨.sl 70,(.sl 70 (.prod (.int .i64) (.prod .bool (.prod (.int .i64) (.prod .bool (.prod (.prod (.prod (.prod .bool (.sl 114 (.int .u32))) (.sl 114 (.int .u32))) (.prod (.prod .bool (.sl 114 (.int .u32))) (.sl 114 (.int .u32)))) (.int .i64))))))),false,24⟩
def T30:dH:=dH.cons 30 ZV T70
theorem Ux:aZ Tryz.prog T30:=mW (by kernel_rfl) acw
def aqV:TI:=⟨.struct [(0,3),(1,30)],(.prod (.int .i64) (.sl 70 (.prod (.int .i64) (.prod .bool (.prod (.int .i64) (.prod .bool (.prod (.prod (.prod (.prod .bool (.sl 114 (.int .u32))) (.sl 114 (.int .u32))) (.prod (.prod .bool (.sl 114 (.int .u32))) (.sl 114 (.int .u32)))) (.int .i64)))))))),true,32⟩
def T79:dH:=dH.cons 79 aqV T30
theorem amh:aZ Tryz.prog T79:=mW (by kernel_rfl) Ux
def afQ:TI:=⟨.struct [(0,66),(8,66)],(.prod (.prod .bool (.prod (.prod (.prod (.prod .bool (.sl 114 (.int .u32))) (.sl 114 (.int .u32))) (.prod (.prod .bool (.sl 114 (.int .u32))) (.sl 114 (.int .u32)))) (.int .i64))) (.prod .bool (.prod (.prod (.prod (.prod .bool (.sl 114 (.int .u32))) (.sl 114 (.int .u32))) (.prod (.prod .bool (.sl 114 (.int .u32))) (.sl 114 (.int .u32)))) (.int .i64)))),true,256⟩
def T68:dH:=dH.cons 68 afQ T79
theorem acy:aZ Tryz.prog T68:=mW (by kernel_rfl) amh
def ZW:TI:=⟨.sl 68,(.sl 68 (.prod (.prod .bool (.prod (.prod (.prod (.prod .bool (.sl 114 (.int .u32))) (.sl 114 (.int .u32))) (.prod (.prod .bool (.sl 114 (.int .u32))) (.sl 114 (.int .u32)))) (.int .i64))) (.prod .bool (.prod (.prod (.prod (.prod .bool (.sl 114 (.int .u32))) (.sl 114 (.int .u32))) (.prod (.prod .bool (.sl 114 (.int .u32))) (.sl 114 (.int .u32)))) (.int .i64))))),false,24⟩
def T29:dH:=dH.cons 29 ZW T68
theorem Uy:aZ Tryz.prog T29:=mW (by kernel_rfl) acy
def aqW:TI:=⟨.struct [(0,79),(2,4),(3,29)],(.prod (.prod (.int .i64) (.sl 70 (.prod (.int .i64) (.prod .bool (.prod (.int .i64) (.prod .bool (.prod (.prod (.prod (.prod .bool (.sl 114 (.int .u32))) (.sl 114 (.int .u32))) (.prod (.prod .bool (.sl 114 (.int .u32))) (.sl 114 (.int .u32)))) (.int .i64)))))))) (.prod .bool (.sl 68 (.prod (.prod .bool (.prod (.prod (.prod (.prod .bool (.sl 114 (.int .u32))) (.sl 114 (.int .u32))) (.prod (.prod .bool (.sl 114 (.int .u32))) (.sl 114 (.int .u32)))) (.int .i64))) (.prod .bool (.prod (.prod (.prod (.prod .bool (.sl 114 (.int .u32))) (.sl 114 (.int .u32))) (.prod (.prod .bool (.sl 114 (.int .u32))) (.sl 114 (.int .u32)))) (.int .i64))))))),true,64⟩
def T81:dH:=dH.cons 81 aqW T29
theorem amj:aZ Tryz.prog T81:=mW (by kernel_rfl) Uy
def ajl:TI:=⟨.int .i64,(.int .i64),false,8⟩
def T26:dH:=dH.cons 26 ajl T81
theorem acz:aZ Tryz.prog T26:=mW (by kernel_rfl) amj
def ZX:TI:=⟨.struct [(0,29),(1,3),(2,30)],(.prod (.sl 68 (.prod (.prod .bool (.prod (.prod (.prod (.prod .bool (.sl 114 (.int .u32))) (.sl 114 (.int .u32))) (.prod (.prod .bool (.sl 114 (.int .u32))) (.sl 114 (.int .u32)))) (.int .i64))) (.prod .bool (.prod (.prod (.prod (.prod .bool (.sl 114 (.int .u32))) (.sl 114 (.int .u32))) (.prod (.prod .bool (.sl 114 (.int .u32))) (.sl 114 (.int .u32)))) (.int .i64))))) (.prod (.int .i64) (.sl 70 (.prod (.int .i64) (.prod .bool (.prod (.int .i64) (.prod .bool (.prod (.prod (.prod (.prod .bool (.sl 114 (.int .u32))) (.sl 114 (.int .u32))) (.prod (.prod .bool (.sl 114 (.int .u32))) (.sl 114 (.int .u32)))) (.int .i64))))))))),true,56⟩
def T32:dH:=dH.cons 32 ZX T26
theorem Uz:aZ Tryz.prog T32:=mW (by kernel_rfl) acz
def ti5:TI:=⟨.int .u8,(.int .u8),false,1⟩
def T5:dH:=dH.cons 5 ti5 T32
theorem aqX:aZ Tryz.prog T5:=mW (by kernel_rfl) Uz
def ti9:TI:=⟨.str,.str,false,16⟩
def T9:dH:=dH.cons 9 ti9 T5
theorem aqY:aZ Tryz.prog T9:=mW (by kernel_rfl) aqX
def aml:TI:=⟨.int .u64,(.int .u64),false,8⟩
def amm:dH:=dH.cons 141 aml T9
theorem ajm:aZ Tryz.prog amm:=mW (by kernel_rfl) aqY
def amn:TI:=⟨.sl 3,(.sl 3 (.int .i64)),false,24⟩
def amo:dH:=dH.cons 167 amn amm
theorem ajn:aZ Tryz.prog amo:=mW (by kernel_rfl) ajm
def aqZ:TI:=⟨.ptr,.Ce 0,false,8⟩
def T25:dH:=dH.cons 25 aqZ amo
theorem amq:aZ Tryz.prog T25:=mW (by kernel_rfl) ajn
def aq0:TI:=⟨.struct [(0,3),(1,3)],(.prod (.int .i64) (.int .i64)),true,16⟩
def T83:dH:=dH.cons 83 aq0 T25
theorem amr:aZ Tryz.prog T83:=mW (by kernel_rfl) amq
def ams:TI:=⟨.int .u64,(.int .u64),false,8⟩
def amu:dH:=dH.cons 154 ams T83
theorem ajo:aZ Tryz.prog amu:=mW (by kernel_rfl) amr
def aq1:TI:=⟨.sl 44,(.sl 44 (.prod (.prod (.prod .bool (.sl 114 (.int .u32))) (.sl 114 (.int .u32))) (.prod (.prod .bool (.sl 114 (.int .u32))) (.sl 114 (.int .u32))))),false,24⟩
def T45:dH:=dH.cons 45 aq1 amu
theorem amv:aZ Tryz.prog T45:=mW (by kernel_rfl) ajo
def aq2:TI:=⟨.struct [(0,3),(1,3),(2,44),(8,3),(9,45)],(.prod (.int .i64) (.prod (.int .i64) (.prod (.prod (.prod (.prod .bool (.sl 114 (.int .u32))) (.sl 114 (.int .u32))) (.prod (.prod .bool (.sl 114 (.int .u32))) (.sl 114 (.int .u32)))) (.prod (.int .i64) (.sl 44 (.prod (.prod (.prod .bool (.sl 114 (.int .u32))) (.sl 114 (.int .u32))) (.prod (.prod .bool (.sl 114 (.int .u32))) (.sl 114 (.int .u32))))))))),true,160⟩
def T47:dH:=dH.cons 47 aq2 T45
theorem amw:aZ Tryz.prog T47:=mW (by kernel_rfl) amv
def aq3:TI:=⟨.sl 47,(.sl 47 (.prod (.int .i64) (.prod (.int .i64) (.prod (.prod (.prod (.prod .bool (.sl 114 (.int .u32))) (.sl 114 (.int .u32))) (.prod (.prod .bool (.sl 114 (.int .u32))) (.sl 114 (.int .u32)))) (.prod (.int .i64) (.sl 44 (.prod (.prod (.prod .bool (.sl 114 (.int .u32))) (.sl 114 (.int .u32))) (.prod (.prod .bool (.sl 114 (.int .u32))) (.sl 114 (.int .u32)))))))))),false,24⟩
def T22:dH:=dH.cons 22 aq3 T47
theorem amx:aZ Tryz.prog T22:=mW (by kernel_rfl) amw
def aq4:TI:=⟨.struct [(0,3),(1,22)],(.prod (.int .i64) (.sl 47 (.prod (.int .i64) (.prod (.int .i64) (.prod (.prod (.prod (.prod .bool (.sl 114 (.int .u32))) (.sl 114 (.int .u32))) (.prod (.prod .bool (.sl 114 (.int .u32))) (.sl 114 (.int .u32)))) (.prod (.int .i64) (.sl 44 (.prod (.prod (.prod .bool (.sl 114 (.int .u32))) (.sl 114 (.int .u32))) (.prod (.prod .bool (.sl 114 (.int .u32))) (.sl 114 (.int .u32))))))))))),true,32⟩
def T24:dH:=dH.cons 24 aq4 T22
theorem amy:aZ Tryz.prog T24:=mW (by kernel_rfl) amx
def ajp:TI:=⟨.sl 114,(.sl 114 (.int .u32)),false,24⟩
def T37:dH:=dH.cons 37 ajp T24
theorem acA:aZ Tryz.prog T37:=mW (by kernel_rfl) amy
def ajq:TI:=⟨.sl 37,(.sl 37 (.sl 114 (.int .u32))),false,24⟩
def T61:dH:=dH.cons 61 ajq T37
theorem acB:aZ Tryz.prog T61:=mW (by kernel_rfl) acA
def ti2:TI:=⟨.int .i64,(.int .i64),false,8⟩
def T2:dH:=dH.cons 2 ti2 T61
theorem aq5:aZ Tryz.prog T2:=mW (by kernel_rfl) acB
def T:dH:=T2
theorem aH:aZ Tryz.prog T:=aq5
theorem ajr:Zj Tryz.prog 83 2:=Zj.of2 Tryz.underlying83 (by kernel_rfl) (by kernel_rfl) Tryz.underlying3 Tryz.underlying3 (by kernel_rfl) (by kernel_rfl) rfl rfl (fun w=>(aH 3 ti3 (by kernel_rfl)).size) (fun w=>(aH 3 ti3 (by kernel_rfl)).size) (fun w=>(aH 3 ti3 (by kernel_rfl)).isAgg) (fun w=>(aH 3 ti3 (by kernel_rfl)).isAgg)
theorem mix:Tryz.prog.follows .mixedOrders=true:=by kernel_rfl
def aJ:Nat→Option PW:=Hy
theorem aX:∀g tb,aJ g=some tb→Tv Tryz.prog tb:=OX
abbrev tb8:ByteArray:=⟨#[0,1,2,2,3,3,3,3,4,4,4,4,4,4,4,4,5,5,5,5,5,5,5,5,5,5,5,5,5,5,5,5,6,6,6,6,6,6,6,6,6,6,6,6,6,6,6,6,6,6,6,6,6,6,6,6,6,6,6,6,6,6,6,6,7,7,7,7,7,7,7,7,7,7,7,7,7,7,7,7,7,7,7,7,7,7,7,7,7,7,7,7,7,7,7,7,7,7,7,7,7,7,7,7,7,7,7,7,7,7,7,7,7,7,7,7,7,7,7,7,7,7,7,7,7,7,7,7,8,8,8,8,8,8,8,8,8,8,8,8,8,8,8,8,8,8,8,8,8,8,8,8,8,8,8,8,8,8,8,8,8,8,8,8,8,8,8,8,8,8,8,8,8,8,8,8,8,8,8,8,8,8,8,8,8,8,8,8,8,8,8,8,8,8,8,8,8,8,8,8,8,8,8,8,8,8,8,8,8,8,8,8,8,8,8,8,8,8,8,8,8,8,8,8,8,8,8,8,8,8,8,8,8,8,8,8,8,8,8,8,8,8,8,8,8,8,8,8,8,8,8,8,8,8,8,8]⟩
noncomputable section
abbrev ahY:K:=(.sl 3 (.int .i64))
abbrev ahZ:Type:=(List Int)
abbrev amC:ahZ:=([]:List Int)
abbrev dI:K:=(.sl 114 (.int .u32))
abbrev aj:Type:=ahZ
abbrev FU:aj:=amC
abbrev ajs:K:=(.prod (.int .i64) (.int .i64))
abbrev NT:Type:=(Int×Int)
abbrev WV:NT:=((0:Int),(0:Int))
abbrev oD:K:=(.prod .bool dI)
abbrev dK:Type:=(Bool×aj)
abbrev ZY:dK:=(false,FU)
abbrev pq:K:=(.prod oD dI)
abbrev fP:Type:=(dK×aj)
abbrev WW:fP:=(ZY,FU)
abbrev nX:K:=(.prod pq pq)
abbrev cu:Type:=(fP×fP)
abbrev QI:cu:=(WW,WW)
abbrev ajt:K:=(.sl 44 nX)
abbrev amD:Type:=(List cu)
abbrev aq6:amD:=([]:List (((Bool×(List Int))×(List Int))×((Bool×(List Int))×(List Int))))
abbrev zV:K:=(.prod .bool (.prod nX (.int .i64)))
abbrev jL:Type:=(Bool×(cu×Int))
abbrev HY:jL:=(false,(QI,(0:Int)))
abbrev fU:K:=(.prod (.int .i64) (.prod .bool (.prod (.int .i64) zV)))
abbrev bZ:Type:=(Int×(Bool×(Int×jL)))
abbrev dN:bZ:=((0:Int),(false,((0:Int),HY)))
abbrev FV:K:=(.sl 70 fU)
abbrev dA:Type:=(List bZ)
abbrev afR:dA:=([]:List (Int×(Bool×(Int×(Bool×((((Bool×(List Int))×(List Int))×((Bool×(List Int))×(List Int)))×Int))))))
abbrev afS:K:=(.prod (.int .i64) FV)
abbrev Eb:Type:=(Int×dA)
abbrev acC:Eb:=((0:Int),afR)
abbrev fD:K:=(.prod zV zV)
abbrev dJ:Type:=(jL×jL)
abbrev aA:dJ:=(HY,HY)
abbrev zW:K:=(.prod (.int .i64) (.prod (.int .i64) (.prod nX (.prod (.int .i64) ajt))))
abbrev kQ:Type:=(Int×(Int×(cu×(Int×amD))))
abbrev WX:kQ:=((0:Int),((0:Int),(QI,((0:Int),aq6))))
abbrev Ec:K:=(.sl 68 fD)
abbrev bC:Type:=(List dJ)
abbrev afT:bC:=([]:List ((Bool×((((Bool×(List Int))×(List Int))×((Bool×(List Int))×(List Int)))×Int))×(Bool×((((Bool×(List Int))×(List Int))×((Bool×(List Int))×(List Int)))×Int))))
abbrev Z4:K:=(.sl 47 zW)
abbrev zX:Type:=(List kQ)
abbrev afU:K:=(.prod (.int .i64) Z4)
abbrev aq7:Type:=(Int×zX)
abbrev xP:K:=(.prod Ec afS)
abbrev b_:Type:=(bC×Eb)
abbrev afV:b_:=(afT,acC)
abbrev Jr:K:=(.prod afS (.prod .bool Ec))
abbrev cO:Type:=(Eb×(Bool×bC))
namespace pU
def spec:jH:=⟨none,false,[(false,(.int .i64))],false,some ⟨81,Jr⟩,[(false,(.int .i64))],false,fun j=>match j with|_=>[],99⟩
def au:ak:=(ak.base aJ)
def sig:rP:=spec.sig au T Tryz.f7
def F (d:Unit)(x:Int×Unit):Option ((Option cO)×(Int×Unit)×Unit):=yE spec au T Tryz.f7 d x
theorem ck:ah Tryz.prog au:=(ah.base aX)
theorem bU:Oz Tryz.prog aJ 7 sig:=Dq aH ck mix Tryz.func7 (by kernel_rfl)
def e (G:Gh)(d:Unit)(a0:Int):Option (((Option cO)×(Int×Unit)×Unit)×Nat×List Value):=
 let v1:=decide (a0<(0:Int))
 bif v1 then(some ((none,((1:Int),()),()),0,[]))
 else(let v2:=decide (a0>(65536:Int))
 bif v2 then(some ((none,((1:Int),()),()),0,[]))
 else(bif decide (0≤a0)&&(decide (a0≤a0)&&(decide (Int.toNat a0*256≤281474976710656)&&Nat.blt 0 256))then(let v3:=List.replicate (Int.toNat a0) aA
 some ((some (acC,(true,v3)),((0:Int),()),()),0,[]))
 else none))
theorem of (d:Unit)(a0:Int)(y:((Option cO)×(Int×Unit)×Unit))(h:∀G:Gh,∃k:Nat,e G d a0=some (y,(0,[]))):F d (a0,())=some y:=nO (q:=spec) y fun G=>(h G).imp fun k hk=> .trans (by kernel_rfl) hk
end pU
namespace yc
def spec:Spec:=⟨[(false,(.int .i64))],[(true,xP),(false,(.int .i64))],.own,fun j=>match j with|_=>[]⟩
def au:ak:=(ak.base aJ)
def sig:kH:=spec.sig au T Tryz.f8
def F (x:Int×Unit):Option (b_×Int×Unit):=eF spec au T Tryz.f8 x
theorem ck:ah Tryz.prog au:=(ah.base aX)
theorem bU:bW Tryz.prog aJ 8 sig:=fC aH ck mix Tryz.func8 (by kernel_rfl)
def e (a0:Int):Option (b_×Int×Unit):=
 let v1:=decide (a0<(0:Int))
 bif v1 then(some (afV,(1:Int),()))
 else(let v2:=decide (a0>(65536:Int))
 bif v2 then(some (afV,(1:Int),()))
 else(bif decide (0≤a0)&&(decide (a0≤a0)&&(decide (Int.toNat a0*256≤281474976710656)&&Nat.blt 0 256))then(let v3:=List.replicate (Int.toNat a0) aA
 some ((v3,acC),(0:Int),()))
 else none))
theorem of (k:Nat)(a0:Int){y:b_×Int×Unit}(h:e a0=some y):F (a0,())=some y:=aV k (.trans (by kernel_rfl) h)
end yc
namespace dY
def spec:Spec:=⟨[(false,dI)],[(false,dI)],.shared,fun j=>match j with|2=>[(0,.lf (.z 114 (.int .u32) true)),(3,.lf (.v true))]|_=>[]⟩
def au:ak:=(ak.base aJ)
def sig:kH:=spec.sig au T Tryz.f104
def F (x:aj×Unit):Option (aj×Unit):=eF spec au T Tryz.f104 x
theorem ck:ah Tryz.prog au:=(ah.base aX)
theorem bU:bW Tryz.prog aJ 104 sig:=fC aH ck mix Tryz.func104 (by kernel_rfl)
def m2 (x0:aj)(x3:Int):S:=⟨[(0,.one (.lf (.val true dI x0))),(3,.one (.lf (.val true (.int .i64) x3)))],⟨[],[]⟩⟩
def b2 (f2:aj→Int→Option (aj×Unit))(x0:aj)(x3:Int):Option (aj×Unit):=
 let v1:=decide (x3>(0:Int))
 bif v1 then(let v2:=IntKind.i64.wrap (x3-(1:Int))
 bif decide (0≤v2)&&decide (v2<(List.length x0:Int))then(let v3:=List.getD x0 (Int.toNat v2) (0:Int)
 let v4:=(v3==(0:Int))
 bif v4 then(let v5:=IntKind.i64.wrap (x3-(1:Int))
 f2 x0 v5)
 else(bif decide (0≤x3)&&decide (x3≤(List.length x0:Int))then(let v6:=List.take (Int.toNat x3) x0
 some (v6,()))
 else none))
 else none)
 else(bif decide (0≤x3)&&decide (x3≤(List.length x0:Int))then(let v7:=List.take (Int.toNat x3) x0
 some (v7,()))
 else none)
def e (f2:aj→Int→Option (aj×Unit))(a0:aj):Option (aj×Unit):=
 let v1:=(List.length a0:Int)
 f2 a0 v1
def L2 (k:Nat)(x0:aj)(x3:Int):Option (aj×Unit):=gB (spec.env au T Tryz.f104) (Func.lN Tryz.f104) k 2 (m2 x0 x3)
theorem mX (k:Nat)(x0:aj)(x3:Int):L2 (k+1) x0 x3=b2 (L2 k) x0 x3:=by kernel_rfl
theorem of (k:Nat)(a0:aj){y:aj×Unit}(h:e (L2 k) a0=some y):F (a0,())=some y:=aV k (.trans (by kernel_rfl) h)
end dY
namespace nD
def spec:Spec:=⟨[(false,(.int .u32))],[(false,(.int .i64))],.own,fun j=>match j with|_=>[]⟩
def au:ak:=(ak.base aJ)
def sig:kH:=spec.sig au T Tryz.f105
def F (x:Int×Unit):Option (Int×Unit):=eF spec au T Tryz.f105 x
theorem ck:ah Tryz.prog au:=(ah.base aX)
theorem bU:bW Tryz.prog aJ 105 sig:=fC aH ck mix Tryz.func105 (by kernel_rfl)
def e (a0:Int):Option (Int×Unit):=
 let v1:=decide (a0≥(65536:Int))
 bif v1 then(bif decide ((16:Int)<0)then none
 else(let v2:=oV .u32 a0 (16:Int)
 let v3:=decide (v2≥(256:Int))
 bif v3 then(bif decide ((8:Int)<0)then none
 else(let v4:=oV .u32 v2 (8:Int)
 let v5:=IntKind.i64.wrap ((16:Int)+(8:Int))
 let v6:=IntKind.u8.wrap v4
 bif decide (0≤v6)&&decide (v6<(ByteArray.size tb8:Int))then(let v7:=VF tb8 v6
 let v8:=IntKind.i64.wrap v7
 let v9:=IntKind.i64.wrap (v5+v8)
 some (v9,()))
 else none))
 else(let v10:=IntKind.u8.wrap v2
 bif decide (0≤v10)&&decide (v10<(ByteArray.size tb8:Int))then(let v11:=VF tb8 v10
 let v12:=IntKind.i64.wrap v11
 let v13:=IntKind.i64.wrap ((16:Int)+v12)
 some (v13,()))
 else none)))
 else(let v14:=decide (a0≥(256:Int))
 bif v14 then(bif decide ((8:Int)<0)then none
 else(let v15:=oV .u32 a0 (8:Int)
 let v16:=IntKind.i64.wrap ((0:Int)+(8:Int))
 let v17:=IntKind.u8.wrap v15
 bif decide (0≤v17)&&decide (v17<(ByteArray.size tb8:Int))then(let v18:=VF tb8 v17
 let v19:=IntKind.i64.wrap v18
 let v20:=IntKind.i64.wrap (v16+v19)
 some (v20,()))
 else none))
 else(let v21:=IntKind.u8.wrap a0
 bif decide (0≤v21)&&decide (v21<(ByteArray.size tb8:Int))then(let v22:=VF tb8 v21
 let v23:=IntKind.i64.wrap v22
 let v24:=IntKind.i64.wrap ((0:Int)+v23)
 some (v24,()))
 else none))
theorem of (k:Nat)(a0:Int){y:Int×Unit}(h:e a0=some y):F (a0,())=some y:=aV k (.trans (by kernel_rfl) h)
end nD
namespace w_
def spec:Spec:=⟨[(false,dI)],[(false,(.int .i64))],.own,fun j=>match j with|_=>[]⟩
def au:ak:=(ak.cons 104 dY.sig (ak.cons 105 nD.sig (ak.base aJ)))
def sig:kH:=spec.sig au T Tryz.f98
def F (x:aj×Unit):Option (Int×Unit):=eF spec au T Tryz.f98 x
theorem ck:ah Tryz.prog au:=(ah.cons dY.bU (ah.cons nD.bU (ah.base aX)))
theorem bU:bW Tryz.prog aJ 98 sig:=fC aH ck mix Tryz.func98 (by kernel_rfl)
def e (a0:aj):Option (Int×Unit):=
 (dY.F (a0,())).bind fun y1=>
 let v2:=(List.length y1.1:Int)
 let v3:=(v2==(0:Int))
 bif v3 then(some ((0:Int),()))
 else(let v4:=(List.length y1.1:Int)
 let v5:=IntKind.i64.wrap (v4-(1:Int))
 let v6:=IntKind.i64.wrap ((32:Int)*v5)
 let v7:=(List.length y1.1:Int)
 let v8:=IntKind.i64.wrap (v7-(1:Int))
 bif decide (0≤v8)&&decide (v8<(List.length y1.1:Int))then(let v9:=List.getD y1.1 (Int.toNat v8) (0:Int)
 (nD.F (v9,())).bind fun H7=>
 let v11:=IntKind.i64.wrap (v6+H7.1)
 some (v11,()))
 else none)
theorem of (k:Nat)(a0:aj){y:Int×Unit}(h:e a0=some y):F (a0,())=some y:=aV k (.trans (by kernel_rfl) h)
end w_
namespace iD
def spec:Spec:=⟨[(false,dI)],[(false,dI)],.own,fun j=>match j with|_=>[]⟩
def au:ak:=(ak.cons 104 dY.sig (ak.base aJ))
def sig:kH:=spec.sig au T Tryz.f115
def F (x:aj×Unit):Option (aj×Unit):=eF spec au T Tryz.f115 x
theorem ck:ah Tryz.prog au:=(ah.cons dY.bU (ah.base aX))
theorem bU:bW Tryz.prog aJ 115 sig:=fC aH ck mix Tryz.func115 (by kernel_rfl)
def e (a0:aj):Option (aj×Unit):=
 (dY.F (a0,())).bind fun y1=>
 let v2:=(List.length y1.1:Int)
 let v3:=(v2==(0:Int))
 bif v3 then(some (FU,()))
 else(let v4:=(List.length y1.1:Int)
 bif decide (0≤v4)&&(decide (v4≤v4)&&(decide (Int.toNat v4*4≤281474976710656)&&Nat.blt 0 4))then(let v5:=List.replicate (Int.toNat v4) (0:Int)
 let v6:=List.take (List.length v5) y1.1++List.drop (List.length y1.1) v5
 let v7:=((Nat.min (List.length y1.1) (List.length v5):Nat):Int)
 some (v6,()))
 else none)
theorem of (k:Nat)(a0:aj){y:aj×Unit}(h:e a0=some y):F (a0,())=some y:=aV k (.trans (by kernel_rfl) h)
end iD
namespace iM
def spec:Spec:=⟨[(false,dI),(false,dI)],[(false,(.int .i64))],.own,fun j=>match j with|7=>[(0,.lf (.z 114 (.int .u32) false)),(1,.lf (.z 114 (.int .u32) false)),(5,.lf (.v true))]|_=>[]⟩
def au:ak:=(ak.cons 104 dY.sig (ak.base aJ))
def sig:kH:=spec.sig au T Tryz.f116
def F (x:aj×aj×Unit):Option (Int×Unit):=eF spec au T Tryz.f116 x
theorem ck:ah Tryz.prog au:=(ah.cons dY.bU (ah.base aX))
theorem bU:bW Tryz.prog aJ 116 sig:=fC aH ck mix Tryz.func116 (by kernel_rfl)
def m7 (x0:aj)(x1:aj)(x5:Int):S:=⟨[(0,.one (.lf (.val false dI x0))),(1,.one (.lf (.val false dI x1))),(5,.one (.lf (.val true (.int .i64) x5)))],⟨[],[]⟩⟩
def b7 (f7:aj→aj→Int→Option (Int×Unit))(x0:aj)(x1:aj)(x5:Int):Option (Int×Unit):=
 let v1:=decide (x5≥(0:Int))
 bif v1 then(bif decide (0≤x5)&&decide (x5<(List.length x0:Int))then(let v2:=List.getD x0 (Int.toNat x5) (0:Int)
 bif decide (0≤x5)&&decide (x5<(List.length x1:Int))then(let v3:=List.getD x1 (Int.toNat x5) (0:Int)
 let v4:=(v2 != v3)
 bif v4 then(bif decide (0≤x5)&&decide (x5<(List.length x0:Int))then(let v5:=List.getD x0 (Int.toNat x5) (0:Int)
 bif decide (0≤x5)&&decide (x5<(List.length x1:Int))then(let v6:=List.getD x1 (Int.toNat x5) (0:Int)
 let v7:=decide (v5<v6)
 bif v7 then(some ((-1:Int),()))
 else(some ((1:Int),())))
 else none)
 else none)
 else(let v8:=IntKind.i64.wrap (x5-(1:Int))
 f7 x0 x1 v8))
 else none)
 else none)
 else(some ((0:Int),()))
def e (f7:aj→aj→Int→Option (Int×Unit))(a0:aj)(a1:aj):Option (Int×Unit):=
 (dY.F (a0,())).bind fun y1=>
 (dY.F (a1,())).bind fun y2=>
 let v3:=(List.length y1.1:Int)
 let v4:=(List.length y2.1:Int)
 let v5:=(v3 != v4)
 bif v5 then(let v6:=(List.length y1.1:Int)
 let v7:=(List.length y2.1:Int)
 let v8:=decide (v6<v7)
 bif v8 then(some ((-1:Int),()))
 else(some ((1:Int),())))
 else(let v9:=(List.length y1.1:Int)
 let v10:=IntKind.i64.wrap (v9-(1:Int))
 f7 y1.1 y2.1 v10)
def L7 (k:Nat)(x0:aj)(x1:aj)(x5:Int):Option (Int×Unit):=gB (spec.env au T Tryz.f116) (Func.lN Tryz.f116) k 7 (m7 x0 x1 x5)
theorem jA (k:Nat)(x0:aj)(x1:aj)(x5:Int):L7 (k+1) x0 x1 x5=b7 (L7 k) x0 x1 x5:=by kernel_rfl
theorem of (k:Nat)(a0:aj)(a1:aj){y:Int×Unit}(h:e (L7 k) a0 a1=some y):F (a0,a1,())=some y:=aV k (.trans (by kernel_rfl) h)
end iM
namespace qR
def spec:Spec:=⟨[(false,(.int .u32)),(false,(.int .u32)),(false,(.int .u32))],[(false,(.int .u32)),(false,(.int .u32))],.own,fun j=>match j with|_=>[]⟩
def au:ak:=(ak.base aJ)
def sig:kH:=spec.sig au T Tryz.f128
def F (x:Int×Int×Int×Unit):Option (Int×Int×Unit):=eF spec au T Tryz.f128 x
theorem ck:ah Tryz.prog au:=(ah.base aX)
theorem bU:bW Tryz.prog aJ 128 sig:=fC aH ck mix Tryz.func128 (by kernel_rfl)
def e (a0:Int)(a1:Int)(a2:Int):Option (Int×Int×Unit):=
 let v1:=(a2 != (0:Int))
 bif v1 then(let v2:=decide (a2≤a0)
 bif v2 then(none)
 else(let v3:=IntKind.u64.wrap a0
 bif decide ((32:Int)<0)then none
 else(let v4:=yP .u64 v3 (32:Int)
 let v5:=IntKind.u64.wrap a1
 let v6:=eP .or .u64 v4 v5
 let v7:=IntKind.u64.wrap a2
 bif decide (v7=0)then none
 else(let v8:=IntKind.u64.wrap (Int.tdiv v6 v7)
 let v9:=IntKind.u32.wrap v8
 let v10:=IntKind.u64.wrap a2
 bif decide (v10=0)then none
 else(let v11:=Int.tmod v6 v10
 let v12:=IntKind.u32.wrap v11
 some (v9,v12,()))))))
 else(let v13:=IntKind.u64.wrap a0
 bif decide ((32:Int)<0)then none
 else(let v14:=yP .u64 v13 (32:Int)
 let v15:=IntKind.u64.wrap a1
 let v16:=eP .or .u64 v14 v15
 let v17:=IntKind.u64.wrap a2
 bif decide (v17=0)then none
 else(let v18:=IntKind.u64.wrap (Int.tdiv v16 v17)
 let v19:=IntKind.u32.wrap v18
 let v20:=IntKind.u64.wrap a2
 bif decide (v20=0)then none
 else(let v21:=Int.tmod v16 v20
 let v22:=IntKind.u32.wrap v21
 some (v19,v22,())))))
theorem of (k:Nat)(a0:Int)(a1:Int)(a2:Int){y:Int×Int×Unit}(h:e a0 a1 a2=some y):F (a0,a1,a2,())=some y:=aV k (.trans (by kernel_rfl) h)
end qR
namespace mQ
def spec:Spec:=⟨[(false,dI),(false,(.int .u32))],[(false,dI),(false,(.int .u32))],.own,fun j=>match j with|4=>[(0,.lf (.z 114 (.int .u32) false)),(1,.lf (.v false)),(6,.lf (.o 114 (.int .u32) true)),(7,.lf (.v true)),(8,.lf (.v true))]|_=>[]⟩
def au:ak:=(ak.cons 128 qR.sig (ak.base aJ))
def sig:kH:=spec.sig au T Tryz.f117
def F (x:aj×Int×Unit):Option (aj×Int×Unit):=eF spec au T Tryz.f117 x
theorem ck:ah Tryz.prog au:=(ah.cons qR.bU (ah.base aX))
theorem bU:bW Tryz.prog aJ 117 sig:=fC aH ck mix Tryz.func117 (by kernel_rfl)
def m4 (x0:aj)(x1:Int)(x6:aj)(x7:Int)(x8:Int):S:=⟨[(0,.one (.lf (.val false dI x0))),(1,.one (.lf (.val false (.int .u32) x1))),(6,.one (.lf (.own 0))),(7,.one (.lf (.val true (.int .u32) x7))),(8,.one (.lf (.val true (.int .i64) x8)))],⟨[some ⟨114,(.int .u32),true,true,x6⟩],[]⟩⟩
def b4 (f4:aj→Int→aj→Int→Int→Option (aj×Int×Unit))(x0:aj)(x1:Int)(x6:aj)(x7:Int)(x8:Int):Option (aj×Int×Unit):=
 let v1:=decide (x8≥(0:Int))
 bif v1 then(bif decide (0≤x8)&&decide (x8<(List.length x0:Int))then(let v2:=List.getD x0 (Int.toNat x8) (0:Int)
 (qR.F (x7,v2,x1,())).bind fun y3=>
 bif decide (0≤x8)&&decide (x8<(List.length x6:Int))then(let v4:=List.set x6 (Int.toNat x8) y3.1
 let v5:=IntKind.i64.wrap (x8-(1:Int))
 f4 x0 x1 v4 y3.2.1 v5)
 else none)
 else none)
 else(some (x6,x7,()))
def e (f4:aj→Int→aj→Int→Int→Option (aj×Int×Unit))(a0:aj)(a1:Int):Option (aj×Int×Unit):=
 let v1:=(List.length a0:Int)
 bif decide (0≤v1)&&(decide (v1≤v1)&&(decide (Int.toNat v1*4≤281474976710656)&&Nat.blt 0 4))then(let v2:=List.replicate (Int.toNat v1) (0:Int)
 let v3:=(List.length a0:Int)
 let v4:=IntKind.i64.wrap (v3-(1:Int))
 f4 a0 a1 v2 (0:Int) v4)
 else none
def L4 (k:Nat)(x0:aj)(x1:Int)(x6:aj)(x7:Int)(x8:Int):Option (aj×Int×Unit):=gB (spec.env au T Tryz.f117) (Func.lN Tryz.f117) k 4 (m4 x0 x1 x6 x7 x8)
theorem iW (k:Nat)(x0:aj)(x1:Int)(x6:aj)(x7:Int)(x8:Int):L4 (k+1) x0 x1 x6 x7 x8=b4 (L4 k) x0 x1 x6 x7 x8:=by kernel_rfl
theorem of (k:Nat)(a0:aj)(a1:Int){y:aj×Int×Unit}(h:e (L4 k) a0 a1=some y):F (a0,a1,())=some y:=aV k (.trans (by kernel_rfl) h)
end mQ
namespace iC
def spec:Spec:=⟨[(false,(.int .u32))],[(false,(.int .i64))],.own,fun j=>match j with|_=>[]⟩
def au:ak:=(ak.cons 105 nD.sig (ak.base aJ))
def sig:kH:=spec.sig au T Tryz.f129
def F (x:Int×Unit):Option (Int×Unit):=eF spec au T Tryz.f129 x
theorem ck:ah Tryz.prog au:=(ah.cons nD.bU (ah.base aX))
theorem bU:bW Tryz.prog aJ 129 sig:=fC aH ck mix Tryz.func129 (by kernel_rfl)
def e (a0:Int):Option (Int×Unit):=
 (nD.F (a0,())).bind fun y1=>
 let v2:=IntKind.i64.wrap ((32:Int)-y1.1)
 some (v2,())
theorem of (k:Nat)(a0:Int){y:Int×Unit}(h:e a0=some y):F (a0,())=some y:=aV k (.trans (by kernel_rfl) h)
end iC
namespace lT
def spec:Spec:=⟨[(false,dI),(false,(.int .i64))],[(false,dI)],.own,fun j=>match j with|3=>[(0,.lf (.z 114 (.int .u32) false)),(1,.lf (.v false)),(5,.lf (.o 114 (.int .u32) true)),(12,.lf (.v true)),(13,.lf (.v true))]|_=>[]⟩
def au:ak:=(ak.base aJ)
def sig:kH:=spec.sig au T Tryz.f130
def F (x:aj×Int×Unit):Option (aj×Unit):=eF spec au T Tryz.f130 x
theorem ck:ah Tryz.prog au:=(ah.base aX)
theorem bU:bW Tryz.prog aJ 130 sig:=fC aH ck mix Tryz.func130 (by kernel_rfl)
def m3 (x0:aj)(x1:Int)(x5:aj)(x12:Int)(Dz:Int):S:=⟨[(0,.one (.lf (.val false dI x0))),(1,.one (.lf (.val false (.int .i64) x1))),(5,.one (.lf (.own 0))),(12,.one (.lf (.val true (.int .i64) x12))),(13,.one (.lf (.val true (.int .i64) Dz)))],⟨[some ⟨114,(.int .u32),true,true,x5⟩],[]⟩⟩
def b3 (f3:aj→Int→aj→Int→Int→Option (aj×Unit))(x0:aj)(x1:Int)(x5:aj)(x12:Int)(Dz:Int):Option (aj×Unit):=
 let v1:=decide (Dz<x12)
 bif v1 then(bif decide (0≤Dz)&&decide (Dz<(List.length x5:Int))then(let v2:=List.getD x5 (Int.toNat Dz) (0:Int)
 bif decide (0≤Dz)&&decide (Dz<(List.length x0:Int))then(let v3:=List.getD x0 (Int.toNat Dz) (0:Int)
 bif decide (x1<0)then none
 else(let v4:=yP .u32 v3 x1
 let v5:=eP .or .u32 v2 v4
 bif decide (0≤Dz)&&decide (Dz<(List.length x5:Int))then(let v6:=List.set x5 (Int.toNat Dz) v5
 let v7:=IntKind.i64.wrap (Dz+(1:Int))
 bif decide (0≤Dz)&&decide (Dz<(List.length x0:Int))then(let v8:=List.getD x0 (Int.toNat Dz) (0:Int)
 let v9:=IntKind.u64.wrap v8
 let v10:=IntKind.i64.wrap ((32:Int)-x1)
 bif decide (v10<0)then none
 else(let v11:=oV .u64 v9 v10
 let v12:=IntKind.u32.wrap v11
 bif decide (0≤v7)&&decide (v7<(List.length v6:Int))then(let v13:=List.set v6 (Int.toNat v7) v12
 let v14:=IntKind.i64.wrap (Dz+(1:Int))
 f3 x0 x1 v13 x12 v14)
 else none))
 else none)
 else none))
 else none)
 else none)
 else(some (x5,()))
def e (f3:aj→Int→aj→Int→Int→Option (aj×Unit))(a0:aj)(a1:Int):Option (aj×Unit):=
 let v1:=(List.length a0:Int)
 let v2:=IntKind.i64.wrap (v1+(1:Int))
 bif decide (0≤v2)&&(decide (v2≤v2)&&(decide (Int.toNat v2*4≤281474976710656)&&Nat.blt 0 4))then(let v3:=List.replicate (Int.toNat v2) (0:Int)
 let v4:=(List.length a0:Int)
 f3 a0 a1 v3 v4 (0:Int))
 else none
def L3 (k:Nat)(x0:aj)(x1:Int)(x5:aj)(x12:Int)(Dz:Int):Option (aj×Unit):=gB (spec.env au T Tryz.f130) (Func.lN Tryz.f130) k 3 (m3 x0 x1 x5 x12 Dz)
theorem pG (k:Nat)(x0:aj)(x1:Int)(x5:aj)(x12:Int)(Dz:Int):L3 (k+1) x0 x1 x5 x12 Dz=b3 (L3 k) x0 x1 x5 x12 Dz:=by kernel_rfl
theorem of (k:Nat)(a0:aj)(a1:Int){y:aj×Unit}(h:e (L3 k) a0 a1=some y):F (a0,a1,())=some y:=aV k (.trans (by kernel_rfl) h)
end lT
namespace kR
def spec:Spec:=⟨[(false,(.int .u32)),(false,(.int .u32)),(false,(.int .u32))],[(false,(.int .u32)),(false,(.int .u32))],.own,fun j=>match j with|_=>[]⟩
def au:ak:=(ak.base aJ)
def sig:kH:=spec.sig au T Tryz.f135
def F (x:Int×Int×Int×Unit):Option (Int×Int×Unit):=eF spec au T Tryz.f135 x
theorem ck:ah Tryz.prog au:=(ah.base aX)
theorem bU:bW Tryz.prog aJ 135 sig:=fC aH ck mix Tryz.func135 (by kernel_rfl)
def e (a0:Int)(a1:Int)(a2:Int):Option (Int×Int×Unit):=
 let v1:=IntKind.u32.wrap (a0-a1)
 let v2:=IntKind.u32.wrap (v1-a2)
 let v3:=eP .xor .u32 (if IntKind.u32.signed then -1 else IntKind.u32.max) a0
 let v4:=eP .and .u32 v3 a1
 let v5:=eP .xor .u32 a0 a1
 let v6:=eP .xor .u32 (if IntKind.u32.signed then -1 else IntKind.u32.max) v5
 let v7:=eP .and .u32 v6 v2
 let v8:=eP .or .u32 v4 v7
 bif decide ((31:Int)<0)then none
 else(let v9:=oV .u32 v8 (31:Int)
 some (v2,v9,()))
theorem of (k:Nat)(a0:Int)(a1:Int)(a2:Int){y:Int×Int×Unit}(h:e a0 a1 a2=some y):F (a0,a1,a2,())=some y:=aV k (.trans (by kernel_rfl) h)
end kR
namespace lZ
def spec:Spec:=⟨[(false,(.int .u32)),(false,(.int .u32)),(false,(.int .u32))],[(false,(.int .u32)),(false,(.int .u32))],.own,fun j=>match j with|_=>[]⟩
def au:ak:=(ak.base aJ)
def sig:kH:=spec.sig au T Tryz.f136
def F (x:Int×Int×Int×Unit):Option (Int×Int×Unit):=eF spec au T Tryz.f136 x
theorem ck:ah Tryz.prog au:=(ah.base aX)
theorem bU:bW Tryz.prog aJ 136 sig:=fC aH ck mix Tryz.func136 (by kernel_rfl)
def e (a0:Int)(a1:Int)(a2:Int):Option (Int×Int×Unit):=
 let v1:=IntKind.u64.wrap a0
 let v2:=IntKind.u64.wrap a1
 let v3:=IntKind.u64.wrap (v1+v2)
 let v4:=IntKind.u64.wrap a2
 let v5:=IntKind.u64.wrap (v3+v4)
 let v6:=IntKind.u32.wrap v5
 bif decide ((32:Int)<0)then none
 else(let v7:=oV .u64 v5 (32:Int)
 let v8:=IntKind.u32.wrap v7
 some (v6,v8,()))
theorem of (k:Nat)(a0:Int)(a1:Int)(a2:Int){y:Int×Int×Unit}(h:e a0 a1 a2=some y):F (a0,a1,a2,())=some y:=aV k (.trans (by kernel_rfl) h)
end lZ
namespace cZ
def spec:tK:=⟨114,(.int .u32),[(false,dI)],[(false,(.int .u32))],fun j=>match j with|4=>[(0,.sub true),(1,.lf (.z 114 (.int .u32) false)),(5,.lf (.v true)),(7,.lf (.v true)),(8,.lf (.v true))]|10=>[(0,.sub true),(1,.lf (.z 114 (.int .u32) false)),(5,.lf (.v true)),(7,.lf (.v true)),(9,.lf (.v true)),(10,.lf (.v true)),(82,.lf (.v true)),(83,.lf (.v true))]|21=>[(0,.sub true),(1,.lf (.z 114 (.int .u32) false)),(5,.lf (.v true)),(7,.lf (.v true)),(13,.lf (.v true)),(130,.lf (.v true)),(131,.lf (.v true))]|_=>[]⟩
def au:ak:=(ak.cons 135 kR.sig (ak.cons 136 lZ.sig (ak.base aJ)))
def sig:Bc:=spec.sig au T Tryz.f131
def F (zs:List Int)(o n:Nat)(x:aj×Unit):Option ((Int×Unit)×List Int):=OY spec au T Tryz.f131 zs o n x
theorem ck:ah Tryz.prog au:=(ah.cons kR.bU (ah.cons lZ.bU (ah.base aX)))
theorem bU:Zi Tryz.prog 131 sig:=ajb aH ck mix Tryz.func131 (by kernel_rfl) (by kernel_rfl) (by kernel_rfl) (by kernel_rfl) rfl
def m4 (x0:aj)(nZ:Nat)(nM:Nat)(jg:(Nat×Nat))(x1:aj)(x5:Int)(x7:Int)(x8:Int):S:=⟨[(0,.sub 0 nZ nM (some jg)),(1,.one (.lf (.val false dI x1))),(5,.one (.lf (.val true (.int .i64) x5))),(7,.one (.lf (.val true (.int .u64) x7))),(8,.one (.lf (.val true (.int .u64) x8)))],⟨[some ⟨114,(.int .u32),true,true,x0⟩],[]⟩⟩
def m10 (x0:aj)(nZ:Nat)(nM:Nat)(jg:(Nat×Nat))(x1:aj)(x5:Int)(x7:Int)(x9:Int)(x10:Int)(x82:Int)(x83:Int):S:=⟨[(0,.sub 0 nZ nM (some jg)),(1,.one (.lf (.val false dI x1))),(5,.one (.lf (.val true (.int .i64) x5))),(7,.one (.lf (.val true (.int .u64) x7))),(9,.one (.lf (.val true (.int .u32) x9))),(10,.one (.lf (.val true (.int .u64) x10))),(82,.one (.lf (.val true (.int .i64) x82))),(83,.one (.lf (.val true (.int .i64) x83)))],⟨[some ⟨114,(.int .u32),true,true,x0⟩],[]⟩⟩
def m21 (x0:aj)(nZ:Nat)(nM:Nat)(jg:(Nat×Nat))(x1:aj)(x5:Int)(x7:Int)(Dz:Int)(QJ:Int)(AU:Int):S:=⟨[(0,.sub 0 nZ nM (some jg)),(1,.one (.lf (.val false dI x1))),(5,.one (.lf (.val true (.int .i64) x5))),(7,.one (.lf (.val true (.int .u64) x7))),(13,.one (.lf (.val true (.int .u32) Dz))),(130,.one (.lf (.val true (.int .i64) QJ))),(131,.one (.lf (.val true (.int .i64) AU)))],⟨[some ⟨114,(.int .u32),true,true,x0⟩],[]⟩⟩
def b4 (f4:aj→Nat→Nat→(Nat×Nat)→aj→Int→Int→Int→Option ((Int×Unit)×List Int×(Nat×Nat)))(f10:aj→Nat→Nat→(Nat×Nat)→aj→Int→Int→Int→Int→Int→Int→Option ((Int×Unit)×List Int×(Nat×Nat)))(f21:aj→Nat→Nat→(Nat×Nat)→aj→Int→Int→Int→Int→Int→Option ((Int×Unit)×List Int×(Nat×Nat)))(x0:aj)(nZ:Nat)(nM:Nat)(jg:(Nat×Nat))(x1:aj)(x5:Int)(x7:Int)(x8:Int):Option ((Int×Unit)×List Int×(Nat×Nat)):=
 bif decide ((32:Int)<0)then none
 else(let v1:=oV .u64 x7 (32:Int)
 let v2:=(v1 != (0:Int))
 bif v2 then(let v3:=IntKind.u64.wrap (x7-(1:Int))
 let v4:=IntKind.i64.wrap (x5-(1:Int))
 bif decide (0≤v4)&&decide (v4<(List.length x1:Int))then(let v5:=List.getD x1 (Int.toNat v4) (0:Int)
 let v6:=IntKind.u64.wrap v5
 let v7:=IntKind.u64.wrap (x8+v6)
 bif decide ((32:Int)<0)then none
 else(let v8:=oV .u64 v7 (32:Int)
 let v9:=(v8 != (0:Int))
 bif v9 then(f10 x0 nZ nM jg x1 x5 v3 (0:Int) (0:Int) x5 (0:Int))
 else(f4 x0 nZ nM jg x1 x5 v3 v7)))
 else none)
 else(let v10:=IntKind.i64.wrap (x5-(2:Int))
 bif decide (0≤v10)&&decide (v10<(List.length x1:Int))then(let v11:=List.getD x1 (Int.toNat v10) (0:Int)
 let v12:=IntKind.u64.wrap v11
 let v13:=IntKind.u64.wrap (x7*v12)
 bif decide ((32:Int)<0)then none
 else(let v14:=yP .u64 x8 (32:Int)
 let v15:=IntKind.i64.wrap (x5-(2:Int))
 bif decide (0≤v15)&&decide (v15<((nM:Nat):Int))then(let v16:=List.getD x0 (nZ+Int.toNat v15) (0:Int)
 let v17:=IntKind.u64.wrap v16
 let v18:=eP .or .u64 v14 v17
 let v19:=decide (v13>v18)
 bif v19 then(let v20:=IntKind.u64.wrap (x7-(1:Int))
 let v21:=IntKind.i64.wrap (x5-(1:Int))
 bif decide (0≤v21)&&decide (v21<(List.length x1:Int))then(let v22:=List.getD x1 (Int.toNat v21) (0:Int)
 let v23:=IntKind.u64.wrap v22
 let v24:=IntKind.u64.wrap (x8+v23)
 bif decide ((32:Int)<0)then none
 else(let v25:=oV .u64 v24 (32:Int)
 let v26:=(v25 != (0:Int))
 bif v26 then(f10 x0 nZ nM jg x1 x5 v20 (0:Int) (0:Int) x5 (0:Int))
 else(f4 x0 nZ nM jg x1 x5 v20 v24)))
 else none)
 else(f10 x0 nZ nM jg x1 x5 x7 (0:Int) (0:Int) x5 (0:Int)))
 else none))
 else none))
def b10 (f4:aj→Nat→Nat→(Nat×Nat)→aj→Int→Int→Int→Option ((Int×Unit)×List Int×(Nat×Nat)))(f10:aj→Nat→Nat→(Nat×Nat)→aj→Int→Int→Int→Int→Int→Int→Option ((Int×Unit)×List Int×(Nat×Nat)))(f21:aj→Nat→Nat→(Nat×Nat)→aj→Int→Int→Int→Int→Int→Option ((Int×Unit)×List Int×(Nat×Nat)))(x0:aj)(nZ:Nat)(nM:Nat)(jg:(Nat×Nat))(x1:aj)(x5:Int)(x7:Int)(x9:Int)(x10:Int)(x82:Int)(x83:Int):Option ((Int×Unit)×List Int×(Nat×Nat)):=
 let v1:=decide (x83<x82)
 bif v1 then(bif decide (0≤x83)&&decide (x83<(List.length x1:Int))then(let v2:=List.getD x1 (Int.toNat x83) (0:Int)
 let v3:=IntKind.u64.wrap v2
 let v4:=IntKind.u64.wrap (x7*v3)
 let v5:=IntKind.u64.wrap (v4+x10)
 bif decide ((32:Int)<0)then none
 else(let v6:=oV .u64 v5 (32:Int)
 bif decide (0≤x83)&&decide (x83<((nM:Nat):Int))then(let v7:=List.getD x0 (nZ+Int.toNat x83) (0:Int)
 let v8:=IntKind.u32.wrap v5
 (kR.F (v7,v8,x9,())).bind fun y9=>
 bif decide (0≤x83)&&decide (x83<((nM:Nat):Int))then(let v10:=List.set x0 (nZ+Int.toNat x83) y9.1
 let v11:=IntKind.i64.wrap (x83+(1:Int))
 f10 v10 nZ nM jg x1 x5 x7 y9.2.1 v6 x82 v11)
 else none)
 else none))
 else none)
 else(bif decide (0≤x5)&&decide (x5<((nM:Nat):Int))then(let v12:=List.getD x0 (nZ+Int.toNat x5) (0:Int)
 let v13:=IntKind.u32.wrap x10
 (kR.F (v12,v13,x9,())).bind fun Sm=>
 bif decide (0≤x5)&&decide (x5<((nM:Nat):Int))then(let v15:=List.set x0 (nZ+Int.toNat x5) Sm.1
 let v16:=(Sm.2.1==(1:Int))
 bif v16 then(let v17:=IntKind.u64.wrap (x7-(1:Int))
 f21 v15 nZ nM jg x1 x5 v17 (0:Int) x5 (0:Int))
 else(let v18:=IntKind.u32.wrap x7
 bif Nat.blt 0 nM&&true then(some ((v18,()),v15,jg))
 else none))
 else none)
 else none)
def b21 (f4:aj→Nat→Nat→(Nat×Nat)→aj→Int→Int→Int→Option ((Int×Unit)×List Int×(Nat×Nat)))(f10:aj→Nat→Nat→(Nat×Nat)→aj→Int→Int→Int→Int→Int→Int→Option ((Int×Unit)×List Int×(Nat×Nat)))(f21:aj→Nat→Nat→(Nat×Nat)→aj→Int→Int→Int→Int→Int→Option ((Int×Unit)×List Int×(Nat×Nat)))(x0:aj)(nZ:Nat)(nM:Nat)(jg:(Nat×Nat))(x1:aj)(x5:Int)(x7:Int)(Dz:Int)(QJ:Int)(AU:Int):Option ((Int×Unit)×List Int×(Nat×Nat)):=
 let v1:=decide (AU<QJ)
 bif v1 then(bif decide (0≤AU)&&decide (AU<((nM:Nat):Int))then(let v2:=List.getD x0 (nZ+Int.toNat AU) (0:Int)
 bif decide (0≤AU)&&decide (AU<(List.length x1:Int))then(let v3:=List.getD x1 (Int.toNat AU) (0:Int)
 (lZ.F (v2,v3,Dz,())).bind fun y4=>
 bif decide (0≤AU)&&decide (AU<((nM:Nat):Int))then(let v5:=List.set x0 (nZ+Int.toNat AU) y4.1
 let v6:=IntKind.i64.wrap (AU+(1:Int))
 f21 v5 nZ nM jg x1 x5 x7 y4.2.1 QJ v6)
 else none)
 else none)
 else none)
 else(bif decide (0≤x5)&&decide (x5<((nM:Nat):Int))then(let v7:=List.getD x0 (nZ+Int.toNat x5) (0:Int)
 let v8:=IntKind.u32.wrap (v7+Dz)
 bif decide (0≤x5)&&decide (x5<((nM:Nat):Int))then(let v9:=List.set x0 (nZ+Int.toNat x5) v8
 let v10:=IntKind.u32.wrap x7
 bif Nat.blt 0 nM&&true then(some ((v10,()),v9,jg))
 else none)
 else none)
 else none)
def e (f4:aj→Nat→Nat→(Nat×Nat)→aj→Int→Int→Int→Option ((Int×Unit)×List Int×(Nat×Nat)))(f10:aj→Nat→Nat→(Nat×Nat)→aj→Int→Int→Int→Int→Int→Int→Option ((Int×Unit)×List Int×(Nat×Nat)))(f21:aj→Nat→Nat→(Nat×Nat)→aj→Int→Int→Int→Int→Int→Option ((Int×Unit)×List Int×(Nat×Nat)))(zs:List Int)(o n:Nat)(g:Nat×Nat)(a1:aj):Option ((Int×Unit)×List Int×(Nat×Nat)):=
 let v1:=(List.length a1:Int)
 bif decide (0≤v1)&&decide (v1<((n:Nat):Int))then(let v2:=List.getD zs (o+Int.toNat v1) (0:Int)
 let v3:=IntKind.u64.wrap v2
 bif decide ((32:Int)<0)then none
 else(let v4:=yP .u64 v3 (32:Int)
 let v5:=IntKind.i64.wrap (v1-(1:Int))
 bif decide (0≤v5)&&decide (v5<((n:Nat):Int))then(let v6:=List.getD zs (o+Int.toNat v5) (0:Int)
 let v7:=IntKind.u64.wrap v6
 let v8:=eP .or .u64 v4 v7
 let v9:=IntKind.i64.wrap (v1-(1:Int))
 bif decide (0≤v9)&&decide (v9<(List.length a1:Int))then(let v10:=List.getD a1 (Int.toNat v9) (0:Int)
 let v11:=IntKind.u64.wrap v10
 bif decide (v11=0)then none
 else(let v12:=IntKind.u64.wrap (Int.tdiv v8 v11)
 let v13:=IntKind.i64.wrap (v1-(1:Int))
 bif decide (0≤v13)&&decide (v13<(List.length a1:Int))then(let v14:=List.getD a1 (Int.toNat v13) (0:Int)
 let v15:=IntKind.u64.wrap v14
 bif decide (v15=0)then none
 else(let v16:=Int.tmod v8 v15
 f4 zs o n g a1 v1 v12 v16))
 else none))
 else none)
 else none))
 else none
def L4 (k:Nat)(x0:aj)(nZ:Nat)(nM:Nat)(jg:(Nat×Nat))(x1:aj)(x5:Int)(x7:Int)(x8:Int):Option ((Int×Unit)×List Int×(Nat×Nat)):=gB (spec.env au T Tryz.f131) (Func.lN Tryz.f131) k 4 (m4 x0 nZ nM jg x1 x5 x7 x8)
def FW (k:Nat)(x0:aj)(nZ:Nat)(nM:Nat)(jg:(Nat×Nat))(x1:aj)(x5:Int)(x7:Int)(x9:Int)(x10:Int)(x82:Int)(x83:Int):Option ((Int×Unit)×List Int×(Nat×Nat)):=gB (spec.env au T Tryz.f131) (Func.lN Tryz.f131) k 10 (m10 x0 nZ nM jg x1 x5 x7 x9 x10 x82 x83)
def L21 (k:Nat)(x0:aj)(nZ:Nat)(nM:Nat)(jg:(Nat×Nat))(x1:aj)(x5:Int)(x7:Int)(Dz:Int)(QJ:Int)(AU:Int):Option ((Int×Unit)×List Int×(Nat×Nat)):=gB (spec.env au T Tryz.f131) (Func.lN Tryz.f131) k 21 (m21 x0 nZ nM jg x1 x5 x7 Dz QJ AU)
theorem iW (k:Nat)(x0:aj)(nZ:Nat)(nM:Nat)(jg:(Nat×Nat))(x1:aj)(x5:Int)(x7:Int)(x8:Int):L4 (k+1) x0 nZ nM jg x1 x5 x7 x8=b4 (L4 k) (FW k) (L21 k) x0 nZ nM jg x1 x5 x7 x8:=by kernel_rfl
theorem rW (k:Nat)(x0:aj)(nZ:Nat)(nM:Nat)(jg:(Nat×Nat))(x1:aj)(x5:Int)(x7:Int)(x9:Int)(x10:Int)(x82:Int)(x83:Int):FW (k+1) x0 nZ nM jg x1 x5 x7 x9 x10 x82 x83=b10 (L4 k) (FW k) (L21 k) x0 nZ nM jg x1 x5 x7 x9 x10 x82 x83:=by kernel_rfl
theorem UA (k:Nat)(x0:aj)(nZ:Nat)(nM:Nat)(jg:(Nat×Nat))(x1:aj)(x5:Int)(x7:Int)(Dz:Int)(QJ:Int)(AU:Int):L21 (k+1) x0 nZ nM jg x1 x5 x7 Dz QJ AU=b21 (L4 k) (FW k) (L21 k) x0 nZ nM jg x1 x5 x7 Dz QJ AU:=by kernel_rfl
theorem of (zs:List Int)(o n:Nat)(a1:aj)(y:(Int×Unit))(ws:List Int)(h:∀g,∃k,e (L4 k) (FW k) (L21 k) zs o n g a1=some (y,ws,g)):F zs o n (a1,())=some (y,ws):=ab8 (q:=spec) y ws fun g=>(h g).imp fun k hk=> .trans (by kernel_rfl) hk
end cZ
namespace jS
def spec:Spec:=⟨[(false,dI),(false,dI)],[(false,dI),(false,dI)],.own,fun j=>match j with|7=>[(6,.lf (.v true)),(7,.lf (.z 114 (.int .u32) true)),(8,.lf (.o 114 (.int .u32) true)),(9,.lf (.v true)),(10,.lf (.o 114 (.int .u32) true)),(11,.lf (.v true))]|12=>[(6,.lf (.v true)),(8,.lf (.o 114 (.int .u32) true)),(10,.lf (.o 114 (.int .u32) true)),(12,.lf (.o 114 (.int .u32) true)),(60,.lf (.v true)),(61,.lf (.v true))]|_=>[]⟩
def au:ak:=(ak.yY [54] (ak.LK 131 cZ.sig (ak.cons 129 iC.sig (ak.cons 130 lT.sig (ak.cons 115 iD.sig (ak.base aJ))))))
def sig:kH:=spec.sig au T Tryz.f118
def F (x:aj×aj×Unit):Option (aj×aj×Unit):=eF spec au T Tryz.f118 x
theorem ck:ah Tryz.prog au:=(ah.yY [54] (ah.LK cZ.bU (ah.cons iC.bU (ah.cons lT.bU (ah.cons iD.bU (ah.base aX))))))
theorem bU:bW Tryz.prog aJ 118 sig:=fC aH ck mix Tryz.func118 (by kernel_rfl)
def m7 (x6:Int)(x7:aj)(x8:aj)(x9:Int)(x10:aj)(x11:Int):S:=⟨[(6,.one (.lf (.val true (.int .i64) x6))),(7,.one (.lf (.val true dI x7))),(8,.one (.lf (.own 0))),(9,.one (.lf (.val true (.int .i64) x9))),(10,.one (.lf (.own 1))),(11,.one (.lf (.val true (.int .i64) x11)))],⟨[some ⟨114,(.int .u32),true,true,x8⟩,some ⟨114,(.int .u32),true,true,x10⟩],[]⟩⟩
def m12 (x6:Int)(x8:aj)(x10:aj)(x12:aj)(x60:Int)(Vy:Int):S:=⟨[(6,.one (.lf (.val true (.int .i64) x6))),(8,.one (.lf (.own 0))),(10,.one (.lf (.own 1))),(12,.one (.lf (.own 2))),(60,.one (.lf (.val true (.int .i64) x60))),(61,.one (.lf (.val true (.int .i64) Vy)))],⟨[some ⟨114,(.int .u32),true,true,x8⟩,some ⟨114,(.int .u32),true,true,x10⟩,some ⟨114,(.int .u32),true,true,x12⟩],[]⟩⟩
def b7 (f7:Int→aj→aj→Int→aj→Int→Option (aj×aj×Unit))(f12:Int→aj→aj→aj→Int→Int→Option (aj×aj×Unit))(x6:Int)(x7:aj)(x8:aj)(x9:Int)(x10:aj)(x11:Int):Option (aj×aj×Unit):=
 let v1:=decide (x11≥(0:Int))
 bif v1 then(let v2:=IntKind.i64.wrap (x11+x9)
 let v3:=IntKind.i64.wrap (v2+(1:Int))
 bif decide (0≤x11)&&(decide (x11≤v3)&&decide (v3≤(List.length x8:Int)))then(bif Nat.blt 0 (Int.toNat (v3-x11))&&true then((cZ.F x8 (Int.toNat x11) (Int.toNat (v3-x11)) (x7,())).bind fun y4=>
 bif Nat.beq (List.length y4.2) (List.length x8)then(bif decide (0≤x11)&&decide (x11<(List.length x10:Int))then(let v5:=List.set x10 (Int.toNat x11) y4.1.1
 let v6:=IntKind.i64.wrap (x11-(1:Int))
 f7 x6 x7 y4.2 x9 v5 v6)
 else none)
 else none)
 else none)
 else none)
 else(bif decide (0≤x9)&&(decide (x9≤x9)&&(decide (Int.toNat x9*4≤281474976710656)&&Nat.blt 0 4))then(let v7:=List.replicate (Int.toNat x9) (0:Int)
 f12 x6 x8 x10 v7 x9 (0:Int))
 else none)
def b12 (f7:Int→aj→aj→Int→aj→Int→Option (aj×aj×Unit))(f12:Int→aj→aj→aj→Int→Int→Option (aj×aj×Unit))(x6:Int)(x8:aj)(x10:aj)(x12:aj)(x60:Int)(Vy:Int):Option (aj×aj×Unit):=
 let v1:=decide (Vy<x60)
 bif v1 then(bif decide (0≤Vy)&&decide (Vy<(List.length x8:Int))then(let v2:=List.getD x8 (Int.toNat Vy) (0:Int)
 bif decide (x6<0)then none
 else(let v3:=oV .u32 v2 x6
 let v4:=IntKind.i64.wrap (Vy+(1:Int))
 bif decide (0≤v4)&&decide (v4<(List.length x8:Int))then(let v5:=List.getD x8 (Int.toNat v4) (0:Int)
 let v6:=IntKind.u64.wrap v5
 let v7:=IntKind.i64.wrap ((32:Int)-x6)
 bif decide (v7<0)then none
 else(let v8:=yP .u64 v6 v7
 let v9:=IntKind.u32.wrap v8
 let v10:=eP .or .u32 v3 v9
 bif decide (0≤Vy)&&decide (Vy<(List.length x12:Int))then(let v11:=List.set x12 (Int.toNat Vy) v10
 let v12:=IntKind.i64.wrap (Vy+(1:Int))
 f12 x6 x8 x10 v11 x60 v12)
 else none))
 else none))
 else none)
 else((iD.F (x10,())).bind fun y13=>
 (iD.F (x12,())).bind fun Sm=>
 some (y13.1,Sm.1,()))
def e (f7:Int→aj→aj→Int→aj→Int→Option (aj×aj×Unit))(f12:Int→aj→aj→aj→Int→Int→Option (aj×aj×Unit))(a0:aj)(a1:aj):Option (aj×aj×Unit):=
 let v1:=(List.length a1:Int)
 let v2:=IntKind.i64.wrap (v1-(1:Int))
 bif decide (0≤v2)&&decide (v2<(List.length a1:Int))then(let v3:=List.getD a1 (Int.toNat v2) (0:Int)
 (iC.F (v3,())).bind fun y4=>
 (lT.F (a1,y4.1,())).bind fun y5=>
 let v6:=(List.length a1:Int)
 bif decide (0≤v6)&&decide (v6≤(List.length y5.1:Int))then(let v7:=List.take (Int.toNat v6) y5.1
 (lT.F (a0,y4.1,())).bind fun y8=>
 let v9:=(List.length v7:Int)
 let v10:=(List.length y8.1:Int)
 let v11:=IntKind.i64.wrap (v10-v9)
 bif decide (0≤v11)&&(decide (v11≤v11)&&(decide (Int.toNat v11*4≤281474976710656)&&Nat.blt 0 4))then(let v12:=List.replicate (Int.toNat v11) (0:Int)
 let v13:=(List.length y8.1:Int)
 let v14:=IntKind.i64.wrap (v13-v9)
 let v15:=IntKind.i64.wrap (v14-(1:Int))
 f7 y4.1 v7 y8.1 v9 v12 v15)
 else none)
 else none)
 else none
def L7 (k:Nat)(x6:Int)(x7:aj)(x8:aj)(x9:Int)(x10:aj)(x11:Int):Option (aj×aj×Unit):=gB (spec.env au T Tryz.f118) (Func.lN Tryz.f118) k 7 (m7 x6 x7 x8 x9 x10 x11)
def L12 (k:Nat)(x6:Int)(x8:aj)(x10:aj)(x12:aj)(x60:Int)(Vy:Int):Option (aj×aj×Unit):=gB (spec.env au T Tryz.f118) (Func.lN Tryz.f118) k 12 (m12 x6 x8 x10 x12 x60 Vy)
theorem jA (k:Nat)(x6:Int)(x7:aj)(x8:aj)(x9:Int)(x10:aj)(x11:Int):L7 (k+1) x6 x7 x8 x9 x10 x11=b7 (L7 k) (L12 k) x6 x7 x8 x9 x10 x11:=by kernel_rfl
theorem UC (k:Nat)(x6:Int)(x8:aj)(x10:aj)(x12:aj)(x60:Int)(Vy:Int):L12 (k+1) x6 x8 x10 x12 x60 Vy=b12 (L7 k) (L12 k) x6 x8 x10 x12 x60 Vy:=by kernel_rfl
theorem of (k:Nat)(a0:aj)(a1:aj){y:aj×aj×Unit}(h:e (L7 k) (L12 k) a0 a1=some y):F (a0,a1,())=some y:=aV k (.trans (by kernel_rfl) h)
end jS
namespace qO
def spec:Spec:=⟨[(false,dI),(false,dI)],[(false,dI),(false,dI),(false,(.int .i64))],.own,fun j=>match j with|_=>[]⟩
def au:ak:=(ak.cons 104 dY.sig (ak.cons 116 iM.sig (ak.cons 115 iD.sig (ak.cons 117 mQ.sig (ak.cons 118 jS.sig (ak.base aJ))))))
def sig:kH:=spec.sig au T Tryz.f107
def F (x:aj×aj×Unit):Option (aj×aj×Int×Unit):=eF spec au T Tryz.f107 x
theorem ck:ah Tryz.prog au:=(ah.cons dY.bU (ah.cons iM.bU (ah.cons iD.bU (ah.cons mQ.bU (ah.cons jS.bU (ah.base aX))))))
theorem bU:bW Tryz.prog aJ 107 sig:=fC aH ck mix Tryz.func107 (by kernel_rfl)
def e (a0:aj)(a1:aj):Option (aj×aj×Int×Unit):=
 (dY.F (a0,())).bind fun y1=>
 (dY.F (a1,())).bind fun y2=>
 let v3:=(List.length y2.1:Int)
 let v4:=(v3==(0:Int))
 bif v4 then(some (FU,FU,(11:Int),()))
 else((iM.F (y1.1,y2.1,())).bind fun y5=>
 let v6:=decide (y5.1<(0:Int))
 bif v6 then((iD.F (y1.1,())).bind fun y7=>
 some (FU,y7.1,(0:Int),()))
 else(let v8:=(List.length y2.1:Int)
 let v9:=(v8==(1:Int))
 bif v9 then(bif decide (0≤(0:Int))&&decide ((0:Int)<(List.length y2.1:Int))then(let v10:=List.getD y2.1 (Int.toNat (0:Int)) (0:Int)
 (mQ.F (y1.1,v10,())).bind fun WY=>
 (iD.F (WY.1,())).bind fun y12=>
 let v13:=([WY.2.1]:List Int)
 (iD.F (v13,())).bind fun Sm=>
 some (y12.1,Sm.1,(0:Int),()))
 else none)
 else((jS.F (y1.1,y2.1,())).bind fun O9=>
 some (O9.1,O9.2.1,(0:Int),()))))
theorem of (k:Nat)(a0:aj)(a1:aj){y:aj×aj×Int×Unit}(h:e a0 a1=some y):F (a0,a1,())=some y:=aV k (.trans (by kernel_rfl) h)
end qO
namespace qm
def spec:Spec:=⟨[(false,dI),(false,dI)],[(false,dI)],.own,fun j=>match j with|2=>[(0,.lf (.o 114 (.int .u32) true)),(1,.lf (.o 114 (.int .u32) true))]|_=>[]⟩
def au:ak:=(ak.cons 115 iD.sig (ak.cons 107 qO.sig (ak.base aJ)))
def sig:kH:=spec.sig au T Tryz.f106
def F (x:aj×aj×Unit):Option (aj×Unit):=eF spec au T Tryz.f106 x
theorem ck:ah Tryz.prog au:=(ah.cons iD.bU (ah.cons qO.bU (ah.base aX)))
theorem bU:bW Tryz.prog aJ 106 sig:=fC aH ck mix Tryz.func106 (by kernel_rfl)
def m2 (x0:aj)(x1:aj):S:=⟨[(0,.one (.lf (.own 0))),(1,.one (.lf (.own 1)))],⟨[some ⟨114,(.int .u32),true,true,x0⟩,some ⟨114,(.int .u32),true,true,x1⟩],[]⟩⟩
def b2 (f2:aj→aj→Option (aj×Unit))(x0:aj)(x1:aj):Option (aj×Unit):=
 let v1:=(List.length x1:Int)
 let v2:=decide (v1>(0:Int))
 bif v2 then((qO.F (x0,x1,())).bind fun y3=>
 f2 x1 y3.2.1)
 else(some (x0,()))
def e (f2:aj→aj→Option (aj×Unit))(a0:aj)(a1:aj):Option (aj×Unit):=
 (iD.F (a0,())).bind fun y1=>
 (iD.F (a1,())).bind fun y2=>
 f2 y1.1 y2.1
def L2 (k:Nat)(x0:aj)(x1:aj):Option (aj×Unit):=gB (spec.env au T Tryz.f106) (Func.lN Tryz.f106) k 2 (m2 x0 x1)
theorem mX (k:Nat)(x0:aj)(x1:aj):L2 (k+1) x0 x1=b2 (L2 k) x0 x1:=by kernel_rfl
theorem of (k:Nat)(a0:aj)(a1:aj){y:aj×Unit}(h:e (L2 k) a0 a1=some y):F (a0,a1,())=some y:=aV k (.trans (by kernel_rfl) h)
end qm
namespace jB
def spec:Spec:=⟨[(false,dI)],[(false,dI)],.shared,fun j=>match j with|2=>[(0,.lf (.z 114 (.int .u32) true)),(3,.lf (.v true))]|_=>[]⟩
def au:ak:=(ak.base aJ)
def sig:kH:=spec.sig au T Tryz.f119
def F (x:aj×Unit):Option (aj×Unit):=eF spec au T Tryz.f119 x
theorem ck:ah Tryz.prog au:=(ah.base aX)
theorem bU:bW Tryz.prog aJ 119 sig:=fC aH ck mix Tryz.func119 (by kernel_rfl)
def m2 (x0:aj)(x3:Int):S:=⟨[(0,.one (.lf (.val true dI x0))),(3,.one (.lf (.val true (.int .i64) x3)))],⟨[],[]⟩⟩
def b2 (f2:aj→Int→Option (aj×Unit))(x0:aj)(x3:Int):Option (aj×Unit):=
 let v1:=decide (x3>(0:Int))
 bif v1 then(let v2:=IntKind.i64.wrap (x3-(1:Int))
 bif decide (0≤v2)&&decide (v2<(List.length x0:Int))then(let v3:=List.getD x0 (Int.toNat v2) (0:Int)
 let v4:=(v3==(0:Int))
 bif v4 then(let v5:=IntKind.i64.wrap (x3-(1:Int))
 f2 x0 v5)
 else(bif decide (0≤x3)&&(decide (x3≤x3)&&decide (x3≤(List.length x0:Int)))then(let v6:=List.take (Int.toNat x3) x0
 some (v6,()))
 else none))
 else none)
 else(bif decide (0≤x3)&&(decide (x3≤x3)&&decide (x3≤(List.length x0:Int)))then(let v7:=List.take (Int.toNat x3) x0
 some (v7,()))
 else none)
def e (f2:aj→Int→Option (aj×Unit))(a0:aj):Option (aj×Unit):=
 let v1:=(List.length a0:Int)
 f2 a0 v1
def L2 (k:Nat)(x0:aj)(x3:Int):Option (aj×Unit):=gB (spec.env au T Tryz.f119) (Func.lN Tryz.f119) k 2 (m2 x0 x3)
theorem mX (k:Nat)(x0:aj)(x3:Int):L2 (k+1) x0 x3=b2 (L2 k) x0 x3:=by kernel_rfl
theorem of (k:Nat)(a0:aj){y:aj×Unit}(h:e (L2 k) a0=some y):F (a0,())=some y:=aV k (.trans (by kernel_rfl) h)
end jB
namespace eX
def spec:Spec:=⟨[(true,oD)],[(false,(.int .i64))],.own,fun j=>match j with|_=>[]⟩
def au:ak:=(ak.cons 119 jB.sig (ak.base aJ))
def sig:kH:=spec.sig au T Tryz.f109
def F (x:dK×Unit):Option (Int×Unit):=eF spec au T Tryz.f109 x
theorem ck:ah Tryz.prog au:=(ah.cons jB.bU (ah.base aX))
theorem bU:bW Tryz.prog aJ 109 sig:=fC aH ck mix Tryz.func109 (by kernel_rfl)
def e (a0:dK):Option (Int×Unit):=
 (jB.F (a0.2,())).bind fun y1=>
 let v2:=(List.length y1.1:Int)
 let v3:=(v2==(0:Int))
 bif v3 then(some ((0:Int),()))
 else(bif a0.1 then(some ((-1:Int),()))
 else(some ((1:Int),())))
theorem of (k:Nat)(a0:dK){y:Int×Unit}(h:e a0=some y):F (a0,())=some y:=aV k (.trans (by kernel_rfl) h)
end eX
namespace uX
def spec:Spec:=⟨[(false,dI)],[(false,dI)],.own,fun j=>match j with|_=>[]⟩
def au:ak:=(ak.cons 115 iD.sig (ak.base aJ))
def sig:kH:=spec.sig au T Tryz.f122
def F (x:aj×Unit):Option (aj×Unit):=eF spec au T Tryz.f122 x
theorem ck:ah Tryz.prog au:=(ah.cons iD.bU (ah.base aX))
theorem bU:bW Tryz.prog aJ 122 sig:=fC aH ck mix Tryz.func122 (by kernel_rfl)
def e (a0:aj):Option (aj×Unit):=
 (iD.F (a0,())).bind fun y1=>
 some (y1.1,())
theorem of (k:Nat)(a0:aj){y:aj×Unit}(h:e a0=some y):F (a0,())=some y:=aV k (.trans (by kernel_rfl) h)
end uX
namespace bT
def spec:Spec:=⟨[(false,dI),(false,ahY)],[(true,oD)],.own,fun j=>match j with|4=>[(0,.lf (.o 114 (.int .u32) true)),(4,.box 40 [.v true,.v true]),(5,.lf (.v true)),(10,.lf (.z 3 (.int .i64) false)),(11,.lf (.v true)),(12,.lf (.v true))]|_=>[]⟩
def au:ak:=(ak.cons 122 uX.sig (ak.base aJ))
def sig:kH:=spec.sig au T Tryz.f111
def F (x:aj×aj×Unit):Option (dK×Unit):=eF spec au T Tryz.f111 x
theorem ck:ah Tryz.prog au:=(ah.cons uX.bU (ah.base aX))
theorem bU:bW Tryz.prog aJ 111 sig:=fC aH ck mix Tryz.func111 (by kernel_rfl)
def m4 (x0:aj)(qU:Bool)(x5:Int)(x10:aj)(x11:Int)(x12:Int):S:=⟨[(0,.one (.lf (.own 0))),(4,.box 0 0),(5,.one (.lf (.val true (.int .i64) x5))),(10,.one (.lf (.val false ahY x10))),(11,.one (.lf (.val true (.int .i64) x11))),(12,.one (.lf (.val true (.int .i64) x12)))],⟨[some ⟨114,(.int .u32),true,true,x0⟩],[some ⟨40,[.val true .bool qU,.nil]⟩]⟩⟩
def b4 (f4:aj→Bool→Int→aj→Int→Int→Option (dK×Unit))(x0:aj)(qU:Bool)(x5:Int)(x10:aj)(x11:Int)(x12:Int):Option (dK×Unit):=
 let v1:=decide (x12<x11)
 bif v1 then(bif decide (0≤x12)&&decide (x12<(List.length x10:Int))then(let v2:=List.getD x10 (Int.toNat x12) (0:Int)
 let v3:=IntKind.i64.wrap (x5*v2)
 let v4:=IntKind.i64.wrap (x12+(1:Int))
 f4 x0 qU v3 x10 x11 v4)
 else none)
 else(let v5:=decide (x5<(0:Int))
 bif v5 then(let v6:=(List.length x0:Int)
 let v7:=decide (v6>(0:Int))
 some ((v7,x0),()))
 else(some ((false,x0),())))
def e (f4:aj→Bool→Int→aj→Int→Int→Option (dK×Unit))(a0:aj)(a1:aj):Option (dK×Unit):=
 (uX.F (a0,())).bind fun y1=>
 let v2:=(List.length a1:Int)
 f4 y1.1 false (1:Int) a1 v2 (0:Int)
def L4 (k:Nat)(x0:aj)(qU:Bool)(x5:Int)(x10:aj)(x11:Int)(x12:Int):Option (dK×Unit):=gB (spec.env au T Tryz.f111) (Func.lN Tryz.f111) k 4 (m4 x0 qU x5 x10 x11 x12)
theorem iW (k:Nat)(x0:aj)(qU:Bool)(x5:Int)(x10:aj)(x11:Int)(x12:Int):L4 (k+1) x0 qU x5 x10 x11 x12=b4 (L4 k) x0 qU x5 x10 x11 x12:=by kernel_rfl
theorem of (k:Nat)(a0:aj)(a1:aj){y:dK×Unit}(h:e (L4 k) a0 a1=some y):F (a0,a1,())=some y:=aV k (.trans (by kernel_rfl) h)
end bT
namespace qV
def spec:Spec:=⟨[(true,oD)],[(true,oD)],.own,fun j=>match j with|_=>[]⟩
def au:ak:=(ak.cons 109 eX.sig (ak.cons 111 bT.sig (ak.base aJ)))
def sig:kH:=spec.sig au T Tryz.f108
def F (x:dK×Unit):Option (dK×Unit):=eF spec au T Tryz.f108 x
theorem ck:ah Tryz.prog au:=(ah.cons eX.bU (ah.cons bT.bU (ah.base aX)))
theorem bU:bW Tryz.prog aJ 108 sig:=fC aH ck mix Tryz.func108 (by kernel_rfl)
def e (a0:dK):Option (dK×Unit):=
 (eX.F ((a0.1,a0.2),())).bind fun y1=>
 let v2:=([y1.1]:List Int)
 (bT.F (a0.2,v2,())).bind fun y3=>
 some ((y3.1.1,y3.1.2),())
theorem of (k:Nat)(a0:dK){y:dK×Unit}(h:e a0=some y):F (a0,())=some y:=aV k (.trans (by kernel_rfl) h)
end qV
namespace tN
def spec:Spec:=⟨[(true,oD),(false,dI)],[(true,pq)],.own,fun j=>match j with|_=>[]⟩
def au:ak:=(ak.cons 106 qm.sig (ak.cons 107 qO.sig (ak.cons 108 qV.sig (ak.base aJ))))
def sig:kH:=spec.sig au T Tryz.f99
def F (x:dK×aj×Unit):Option (fP×Unit):=eF spec au T Tryz.f99 x
theorem ck:ah Tryz.prog au:=(ah.cons qm.bU (ah.cons qO.bU (ah.cons qV.bU (ah.base aX))))
theorem bU:bW Tryz.prog aJ 99 sig:=fC aH ck mix Tryz.func99 (by kernel_rfl)
def e (a0:dK)(a1:aj):Option (fP×Unit):=
 (qm.F (a0.2,a1,())).bind fun y1=>
 (qO.F (a0.2,y1.1,())).bind fun y2=>
 (qO.F (a1,y1.1,())).bind fun y3=>
 (qV.F ((a0.1,y2.1),())).bind fun y4=>
 some (((y4.1.1,y4.1.2),y3.1),())
theorem of (k:Nat)(a0:dK)(a1:aj){y:fP×Unit}(h:e a0 a1=some y):F (a0,a1,())=some y:=aV k (.trans (by kernel_rfl) h)
end tN
namespace l9
def spec:Spec:=⟨[(true,pq)],[(true,pq)],.own,fun j=>match j with|_=>[]⟩
def au:ak:=(ak.cons 98 w_.sig (ak.cons 99 tN.sig (ak.base aJ)))
def sig:kH:=spec.sig au T Tryz.f88
def F (x:fP×Unit):Option (fP×Unit):=eF spec au T Tryz.f88 x
theorem ck:ah Tryz.prog au:=(ah.cons w_.bU (ah.cons tN.bU (ah.base aX)))
theorem bU:bW Tryz.prog aJ 88 sig:=fC aH ck mix Tryz.func88 (by kernel_rfl)
def e (a0:fP):Option (fP×Unit):=
 (w_.F (a0.2,())).bind fun y1=>
 let v2:=(y1.1==(0:Int))
 bif v2 then(let v3:=([(1:Int)]:List Int)
 some ((ZY,v3),()))
 else((tN.F ((a0.1.1,a0.1.2),a0.2,())).bind fun y4=>
 some (((y4.1.1.1,y4.1.1.2),y4.1.2),()))
theorem of (k:Nat)(a0:fP){y:fP×Unit}(h:e a0=some y):F (a0,())=some y:=aV k (.trans (by kernel_rfl) h)
end l9
namespace mG
def spec:Spec:=⟨[(false,dI),(false,dI)],[(false,dI)],.own,fun j=>match j with|6=>[(0,.lf (.z 114 (.int .u32) false)),(1,.lf (.z 114 (.int .u32) false)),(5,.lf (.o 114 (.int .u32) true)),(6,.lf (.v true)),(21,.lf (.v true)),(22,.lf (.v true))]|_=>[]⟩
def au:ak:=(ak.cons 136 lZ.sig (ak.cons 115 iD.sig (ak.base aJ)))
def sig:kH:=spec.sig au T Tryz.f132
def F (x:aj×aj×Unit):Option (aj×Unit):=eF spec au T Tryz.f132 x
theorem ck:ah Tryz.prog au:=(ah.cons lZ.bU (ah.cons iD.bU (ah.base aX)))
theorem bU:bW Tryz.prog aJ 132 sig:=fC aH ck mix Tryz.func132 (by kernel_rfl)
def m6 (x0:aj)(x1:aj)(x5:aj)(x6:Int)(x21:Int)(sS:Int):S:=⟨[(0,.one (.lf (.val false dI x0))),(1,.one (.lf (.val false dI x1))),(5,.one (.lf (.own 0))),(6,.one (.lf (.val true (.int .u32) x6))),(21,.one (.lf (.val true (.int .i64) x21))),(22,.one (.lf (.val true (.int .i64) sS)))],⟨[some ⟨114,(.int .u32),true,true,x5⟩],[]⟩⟩
def b6 (f6:aj→aj→aj→Int→Int→Int→Option (aj×Unit))(x0:aj)(x1:aj)(x5:aj)(x6:Int)(x21:Int)(sS:Int):Option (aj×Unit):=
 let v1:=decide (sS<x21)
 bif v1 then(let v2:=(List.length x1:Int)
 let v3:=decide (sS<v2)
 bif v3 then(bif decide (0≤sS)&&decide (sS<(List.length x1:Int))then(let v4:=List.getD x1 (Int.toNat sS) (0:Int)
 bif decide (0≤sS)&&decide (sS<(List.length x0:Int))then(let v5:=List.getD x0 (Int.toNat sS) (0:Int)
 (lZ.F (v5,v4,x6,())).bind fun y6=>
 bif decide (0≤sS)&&decide (sS<(List.length x5:Int))then(let v7:=List.set x5 (Int.toNat sS) y6.1
 let v8:=IntKind.i64.wrap (sS+(1:Int))
 f6 x0 x1 v7 y6.2.1 x21 v8)
 else none)
 else none)
 else none)
 else(bif decide (0≤sS)&&decide (sS<(List.length x0:Int))then(let v9:=List.getD x0 (Int.toNat sS) (0:Int)
 (lZ.F (v9,(0:Int),x6,())).bind fun H7=>
 bif decide (0≤sS)&&decide (sS<(List.length x5:Int))then(let v11:=List.set x5 (Int.toNat sS) H7.1
 let v12:=IntKind.i64.wrap (sS+(1:Int))
 f6 x0 x1 v11 H7.2.1 x21 v12)
 else none)
 else none))
 else(let v13:=(List.length x0:Int)
 bif decide (0≤v13)&&decide (v13<(List.length x5:Int))then(let v14:=List.set x5 (Int.toNat v13) x6
 (iD.F (v14,())).bind fun O9=>
 some (O9.1,()))
 else none)
def e (f6:aj→aj→aj→Int→Int→Int→Option (aj×Unit))(a0:aj)(a1:aj):Option (aj×Unit):=
 let v1:=(List.length a0:Int)
 let v2:=(List.length a1:Int)
 let v3:=decide (v1<v2)
 bif v3 then(let v4:=(List.length a1:Int)
 let v5:=IntKind.i64.wrap (v4+(1:Int))
 bif decide (0≤v5)&&(decide (v5≤v5)&&(decide (Int.toNat v5*4≤281474976710656)&&Nat.blt 0 4))then(let v6:=List.replicate (Int.toNat v5) (0:Int)
 let v7:=(List.length a1:Int)
 f6 a1 a0 v6 (0:Int) v7 (0:Int))
 else none)
 else(let v8:=(List.length a0:Int)
 let v9:=IntKind.i64.wrap (v8+(1:Int))
 bif decide (0≤v9)&&(decide (v9≤v9)&&(decide (Int.toNat v9*4≤281474976710656)&&Nat.blt 0 4))then(let v10:=List.replicate (Int.toNat v9) (0:Int)
 let v11:=(List.length a0:Int)
 f6 a0 a1 v10 (0:Int) v11 (0:Int))
 else none)
def L6 (k:Nat)(x0:aj)(x1:aj)(x5:aj)(x6:Int)(x21:Int)(sS:Int):Option (aj×Unit):=gB (spec.env au T Tryz.f132) (Func.lN Tryz.f132) k 6 (m6 x0 x1 x5 x6 x21 sS)
theorem mJ (k:Nat)(x0:aj)(x1:aj)(x5:aj)(x6:Int)(x21:Int)(sS:Int):L6 (k+1) x0 x1 x5 x6 x21 sS=b6 (L6 k) x0 x1 x5 x6 x21 sS:=by kernel_rfl
theorem of (k:Nat)(a0:aj)(a1:aj){y:aj×Unit}(h:e (L6 k) a0 a1=some y):F (a0,a1,())=some y:=aV k (.trans (by kernel_rfl) h)
end mG
namespace mM
def spec:Spec:=⟨[(false,dI),(false,dI)],[(false,dI),(false,(.int .i64))],.own,fun j=>match j with|7=>[(0,.lf (.z 114 (.int .u32) false)),(1,.lf (.z 114 (.int .u32) false)),(6,.lf (.o 114 (.int .u32) true)),(7,.lf (.v true)),(20,.lf (.v true)),(21,.lf (.v true))]|_=>[]⟩
def au:ak:=(ak.cons 116 iM.sig (ak.cons 104 dY.sig (ak.cons 135 kR.sig (ak.cons 115 iD.sig (ak.base aJ)))))
def sig:kH:=spec.sig au T Tryz.f133
def F (x:aj×aj×Unit):Option (aj×Int×Unit):=eF spec au T Tryz.f133 x
theorem ck:ah Tryz.prog au:=(ah.cons iM.bU (ah.cons dY.bU (ah.cons kR.bU (ah.cons iD.bU (ah.base aX)))))
theorem bU:bW Tryz.prog aJ 133 sig:=fC aH ck mix Tryz.func133 (by kernel_rfl)
def m7 (x0:aj)(x1:aj)(x6:aj)(x7:Int)(x20:Int)(x21:Int):S:=⟨[(0,.one (.lf (.val false dI x0))),(1,.one (.lf (.val false dI x1))),(6,.one (.lf (.own 0))),(7,.one (.lf (.val true (.int .u32) x7))),(20,.one (.lf (.val true (.int .i64) x20))),(21,.one (.lf (.val true (.int .i64) x21)))],⟨[some ⟨114,(.int .u32),true,true,x6⟩],[]⟩⟩
def b7 (f7:aj→aj→aj→Int→Int→Int→Option (aj×Int×Unit))(x0:aj)(x1:aj)(x6:aj)(x7:Int)(x20:Int)(x21:Int):Option (aj×Int×Unit):=
 let v1:=decide (x21<x20)
 bif v1 then(let v2:=(List.length x1:Int)
 let v3:=decide (x21<v2)
 bif v3 then(bif decide (0≤x21)&&decide (x21<(List.length x1:Int))then(let v4:=List.getD x1 (Int.toNat x21) (0:Int)
 bif decide (0≤x21)&&decide (x21<(List.length x0:Int))then(let v5:=List.getD x0 (Int.toNat x21) (0:Int)
 (kR.F (v5,v4,x7,())).bind fun y6=>
 bif decide (0≤x21)&&decide (x21<(List.length x6:Int))then(let v7:=List.set x6 (Int.toNat x21) y6.1
 let v8:=IntKind.i64.wrap (x21+(1:Int))
 f7 x0 x1 v7 y6.2.1 x20 v8)
 else none)
 else none)
 else none)
 else(bif decide (0≤x21)&&decide (x21<(List.length x0:Int))then(let v9:=List.getD x0 (Int.toNat x21) (0:Int)
 (kR.F (v9,(0:Int),x7,())).bind fun H7=>
 bif decide (0≤x21)&&decide (x21<(List.length x6:Int))then(let v11:=List.set x6 (Int.toNat x21) H7.1
 let v12:=IntKind.i64.wrap (x21+(1:Int))
 f7 x0 x1 v11 H7.2.1 x20 v12)
 else none)
 else none))
 else((iD.F (x6,())).bind fun y13=>
 some (y13.1,(0:Int),()))
def e (f7:aj→aj→aj→Int→Int→Int→Option (aj×Int×Unit))(a0:aj)(a1:aj):Option (aj×Int×Unit):=
 (iM.F (a0,a1,())).bind fun y1=>
 let v2:=decide (y1.1<(0:Int))
 bif v2 then(some (FU,(10:Int),()))
 else((dY.F (a1,())).bind fun y3=>
 let v4:=(List.length a0:Int)
 bif decide (0≤v4)&&(decide (v4≤v4)&&(decide (Int.toNat v4*4≤281474976710656)&&Nat.blt 0 4))then(let v5:=List.replicate (Int.toNat v4) (0:Int)
 let v6:=(List.length a0:Int)
 f7 a0 y3.1 v5 (0:Int) v6 (0:Int))
 else none)
def L7 (k:Nat)(x0:aj)(x1:aj)(x6:aj)(x7:Int)(x20:Int)(x21:Int):Option (aj×Int×Unit):=gB (spec.env au T Tryz.f133) (Func.lN Tryz.f133) k 7 (m7 x0 x1 x6 x7 x20 x21)
theorem jA (k:Nat)(x0:aj)(x1:aj)(x6:aj)(x7:Int)(x20:Int)(x21:Int):L7 (k+1) x0 x1 x6 x7 x20 x21=b7 (L7 k) x0 x1 x6 x7 x20 x21:=by kernel_rfl
theorem of (k:Nat)(a0:aj)(a1:aj){y:aj×Int×Unit}(h:e (L7 k) a0 a1=some y):F (a0,a1,())=some y:=aV k (.trans (by kernel_rfl) h)
end mM
namespace tV
def spec:Spec:=⟨[(true,oD),(true,oD)],[(true,oD)],.own,fun j=>match j with|_=>[]⟩
def au:ak:=(ak.cons 109 eX.sig (ak.cons 132 mG.sig (ak.cons 111 bT.sig (ak.cons 116 iM.sig (ak.cons 133 mM.sig (ak.base aJ))))))
def sig:kH:=spec.sig au T Tryz.f120
def F (x:dK×dK×Unit):Option (dK×Unit):=eF spec au T Tryz.f120 x
theorem ck:ah Tryz.prog au:=(ah.cons eX.bU (ah.cons mG.bU (ah.cons bT.bU (ah.cons iM.bU (ah.cons mM.bU (ah.base aX))))))
theorem bU:bW Tryz.prog aJ 120 sig:=fC aH ck mix Tryz.func120 (by kernel_rfl)
def e (a0:dK)(a1:dK):Option (dK×Unit):=
 (eX.F ((a0.1,a0.2),())).bind fun y1=>
 (eX.F ((a1.1,a1.2),())).bind fun y2=>
 let v3:=IntKind.i64.wrap (y1.1*y2.1)
 let v4:=decide (v3≥(0:Int))
 bif v4 then((mG.F (a0.2,a1.2,())).bind fun y5=>
 let v6:=eP .or .i64 y1.1 y2.1
 let v7:=eP .or .i64 v6 (1:Int)
 let v8:=([v7]:List Int)
 (bT.F (y5.1,v8,())).bind fun y9=>
 some ((y9.1.1,y9.1.2),()))
 else((iM.F (a0.2,a1.2,())).bind fun H7=>
 let v11:=decide (H7.1≥(0:Int))
 bif v11 then((mM.F (a0.2,a1.2,())).bind fun y12=>
 let v13:=([y1.1]:List Int)
 (bT.F (y12.1,v13,())).bind fun Sm=>
 some ((Sm.1.1,Sm.1.2),()))
 else((mM.F (a1.2,a0.2,())).bind fun O9=>
 let v16:=([y2.1]:List Int)
 (bT.F (O9.1,v16,())).bind fun Yd=>
 some ((Yd.1.1,Yd.1.2),())))
theorem of (k:Nat)(a0:dK)(a1:dK){y:dK×Unit}(h:e a0 a1=some y):F (a0,a1,())=some y:=aV k (.trans (by kernel_rfl) h)
end tV
namespace tX
def spec:Spec:=⟨[(true,oD)],[(true,oD)],.own,fun j=>match j with|_=>[]⟩
def au:ak:=(ak.cons 109 eX.sig (ak.cons 111 bT.sig (ak.base aJ)))
def sig:kH:=spec.sig au T Tryz.f121
def F (x:dK×Unit):Option (dK×Unit):=eF spec au T Tryz.f121 x
theorem ck:ah Tryz.prog au:=(ah.cons eX.bU (ah.cons bT.bU (ah.base aX)))
theorem bU:bW Tryz.prog aJ 121 sig:=fC aH ck mix Tryz.func121 (by kernel_rfl)
def e (a0:dK):Option (dK×Unit):=
 (eX.F ((a0.1,a0.2),())).bind fun y1=>
 let v2:=([(-1:Int),y1.1]:List Int)
 (bT.F (a0.2,v2,())).bind fun y3=>
 some ((y3.1.1,y3.1.2),())
theorem of (k:Nat)(a0:dK){y:dK×Unit}(h:e a0=some y):F (a0,())=some y:=aV k (.trans (by kernel_rfl) h)
end tX
namespace tY
def spec:Spec:=⟨[(true,oD),(true,oD)],[(true,oD)],.own,fun j=>match j with|_=>[]⟩
def au:ak:=(ak.cons 121 tX.sig (ak.cons 120 tV.sig (ak.base aJ)))
def sig:kH:=spec.sig au T Tryz.f110
def F (x:dK×dK×Unit):Option (dK×Unit):=eF spec au T Tryz.f110 x
theorem ck:ah Tryz.prog au:=(ah.cons tX.bU (ah.cons tV.bU (ah.base aX)))
theorem bU:bW Tryz.prog aJ 110 sig:=fC aH ck mix Tryz.func110 (by kernel_rfl)
def e (a0:dK)(a1:dK):Option (dK×Unit):=
 (tX.F ((a1.1,a1.2),())).bind fun y1=>
 (tV.F ((a0.1,a0.2),(y1.1.1,y1.1.2),())).bind fun y2=>
 some ((y2.1.1,y2.1.2),())
theorem of (k:Nat)(a0:dK)(a1:dK){y:dK×Unit}(h:e a0 a1=some y):F (a0,a1,())=some y:=aV k (.trans (by kernel_rfl) h)
end tY
namespace tZ
def spec:Spec:=⟨[(true,oD),(true,oD)],[(false,(.int .i64))],.own,fun j=>match j with|_=>[]⟩
def au:ak:=(ak.cons 110 tY.sig (ak.cons 109 eX.sig (ak.base aJ)))
def sig:kH:=spec.sig au T Tryz.f100
def F (x:dK×dK×Unit):Option (Int×Unit):=eF spec au T Tryz.f100 x
theorem ck:ah Tryz.prog au:=(ah.cons tY.bU (ah.cons eX.bU (ah.base aX)))
theorem bU:bW Tryz.prog aJ 100 sig:=fC aH ck mix Tryz.func100 (by kernel_rfl)
def e (a0:dK)(a1:dK):Option (Int×Unit):=
 (tY.F ((a0.1,a0.2),(a1.1,a1.2),())).bind fun y1=>
 (eX.F ((y1.1.1,y1.1.2),())).bind fun y2=>
 some (y2.1,())
theorem of (k:Nat)(a0:dK)(a1:dK){y:Int×Unit}(h:e a0 a1=some y):F (a0,a1,())=some y:=aV k (.trans (by kernel_rfl) h)
end tZ
namespace jP
def spec:Spec:=⟨[(false,dI),(false,dI)],[(false,dI)],.own,fun j=>match j with|4=>[(0,.lf (.z 114 (.int .u32) false)),(1,.lf (.z 114 (.int .u32) false)),(5,.lf (.o 114 (.int .u32) true)),(21,.lf (.v true)),(22,.lf (.v true))]|8=>[(0,.lf (.z 114 (.int .u32) false)),(1,.lf (.z 114 (.int .u32) false)),(5,.lf (.o 114 (.int .u32) true)),(6,.lf (.v true)),(7,.lf (.v true)),(21,.lf (.v true)),(22,.lf (.v true)),(26,.lf (.v true)),(27,.lf (.v true))]|_=>[]⟩
def au:ak:=(ak.cons 104 dY.sig (ak.cons 115 iD.sig (ak.base aJ)))
def sig:kH:=spec.sig au T Tryz.f112
def F (x:aj×aj×Unit):Option (aj×Unit):=eF spec au T Tryz.f112 x
theorem ck:ah Tryz.prog au:=(ah.cons dY.bU (ah.cons iD.bU (ah.base aX)))
theorem bU:bW Tryz.prog aJ 112 sig:=fC aH ck mix Tryz.func112 (by kernel_rfl)
def m4 (x0:aj)(x1:aj)(x5:aj)(x21:Int)(sS:Int):S:=⟨[(0,.one (.lf (.val false dI x0))),(1,.one (.lf (.val false dI x1))),(5,.one (.lf (.own 0))),(21,.one (.lf (.val true (.int .i64) x21))),(22,.one (.lf (.val true (.int .i64) sS)))],⟨[some ⟨114,(.int .u32),true,true,x5⟩],[]⟩⟩
def m8 (x0:aj)(x1:aj)(x5:aj)(x6:Int)(x7:Int)(x21:Int)(sS:Int)(x26:Int)(x27:Int):S:=⟨[(0,.one (.lf (.val false dI x0))),(1,.one (.lf (.val false dI x1))),(5,.one (.lf (.own 0))),(6,.one (.lf (.val true (.int .i64) x6))),(7,.one (.lf (.val true (.int .u64) x7))),(21,.one (.lf (.val true (.int .i64) x21))),(22,.one (.lf (.val true (.int .i64) sS))),(26,.one (.lf (.val true (.int .i64) x26))),(27,.one (.lf (.val true (.int .i64) x27)))],⟨[some ⟨114,(.int .u32),true,true,x5⟩],[]⟩⟩
def b4 (f4:aj→aj→aj→Int→Int→Option (aj×Unit))(f8:aj→aj→aj→Int→Int→Int→Int→Int→Int→Option (aj×Unit))(x0:aj)(x1:aj)(x5:aj)(x21:Int)(sS:Int):Option (aj×Unit):=
 let v1:=decide (sS<x21)
 bif v1 then(let v2:=(List.length x1:Int)
 f8 x0 x1 x5 sS (0:Int) x21 sS v2 (0:Int))
 else((iD.F (x5,())).bind fun y3=>
 some (y3.1,()))
def b8 (f4:aj→aj→aj→Int→Int→Option (aj×Unit))(f8:aj→aj→aj→Int→Int→Int→Int→Int→Int→Option (aj×Unit))(x0:aj)(x1:aj)(x5:aj)(x6:Int)(x7:Int)(x21:Int)(sS:Int)(x26:Int)(x27:Int):Option (aj×Unit):=
 let v1:=decide (x27<x26)
 bif v1 then(bif decide (0≤x6)&&decide (x6<(List.length x0:Int))then(let v2:=List.getD x0 (Int.toNat x6) (0:Int)
 let v3:=IntKind.u64.wrap v2
 bif decide (0≤x27)&&decide (x27<(List.length x1:Int))then(let v4:=List.getD x1 (Int.toNat x27) (0:Int)
 let v5:=IntKind.u64.wrap v4
 let v6:=IntKind.u64.wrap (v3*v5)
 let v7:=IntKind.i64.wrap (x6+x27)
 bif decide (0≤v7)&&decide (v7<(List.length x5:Int))then(let v8:=List.getD x5 (Int.toNat v7) (0:Int)
 let v9:=IntKind.u64.wrap v8
 let v10:=IntKind.u64.wrap (v6+v9)
 let v11:=IntKind.u64.wrap (v10+x7)
 let v12:=IntKind.i64.wrap (x6+x27)
 let v13:=IntKind.u32.wrap v11
 bif decide (0≤v12)&&decide (v12<(List.length x5:Int))then(let v14:=List.set x5 (Int.toNat v12) v13
 bif decide ((32:Int)<0)then none
 else(let v15:=oV .u64 v11 (32:Int)
 let v16:=IntKind.i64.wrap (x27+(1:Int))
 f8 x0 x1 v14 x6 v15 x21 sS x26 v16))
 else none)
 else none)
 else none)
 else none)
 else(let v17:=(List.length x1:Int)
 let v18:=IntKind.i64.wrap (x6+v17)
 let v19:=IntKind.u32.wrap x7
 bif decide (0≤v18)&&decide (v18<(List.length x5:Int))then(let v20:=List.set x5 (Int.toNat v18) v19
 let v21:=IntKind.i64.wrap (sS+(1:Int))
 f4 x0 x1 v20 x21 v21)
 else none)
def e (f4:aj→aj→aj→Int→Int→Option (aj×Unit))(f8:aj→aj→aj→Int→Int→Int→Int→Int→Int→Option (aj×Unit))(a0:aj)(a1:aj):Option (aj×Unit):=
 (dY.F (a0,())).bind fun y1=>
 (dY.F (a1,())).bind fun y2=>
 let v3:=(List.length y1.1:Int)
 let v4:=(List.length y2.1:Int)
 let v5:=IntKind.i64.wrap (v3+v4)
 bif decide (0≤v5)&&(decide (v5≤v5)&&(decide (Int.toNat v5*4≤281474976710656)&&Nat.blt 0 4))then(let v6:=List.replicate (Int.toNat v5) (0:Int)
 let v7:=(List.length y1.1:Int)
 f4 y1.1 y2.1 v6 v7 (0:Int))
 else none
def L4 (k:Nat)(x0:aj)(x1:aj)(x5:aj)(x21:Int)(sS:Int):Option (aj×Unit):=gB (spec.env au T Tryz.f112) (Func.lN Tryz.f112) k 4 (m4 x0 x1 x5 x21 sS)
def L8 (k:Nat)(x0:aj)(x1:aj)(x5:aj)(x6:Int)(x7:Int)(x21:Int)(sS:Int)(x26:Int)(x27:Int):Option (aj×Unit):=gB (spec.env au T Tryz.f112) (Func.lN Tryz.f112) k 8 (m8 x0 x1 x5 x6 x7 x21 sS x26 x27)
theorem iW (k:Nat)(x0:aj)(x1:aj)(x5:aj)(x21:Int)(sS:Int):L4 (k+1) x0 x1 x5 x21 sS=b4 (L4 k) (L8 k) x0 x1 x5 x21 sS:=by kernel_rfl
theorem Ye (k:Nat)(x0:aj)(x1:aj)(x5:aj)(x6:Int)(x7:Int)(x21:Int)(sS:Int)(x26:Int)(x27:Int):L8 (k+1) x0 x1 x5 x6 x7 x21 sS x26 x27=b8 (L4 k) (L8 k) x0 x1 x5 x6 x7 x21 sS x26 x27:=by kernel_rfl
theorem of (k:Nat)(a0:aj)(a1:aj){y:aj×Unit}(h:e (L4 k) (L8 k) a0 a1=some y):F (a0,a1,())=some y:=aV k (.trans (by kernel_rfl) h)
end jP
namespace qX
def spec:Spec:=⟨[(true,oD),(true,oD)],[(true,oD)],.own,fun j=>match j with|_=>[]⟩
def au:ak:=(ak.cons 112 jP.sig (ak.cons 109 eX.sig (ak.cons 111 bT.sig (ak.base aJ))))
def sig:kH:=spec.sig au T Tryz.f101
def F (x:dK×dK×Unit):Option (dK×Unit):=eF spec au T Tryz.f101 x
theorem ck:ah Tryz.prog au:=(ah.cons jP.bU (ah.cons eX.bU (ah.cons bT.bU (ah.base aX))))
theorem bU:bW Tryz.prog aJ 101 sig:=fC aH ck mix Tryz.func101 (by kernel_rfl)
def e (a0:dK)(a1:dK):Option (dK×Unit):=
 (jP.F (a0.2,a1.2,())).bind fun y1=>
 (eX.F ((a0.1,a0.2),())).bind fun y2=>
 (eX.F ((a1.1,a1.2),())).bind fun y3=>
 let v4:=([y2.1,y3.1]:List Int)
 (bT.F (y1.1,v4,())).bind fun y5=>
 some ((y5.1.1,y5.1.2),())
theorem of (k:Nat)(a0:dK)(a1:dK){y:dK×Unit}(h:e a0 a1=some y):F (a0,a1,())=some y:=aV k (.trans (by kernel_rfl) h)
end qX
namespace t_
def spec:Spec:=⟨[(true,pq),(true,pq)],[(false,(.int .i64))],.own,fun j=>match j with|_=>[]⟩
def au:ak:=(ak.cons 88 l9.sig (ak.cons 101 qX.sig (ak.cons 100 tZ.sig (ak.base aJ))))
def sig:kH:=spec.sig au T Tryz.f89
def F (x:fP×fP×Unit):Option (Int×Unit):=eF spec au T Tryz.f89 x
theorem ck:ah Tryz.prog au:=(ah.cons l9.bU (ah.cons qX.bU (ah.cons tZ.bU (ah.base aX))))
theorem bU:bW Tryz.prog aJ 89 sig:=fC aH ck mix Tryz.func89 (by kernel_rfl)
def e (a0:fP)(a1:fP):Option (Int×Unit):=
 (l9.F (((a0.1.1,a0.1.2),a0.2),())).bind fun y1=>
 (l9.F (((a1.1.1,a1.1.2),a1.2),())).bind fun y2=>
 (qX.F ((y1.1.1.1,y1.1.1.2),(false,y2.1.2),())).bind fun y3=>
 (qX.F ((y2.1.1.1,y2.1.1.2),(false,y1.1.2),())).bind fun y4=>
 (tZ.F ((y3.1.1,y3.1.2),(y4.1.1,y4.1.2),())).bind fun y5=>
 some (y5.1,())
theorem of (k:Nat)(a0:fP)(a1:fP){y:Int×Unit}(h:e a0 a1=some y):F (a0,a1,())=some y:=aV k (.trans (by kernel_rfl) h)
end t_
namespace qo
def spec:Spec:=⟨[(true,nX),(true,nX)],[(false,(.int .i64))],.own,fun j=>match j with|_=>[]⟩
def au:ak:=(ak.cons 89 t_.sig (ak.base aJ))
def sig:kH:=spec.sig au T Tryz.f68
def F (x:cu×cu×Unit):Option (Int×Unit):=eF spec au T Tryz.f68 x
theorem ck:ah Tryz.prog au:=(ah.cons t_.bU (ah.base aX))
theorem bU:bW Tryz.prog aJ 68 sig:=fC aH ck mix Tryz.func68 (by kernel_rfl)
def e (a0:cu)(a1:cu):Option (Int×Unit):=
 (t_.F (((a0.1.1.1,a0.1.1.2),a0.1.2),((a1.1.1.1,a1.1.1.2),a1.1.2),())).bind fun y1=>
 let v2:=(y1.1 != (0:Int))
 bif v2 then(some (y1.1,()))
 else((t_.F (((a0.2.1.1,a0.2.1.2),a0.2.2),((a1.2.1.1,a1.2.1.2),a1.2.2),())).bind fun y3=>
 some (y3.1,()))
theorem of (k:Nat)(a0:cu)(a1:cu){y:Int×Unit}(h:e a0 a1=some y):F (a0,a1,())=some y:=aV k (.trans (by kernel_rfl) h)
end qo
namespace dW
def spec:Spec:=⟨[(true,zV),(true,nX)],[(false,.bool)],.own,fun j=>match j with|_=>[]⟩
def au:ak:=(ak.cons 68 qo.sig (ak.base aJ))
def sig:kH:=spec.sig au T Tryz.f49
def F (x:jL×cu×Unit):Option (Bool×Unit):=eF spec au T Tryz.f49 x
theorem ck:ah Tryz.prog au:=(ah.cons qo.bU (ah.base aX))
theorem bU:bW Tryz.prog aJ 49 sig:=fC aH ck mix Tryz.func49 (by kernel_rfl)
def e (a0:jL)(a1:cu):Option (Bool×Unit):=
 bif a0.1 then((qo.F ((((a0.2.1.1.1.1,a0.2.1.1.1.2),a0.2.1.1.2),((a0.2.1.2.1.1,a0.2.1.2.1.2),a0.2.1.2.2)),(((a1.1.1.1,a1.1.1.2),a1.1.2),((a1.2.1.1,a1.2.1.2),a1.2.2)),())).bind fun y1=>
 let v2:=decide (y1.1<(0:Int))
 some (v2,()))
 else(some (false,()))
theorem of (k:Nat)(a0:jL)(a1:cu){y:Bool×Unit}(h:e a0 a1=some y):F (a0,a1,())=some y:=aV k (.trans (by kernel_rfl) h)
end dW
namespace dB
def spec:jH:=⟨some ⟨81,0,Jr,0⟩,false,[],false,none,[(false,.bool)],false,fun j=>match j with|_=>[],99⟩
def au:ak:=(ak.base aJ)
def sig:rP:=spec.sig au T Tryz.f36
def F (d:cO)(x:Unit):Option (Unit×(Bool×Unit)×cO):=yE spec au T Tryz.f36 d x
theorem ck:ah Tryz.prog au:=(ah.base aX)
theorem bU:Oz Tryz.prog aJ 36 sig:=Dq aH ck mix Tryz.func36 (by kernel_rfl)
def e (G:Gh)(d:cO):Option ((Unit×(Bool×Unit)×cO)×Nat×List Value):=
 some (((),(d.2.1,()),((d.1.1,d.1.2),(d.2.1,d.2.2))),G.b,[])
theorem of (d:cO)(y:(Unit×(Bool×Unit)×cO))(h:∀G:Gh,∃k:Nat,e G d=some (y,(G.b,[]))):F d ()=some y:=nO (q:=spec) y fun G=>(h G).imp fun k hk=> .trans (by kernel_rfl) hk
end dB
namespace dR
def spec:jH:=⟨some ⟨81,0,Jr,0⟩,false,[(false,(.int .i64))],false,none,[(false,(.int .i64))],false,fun j=>match j with|_=>[],99⟩
def au:ak:=(ak.h_ 36 false dB.sig (ak.base aJ))
def sig:rP:=spec.sig au T Tryz.f55
def F (d:cO)(x:Int×Unit):Option (Unit×(Int×Unit)×cO):=yE spec au T Tryz.f55 d x
theorem ck:ah Tryz.prog au:=(ah.h_ dB.bU (ah.base aX))
theorem bU:Oz Tryz.prog aJ 55 sig:=Dq aH ck mix Tryz.func55 (by kernel_rfl)
def e (G:Gh)(d:cO)(a0:Int):Option ((Unit×(Int×Unit)×cO)×Nat×List Value):=
 (dB.F ((d.1.1,d.1.2),(d.2.1,d.2.2)) ()).bind fun y1=>
 let v2:=not y1.2.1.1
 bif v2 then(some (((),((1:Int),()),((y1.2.2.1.1,y1.2.2.1.2),(y1.2.2.2.1,y1.2.2.2.2))),G.b,[]))
 else(let v3:=decide (a0<(0:Int))
 bif v3 then(some (((),((61:Int),()),((y1.2.2.1.1,y1.2.2.1.2),(y1.2.2.2.1,y1.2.2.2.2))),G.b,[]))
 else(let v4:=(List.length y1.2.2.2.2:Int)
 let v5:=decide (a0≥v4)
 bif v5 then(some (((),((61:Int),()),((y1.2.2.1.1,y1.2.2.1.2),(y1.2.2.2.1,y1.2.2.2.2))),G.b,[]))
 else(some (((),((0:Int),()),((y1.2.2.1.1,y1.2.2.1.2),(y1.2.2.2.1,y1.2.2.2.2))),G.b,[]))))
theorem of (d:cO)(a0:Int)(y:(Unit×(Int×Unit)×cO))(h:∀G:Gh,∃k:Nat,e G d a0=some (y,(G.b,[]))):F d (a0,())=some y:=nO (q:=spec) y fun G=>(h G).imp fun k hk=> .trans (by kernel_rfl) hk
end dR
namespace iT
def spec:Spec:=⟨[(true,nX)],[(true,nX)],.own,fun j=>match j with|_=>[]⟩
def au:ak:=(ak.cons 88 l9.sig (ak.base aJ))
def sig:kH:=spec.sig au T Tryz.f62
def F (x:cu×Unit):Option (cu×Unit):=eF spec au T Tryz.f62 x
theorem ck:ah Tryz.prog au:=(ah.cons l9.bU (ah.base aX))
theorem bU:bW Tryz.prog aJ 62 sig:=fC aH ck mix Tryz.func62 (by kernel_rfl)
def e (a0:cu):Option (cu×Unit):=
 (l9.F (((a0.1.1.1,a0.1.1.2),a0.1.2),())).bind fun y1=>
 (l9.F (((a0.2.1.1,a0.2.1.2),a0.2.2),())).bind fun y2=>
 some ((((y1.1.1.1,y1.1.1.2),y1.1.2),((y2.1.1.1,y2.1.1.2),y2.1.2)),())
theorem of (k:Nat)(a0:cu){y:cu×Unit}(h:e a0=some y):F (a0,())=some y:=aV k (.trans (by kernel_rfl) h)
end iT
namespace fJ
def spec:jH:=⟨some ⟨81,0,afS,2⟩,false,[(false,(.int .i64)),(false,.bool),(true,zV)],false,none,[],false,fun j=>match j with|_=>[],99⟩
def au:ak:=(ak.yY [21] (ak.base aJ))
def sig:rP:=spec.sig au T Tryz.f61
def F (d:Eb)(x:Int×Bool×jL×Unit):Option (Unit×(Unit)×Eb):=yE spec au T Tryz.f61 d x
theorem ck:ah Tryz.prog au:=(ah.yY [21] (ah.base aX))
theorem bU:Oz Tryz.prog aJ 61 sig:=Dq aH ck mix Tryz.func61 (by kernel_rfl)
def e (G:Gh)(d:Eb)(a0:Int)(a1:Bool)(a2:jL):Option ((Unit×(Unit)×Eb)×Nat×List Value):=
 let v1:=([(a0,(a1,(d.1,(a2.1,((((a2.2.1.1.1.1,a2.2.1.1.1.2),a2.2.1.1.2),((a2.2.1.2.1.1,a2.2.1.2.1.2),a2.2.1.2.2)),a2.2.2)))))]:List bZ)
 bif decide (List.length d.2+List.length v1<925904528653)then(let v2:=List.append d.2 v1
 some (((),(),(d.1,v2)),G.b,[G.v 0,G.v 1]))
 else none
theorem of (d:Eb)(a0:Int)(a1:Bool)(a2:jL)(y:(Unit×(Unit)×Eb))(h:∀G:Gh,∃k:Nat,e G d a0 a1 a2=some (y,(G.b,[G.v 0,G.v 1]))):F d (a0,a1,a2,())=some y:=nO (q:=spec) y fun G=>(h G).imp fun k hk=> .trans (by kernel_rfl) hk
end fJ
namespace iE
def spec:jH:=⟨some ⟨81,0,Jr,0⟩,false,[(false,(.int .i64)),(true,nX),(false,(.int .i64))],false,none,[(true,ajs),(false,(.int .i64))],false,fun j=>match j with|_=>[],0⟩
def au:ak:=(ak.h_ 55 false dR.sig (ak.h_ 61 false fJ.sig (ak.cons 49 dW.sig (ak.cons 62 iT.sig (ak.base aJ)))))
def sig:rP:=spec.sig au T Tryz.f27
def F (d:cO)(x:Int×cu×Int×Unit):Option (Unit×(NT×Int×Unit)×cO):=yE spec au T Tryz.f27 d x
theorem ck:ah Tryz.prog au:=(ah.h_ dR.bU (ah.h_ fJ.bU (ah.cons dW.bU (ah.cons iT.bU (ah.base aX)))))
theorem bU:Oz Tryz.prog aJ 27 sig:=Dq aH ck mix Tryz.func27 (by kernel_rfl)
def e (G:Gh)(d:cO)(a0:Int)(a1:cu)(a2:Int):Option ((Unit×(NT×Int×Unit)×cO)×Nat×List Value):=
 (dR.F ((d.1.1,d.1.2),(d.2.1,d.2.2)) (a0,())).bind fun y1=>
 let v2:=(y1.2.1.1 != (0:Int))
 bif v2 then(some (((),(WV,y1.2.1.1,()),((y1.2.2.1.1,y1.2.2.1.2),(y1.2.2.2.1,y1.2.2.2.2))),G.b,[]))
 else(bif decide (0≤a0)&&decide (a0<(List.length y1.2.2.2.2:Int))then(let v3:=((List.getD y1.2.2.2.2 (Int.toNat a0) aA).1).1
 bif v3 then(let v4:=((List.getD y1.2.2.2.2 (Int.toNat a0) aA).1).1
 let v5:=((((((List.getD y1.2.2.2.2 (Int.toNat a0) aA).1).2).1).1).1).1
 let v6:=((((((List.getD y1.2.2.2.2 (Int.toNat a0) aA).1).2).1).1).1).2
 let v7:=(((((List.getD y1.2.2.2.2 (Int.toNat a0) aA).1).2).1).1).2
 let v8:=((((((List.getD y1.2.2.2.2 (Int.toNat a0) aA).1).2).1).2).1).1
 let v9:=((((((List.getD y1.2.2.2.2 (Int.toNat a0) aA).1).2).1).2).1).2
 let v10:=(((((List.getD y1.2.2.2.2 (Int.toNat a0) aA).1).2).1).2).2
 let v11:=(((List.getD y1.2.2.2.2 (Int.toNat a0) aA).1).2).2
 (dW.F ((v4,((((v5,v6),v7),((v8,v9),v10)),v11)),(((a1.1.1.1,a1.1.1.2),a1.1.2),((a1.2.1.1,a1.2.1.2),a1.2.2)),())).bind fun y12=>
 let v13:=not y12.1
 bif v13 then(some (((),(WV,(0:Int),()),((y1.2.2.1.1,y1.2.2.1.2),(y1.2.2.2.1,y1.2.2.2.2))),G.b,[]))
 else(let v14:=((List.getD y1.2.2.2.2 (Int.toNat a0) aA).2).1
 let v15:=((((((List.getD y1.2.2.2.2 (Int.toNat a0) aA).2).2).1).1).1).1
 let v16:=((((((List.getD y1.2.2.2.2 (Int.toNat a0) aA).2).2).1).1).1).2
 let v17:=(((((List.getD y1.2.2.2.2 (Int.toNat a0) aA).2).2).1).1).2
 let v18:=((((((List.getD y1.2.2.2.2 (Int.toNat a0) aA).2).2).1).2).1).1
 let v19:=((((((List.getD y1.2.2.2.2 (Int.toNat a0) aA).2).2).1).2).1).2
 let v20:=(((((List.getD y1.2.2.2.2 (Int.toNat a0) aA).2).2).1).2).2
 let v21:=(((List.getD y1.2.2.2.2 (Int.toNat a0) aA).2).2).2
 (dW.F ((v14,((((v15,v16),v17),((v18,v19),v20)),v21)),(((a1.1.1.1,a1.1.1.2),a1.1.2),((a1.2.1.1,a1.2.1.2),a1.2.2)),())).bind fun y22=>
 bif y22.1 then(let v23:=(((List.getD y1.2.2.2.2 (Int.toNat a0) aA).2).2).2
 some (((),(((2:Int),v23),(0:Int),()),((y1.2.2.1.1,y1.2.2.1.2),(y1.2.2.2.1,y1.2.2.2.2))),G.b,[]))
 else(let v24:=((List.getD y1.2.2.2.2 (Int.toNat a0) aA).1).1
 let v25:=((((((List.getD y1.2.2.2.2 (Int.toNat a0) aA).1).2).1).1).1).1
 let v26:=((((((List.getD y1.2.2.2.2 (Int.toNat a0) aA).1).2).1).1).1).2
 let v27:=(((((List.getD y1.2.2.2.2 (Int.toNat a0) aA).1).2).1).1).2
 let v28:=((((((List.getD y1.2.2.2.2 (Int.toNat a0) aA).1).2).1).2).1).1
 let v29:=((((((List.getD y1.2.2.2.2 (Int.toNat a0) aA).1).2).1).2).1).2
 let v30:=(((((List.getD y1.2.2.2.2 (Int.toNat a0) aA).1).2).1).2).2
 let v31:=(((List.getD y1.2.2.2.2 (Int.toNat a0) aA).1).2).2
 (fJ.F (y1.2.2.1.1,y1.2.2.1.2) (a0,false,(v24,((((v25,v26),v27),((v28,v29),v30)),v31)),())).bind fun y32=>
 (iT.F ((((a1.1.1.1,a1.1.1.2),a1.1.2),((a1.2.1.1,a1.2.1.2),a1.2.2)),())).bind fun JY=>
 let v34:=List.set y1.2.2.2.2 (Int.toNat a0) ((true,((((JY.1.1.1.1,JY.1.1.1.2),JY.1.1.2),((JY.1.2.1.1,JY.1.2.1.2),JY.1.2.2)),a2)),(((List.getD y1.2.2.2.2 (Int.toNat a0) aA).2).1,((((((((((List.getD y1.2.2.2.2 (Int.toNat a0) aA).2).2).1).1).1).1,((((((List.getD y1.2.2.2.2 (Int.toNat a0) aA).2).2).1).1).1).2),(((((List.getD y1.2.2.2.2 (Int.toNat a0) aA).2).2).1).1).2),((((((((List.getD y1.2.2.2.2 (Int.toNat a0) aA).2).2).1).2).1).1,((((((List.getD y1.2.2.2.2 (Int.toNat a0) aA).2).2).1).2).1).2),(((((List.getD y1.2.2.2.2 (Int.toNat a0) aA).2).2).1).2).2)),(((List.getD y1.2.2.2.2 (Int.toNat a0) aA).2).2).2)))
 some (((),(((1:Int),(0:Int)),(0:Int),()),((y32.2.2.1,y32.2.2.2),(y1.2.2.2.1,v34))),G.b,[]))))
 else(let v35:=((List.getD y1.2.2.2.2 (Int.toNat a0) aA).2).1
 let v36:=((((((List.getD y1.2.2.2.2 (Int.toNat a0) aA).2).2).1).1).1).1
 let v37:=((((((List.getD y1.2.2.2.2 (Int.toNat a0) aA).2).2).1).1).1).2
 let v38:=(((((List.getD y1.2.2.2.2 (Int.toNat a0) aA).2).2).1).1).2
 let v39:=((((((List.getD y1.2.2.2.2 (Int.toNat a0) aA).2).2).1).2).1).1
 let v40:=((((((List.getD y1.2.2.2.2 (Int.toNat a0) aA).2).2).1).2).1).2
 let v41:=(((((List.getD y1.2.2.2.2 (Int.toNat a0) aA).2).2).1).2).2
 let v42:=(((List.getD y1.2.2.2.2 (Int.toNat a0) aA).2).2).2
 (dW.F ((v35,((((v36,v37),v38),((v39,v40),v41)),v42)),(((a1.1.1.1,a1.1.1.2),a1.1.2),((a1.2.1.1,a1.2.1.2),a1.2.2)),())).bind fun y43=>
 bif y43.1 then(let v44:=(((List.getD y1.2.2.2.2 (Int.toNat a0) aA).2).2).2
 some (((),(((2:Int),v44),(0:Int),()),((y1.2.2.1.1,y1.2.2.1.2),(y1.2.2.2.1,y1.2.2.2.2))),G.b,[]))
 else(let v45:=((List.getD y1.2.2.2.2 (Int.toNat a0) aA).1).1
 let v46:=((((((List.getD y1.2.2.2.2 (Int.toNat a0) aA).1).2).1).1).1).1
 let v47:=((((((List.getD y1.2.2.2.2 (Int.toNat a0) aA).1).2).1).1).1).2
 let v48:=(((((List.getD y1.2.2.2.2 (Int.toNat a0) aA).1).2).1).1).2
 let v49:=((((((List.getD y1.2.2.2.2 (Int.toNat a0) aA).1).2).1).2).1).1
 let v50:=((((((List.getD y1.2.2.2.2 (Int.toNat a0) aA).1).2).1).2).1).2
 let v51:=(((((List.getD y1.2.2.2.2 (Int.toNat a0) aA).1).2).1).2).2
 let v52:=(((List.getD y1.2.2.2.2 (Int.toNat a0) aA).1).2).2
 (fJ.F (y1.2.2.1.1,y1.2.2.1.2) (a0,false,(v45,((((v46,v47),v48),((v49,v50),v51)),v52)),())).bind fun Sr=>
 (iT.F ((((a1.1.1.1,a1.1.1.2),a1.1.2),((a1.2.1.1,a1.2.1.2),a1.2.2)),())).bind fun Z5=>
 let v55:=List.set y1.2.2.2.2 (Int.toNat a0) ((true,((((Z5.1.1.1.1,Z5.1.1.1.2),Z5.1.1.2),((Z5.1.2.1.1,Z5.1.2.1.2),Z5.1.2.2)),a2)),(((List.getD y1.2.2.2.2 (Int.toNat a0) aA).2).1,((((((((((List.getD y1.2.2.2.2 (Int.toNat a0) aA).2).2).1).1).1).1,((((((List.getD y1.2.2.2.2 (Int.toNat a0) aA).2).2).1).1).1).2),(((((List.getD y1.2.2.2.2 (Int.toNat a0) aA).2).2).1).1).2),((((((((List.getD y1.2.2.2.2 (Int.toNat a0) aA).2).2).1).2).1).1,((((((List.getD y1.2.2.2.2 (Int.toNat a0) aA).2).2).1).2).1).2),(((((List.getD y1.2.2.2.2 (Int.toNat a0) aA).2).2).1).2).2)),(((List.getD y1.2.2.2.2 (Int.toNat a0) aA).2).2).2)))
 some (((),(((1:Int),(0:Int)),(0:Int),()),((Sr.2.2.1,Sr.2.2.2),(y1.2.2.2.1,v55))),G.b,[]))))
 else none)
theorem of (d:cO)(a0:Int)(a1:cu)(a2:Int)(y:(Unit×(NT×Int×Unit)×cO))(h:∀G:Gh,∃k:Nat,e G d a0 a1 a2=some (y,(G.b,[]))):F d (a0,a1,a2,())=some y:=nO (q:=spec) y fun G=>(h G).imp fun k hk=> .trans (by kernel_rfl) hk
end iE
namespace iO
def spec:Spec:=⟨[(true,zV),(true,nX)],[(false,.bool)],.own,fun j=>match j with|_=>[]⟩
def au:ak:=(ak.cons 68 qo.sig (ak.base aJ))
def sig:kH:=spec.sig au T Tryz.f63
def F (x:jL×cu×Unit):Option (Bool×Unit):=eF spec au T Tryz.f63 x
theorem ck:ah Tryz.prog au:=(ah.cons qo.bU (ah.base aX))
theorem bU:bW Tryz.prog aJ 63 sig:=fC aH ck mix Tryz.func63 (by kernel_rfl)
def e (a0:jL)(a1:cu):Option (Bool×Unit):=
 bif a0.1 then((qo.F ((((a0.2.1.1.1.1,a0.2.1.1.1.2),a0.2.1.1.2),((a0.2.1.2.1.1,a0.2.1.2.1.2),a0.2.1.2.2)),(((a1.1.1.1,a1.1.1.2),a1.1.2),((a1.2.1.1,a1.2.1.2),a1.2.2)),())).bind fun y1=>
 let v2:=decide (y1.1>(0:Int))
 some (v2,()))
 else(some (false,()))
theorem of (k:Nat)(a0:jL)(a1:cu){y:Bool×Unit}(h:e a0 a1=some y):F (a0,a1,())=some y:=aV k (.trans (by kernel_rfl) h)
end iO
namespace gW
def spec:jH:=⟨some ⟨81,0,Jr,0⟩,false,[(false,(.int .i64)),(true,nX),(false,(.int .i64))],false,none,[(true,ajs),(false,(.int .i64))],false,fun j=>match j with|_=>[],0⟩
def au:ak:=(ak.h_ 55 false dR.sig (ak.h_ 61 false fJ.sig (ak.cons 63 iO.sig (ak.cons 62 iT.sig (ak.base aJ)))))
def sig:rP:=spec.sig au T Tryz.f28
def F (d:cO)(x:Int×cu×Int×Unit):Option (Unit×(NT×Int×Unit)×cO):=yE spec au T Tryz.f28 d x
theorem ck:ah Tryz.prog au:=(ah.h_ dR.bU (ah.h_ fJ.bU (ah.cons iO.bU (ah.cons iT.bU (ah.base aX)))))
theorem bU:Oz Tryz.prog aJ 28 sig:=Dq aH ck mix Tryz.func28 (by kernel_rfl)
def e (G:Gh)(d:cO)(a0:Int)(a1:cu)(a2:Int):Option ((Unit×(NT×Int×Unit)×cO)×Nat×List Value):=
 (dR.F ((d.1.1,d.1.2),(d.2.1,d.2.2)) (a0,())).bind fun y1=>
 let v2:=(y1.2.1.1 != (0:Int))
 bif v2 then(some (((),(WV,y1.2.1.1,()),((y1.2.2.1.1,y1.2.2.1.2),(y1.2.2.2.1,y1.2.2.2.2))),G.b,[]))
 else(bif decide (0≤a0)&&decide (a0<(List.length y1.2.2.2.2:Int))then(let v3:=((List.getD y1.2.2.2.2 (Int.toNat a0) aA).2).1
 bif v3 then(let v4:=((List.getD y1.2.2.2.2 (Int.toNat a0) aA).2).1
 let v5:=((((((List.getD y1.2.2.2.2 (Int.toNat a0) aA).2).2).1).1).1).1
 let v6:=((((((List.getD y1.2.2.2.2 (Int.toNat a0) aA).2).2).1).1).1).2
 let v7:=(((((List.getD y1.2.2.2.2 (Int.toNat a0) aA).2).2).1).1).2
 let v8:=((((((List.getD y1.2.2.2.2 (Int.toNat a0) aA).2).2).1).2).1).1
 let v9:=((((((List.getD y1.2.2.2.2 (Int.toNat a0) aA).2).2).1).2).1).2
 let v10:=(((((List.getD y1.2.2.2.2 (Int.toNat a0) aA).2).2).1).2).2
 let v11:=(((List.getD y1.2.2.2.2 (Int.toNat a0) aA).2).2).2
 (iO.F ((v4,((((v5,v6),v7),((v8,v9),v10)),v11)),(((a1.1.1.1,a1.1.1.2),a1.1.2),((a1.2.1.1,a1.2.1.2),a1.2.2)),())).bind fun y12=>
 let v13:=not y12.1
 bif v13 then(some (((),(WV,(0:Int),()),((y1.2.2.1.1,y1.2.2.1.2),(y1.2.2.2.1,y1.2.2.2.2))),G.b,[]))
 else(let v14:=((List.getD y1.2.2.2.2 (Int.toNat a0) aA).1).1
 let v15:=((((((List.getD y1.2.2.2.2 (Int.toNat a0) aA).1).2).1).1).1).1
 let v16:=((((((List.getD y1.2.2.2.2 (Int.toNat a0) aA).1).2).1).1).1).2
 let v17:=(((((List.getD y1.2.2.2.2 (Int.toNat a0) aA).1).2).1).1).2
 let v18:=((((((List.getD y1.2.2.2.2 (Int.toNat a0) aA).1).2).1).2).1).1
 let v19:=((((((List.getD y1.2.2.2.2 (Int.toNat a0) aA).1).2).1).2).1).2
 let v20:=(((((List.getD y1.2.2.2.2 (Int.toNat a0) aA).1).2).1).2).2
 let v21:=(((List.getD y1.2.2.2.2 (Int.toNat a0) aA).1).2).2
 (iO.F ((v14,((((v15,v16),v17),((v18,v19),v20)),v21)),(((a1.1.1.1,a1.1.1.2),a1.1.2),((a1.2.1.1,a1.2.1.2),a1.2.2)),())).bind fun y22=>
 bif y22.1 then(let v23:=(((List.getD y1.2.2.2.2 (Int.toNat a0) aA).1).2).2
 some (((),(((2:Int),v23),(0:Int),()),((y1.2.2.1.1,y1.2.2.1.2),(y1.2.2.2.1,y1.2.2.2.2))),G.b,[]))
 else(let v24:=((List.getD y1.2.2.2.2 (Int.toNat a0) aA).2).1
 let v25:=((((((List.getD y1.2.2.2.2 (Int.toNat a0) aA).2).2).1).1).1).1
 let v26:=((((((List.getD y1.2.2.2.2 (Int.toNat a0) aA).2).2).1).1).1).2
 let v27:=(((((List.getD y1.2.2.2.2 (Int.toNat a0) aA).2).2).1).1).2
 let v28:=((((((List.getD y1.2.2.2.2 (Int.toNat a0) aA).2).2).1).2).1).1
 let v29:=((((((List.getD y1.2.2.2.2 (Int.toNat a0) aA).2).2).1).2).1).2
 let v30:=(((((List.getD y1.2.2.2.2 (Int.toNat a0) aA).2).2).1).2).2
 let v31:=(((List.getD y1.2.2.2.2 (Int.toNat a0) aA).2).2).2
 (fJ.F (y1.2.2.1.1,y1.2.2.1.2) (a0,true,(v24,((((v25,v26),v27),((v28,v29),v30)),v31)),())).bind fun y32=>
 (iT.F ((((a1.1.1.1,a1.1.1.2),a1.1.2),((a1.2.1.1,a1.2.1.2),a1.2.2)),())).bind fun JY=>
 let v34:=List.set y1.2.2.2.2 (Int.toNat a0) ((((List.getD y1.2.2.2.2 (Int.toNat a0) aA).1).1,((((((((((List.getD y1.2.2.2.2 (Int.toNat a0) aA).1).2).1).1).1).1,((((((List.getD y1.2.2.2.2 (Int.toNat a0) aA).1).2).1).1).1).2),(((((List.getD y1.2.2.2.2 (Int.toNat a0) aA).1).2).1).1).2),((((((((List.getD y1.2.2.2.2 (Int.toNat a0) aA).1).2).1).2).1).1,((((((List.getD y1.2.2.2.2 (Int.toNat a0) aA).1).2).1).2).1).2),(((((List.getD y1.2.2.2.2 (Int.toNat a0) aA).1).2).1).2).2)),(((List.getD y1.2.2.2.2 (Int.toNat a0) aA).1).2).2)),(true,((((JY.1.1.1.1,JY.1.1.1.2),JY.1.1.2),((JY.1.2.1.1,JY.1.2.1.2),JY.1.2.2)),a2)))
 some (((),(((1:Int),(0:Int)),(0:Int),()),((y32.2.2.1,y32.2.2.2),(y1.2.2.2.1,v34))),G.b,[]))))
 else(let v35:=((List.getD y1.2.2.2.2 (Int.toNat a0) aA).1).1
 let v36:=((((((List.getD y1.2.2.2.2 (Int.toNat a0) aA).1).2).1).1).1).1
 let v37:=((((((List.getD y1.2.2.2.2 (Int.toNat a0) aA).1).2).1).1).1).2
 let v38:=(((((List.getD y1.2.2.2.2 (Int.toNat a0) aA).1).2).1).1).2
 let v39:=((((((List.getD y1.2.2.2.2 (Int.toNat a0) aA).1).2).1).2).1).1
 let v40:=((((((List.getD y1.2.2.2.2 (Int.toNat a0) aA).1).2).1).2).1).2
 let v41:=(((((List.getD y1.2.2.2.2 (Int.toNat a0) aA).1).2).1).2).2
 let v42:=(((List.getD y1.2.2.2.2 (Int.toNat a0) aA).1).2).2
 (iO.F ((v35,((((v36,v37),v38),((v39,v40),v41)),v42)),(((a1.1.1.1,a1.1.1.2),a1.1.2),((a1.2.1.1,a1.2.1.2),a1.2.2)),())).bind fun y43=>
 bif y43.1 then(let v44:=(((List.getD y1.2.2.2.2 (Int.toNat a0) aA).1).2).2
 some (((),(((2:Int),v44),(0:Int),()),((y1.2.2.1.1,y1.2.2.1.2),(y1.2.2.2.1,y1.2.2.2.2))),G.b,[]))
 else(let v45:=((List.getD y1.2.2.2.2 (Int.toNat a0) aA).2).1
 let v46:=((((((List.getD y1.2.2.2.2 (Int.toNat a0) aA).2).2).1).1).1).1
 let v47:=((((((List.getD y1.2.2.2.2 (Int.toNat a0) aA).2).2).1).1).1).2
 let v48:=(((((List.getD y1.2.2.2.2 (Int.toNat a0) aA).2).2).1).1).2
 let v49:=((((((List.getD y1.2.2.2.2 (Int.toNat a0) aA).2).2).1).2).1).1
 let v50:=((((((List.getD y1.2.2.2.2 (Int.toNat a0) aA).2).2).1).2).1).2
 let v51:=(((((List.getD y1.2.2.2.2 (Int.toNat a0) aA).2).2).1).2).2
 let v52:=(((List.getD y1.2.2.2.2 (Int.toNat a0) aA).2).2).2
 (fJ.F (y1.2.2.1.1,y1.2.2.1.2) (a0,true,(v45,((((v46,v47),v48),((v49,v50),v51)),v52)),())).bind fun Sr=>
 (iT.F ((((a1.1.1.1,a1.1.1.2),a1.1.2),((a1.2.1.1,a1.2.1.2),a1.2.2)),())).bind fun Z5=>
 let v55:=List.set y1.2.2.2.2 (Int.toNat a0) ((((List.getD y1.2.2.2.2 (Int.toNat a0) aA).1).1,((((((((((List.getD y1.2.2.2.2 (Int.toNat a0) aA).1).2).1).1).1).1,((((((List.getD y1.2.2.2.2 (Int.toNat a0) aA).1).2).1).1).1).2),(((((List.getD y1.2.2.2.2 (Int.toNat a0) aA).1).2).1).1).2),((((((((List.getD y1.2.2.2.2 (Int.toNat a0) aA).1).2).1).2).1).1,((((((List.getD y1.2.2.2.2 (Int.toNat a0) aA).1).2).1).2).1).2),(((((List.getD y1.2.2.2.2 (Int.toNat a0) aA).1).2).1).2).2)),(((List.getD y1.2.2.2.2 (Int.toNat a0) aA).1).2).2)),(true,((((Z5.1.1.1.1,Z5.1.1.1.2),Z5.1.1.2),((Z5.1.2.1.1,Z5.1.2.1.2),Z5.1.2.2)),a2)))
 some (((),(((1:Int),(0:Int)),(0:Int),()),((Sr.2.2.1,Sr.2.2.2),(y1.2.2.2.1,v55))),G.b,[]))))
 else none)
theorem of (d:cO)(a0:Int)(a1:cu)(a2:Int)(y:(Unit×(NT×Int×Unit)×cO))(h:∀G:Gh,∃k:Nat,e G d a0 a1 a2=some (y,(G.b,[]))):F d (a0,a1,a2,())=some y:=nO (q:=spec) y fun G=>(h G).imp fun k hk=> .trans (by kernel_rfl) hk
end gW
namespace Ed
def spec:Spec:=⟨[(true,xP),(false,(.int .i64))],[(false,.bool)],.own,fun j=>match j with|_=>[]⟩
def au:ak:=(ak.base aJ)
def sig:kH:=spec.sig au T Tryz.f37
def F (x:b_×Int×Unit):Option (Bool×Unit):=eF spec au T Tryz.f37 x
theorem ck:ah Tryz.prog au:=(ah.base aX)
theorem bU:bW Tryz.prog aJ 37 sig:=fC aH ck mix Tryz.func37 (by kernel_rfl)
def e (a0:b_)(a1:Int):Option (Bool×Unit):=
 let v1:=decide (a1≥(0:Int))
 bif v1 then(let v2:=(List.length a0.1:Int)
 let v3:=decide (a1<v2)
 some (v3,()))
 else(some (false,()))
theorem of (k:Nat)(a0:b_)(a1:Int){y:Bool×Unit}(h:e a0 a1=some y):F (a0,a1,())=some y:=aV k (.trans (by kernel_rfl) h)
end Ed
namespace bH
def spec:Spec:=⟨[(false,dI)],[(false,dI)],.own,fun j=>match j with|2=>[(0,.lf (.z 114 (.int .u32) false)),(3,.lf (.v true))]|6=>[(0,.lf (.z 114 (.int .u32) false)),(3,.lf (.v true)),(4,.lf (.o 114 (.int .u32) true)),(5,.lf (.v true))]|_=>[]⟩
def au:ak:=(ak.base aJ)
def sig:kH:=spec.sig au T Tryz.f80
def F (x:aj×Unit):Option (aj×Unit):=eF spec au T Tryz.f80 x
theorem ck:ah Tryz.prog au:=(ah.base aX)
theorem bU:bW Tryz.prog aJ 80 sig:=fC aH ck mix Tryz.func80 (by kernel_rfl)
def m2 (x0:aj)(x3:Int):S:=⟨[(0,.one (.lf (.val false dI x0))),(3,.one (.lf (.val true (.int .i64) x3)))],⟨[],[]⟩⟩
def m6 (x0:aj)(x3:Int)(x4:aj)(x5:Int):S:=⟨[(0,.one (.lf (.val false dI x0))),(3,.one (.lf (.val true (.int .i64) x3))),(4,.one (.lf (.own 0))),(5,.one (.lf (.val true (.int .i64) x5)))],⟨[some ⟨114,(.int .u32),true,true,x4⟩],[]⟩⟩
def b2 (f2:aj→Int→Option (aj×Unit))(f6:aj→Int→aj→Int→Option (aj×Unit))(x0:aj)(x3:Int):Option (aj×Unit):=
 let v1:=decide (x3>(0:Int))
 bif v1 then(let v2:=IntKind.i64.wrap (x3-(1:Int))
 bif decide (0≤v2)&&decide (v2<(List.length x0:Int))then(let v3:=List.getD x0 (Int.toNat v2) (0:Int)
 let v4:=(v3==(0:Int))
 bif v4 then(let v5:=IntKind.i64.wrap (x3-(1:Int))
 f2 x0 v5)
 else(bif decide (0≤x3)&&(decide (x3≤x3)&&(decide (Int.toNat x3*4≤281474976710656)&&Nat.blt 0 4))then(let v6:=List.replicate (Int.toNat x3) (0:Int)
 f6 x0 x3 v6 (0:Int))
 else none))
 else none)
 else(bif decide (0≤x3)&&(decide (x3≤x3)&&(decide (Int.toNat x3*4≤281474976710656)&&Nat.blt 0 4))then(let v7:=List.replicate (Int.toNat x3) (0:Int)
 f6 x0 x3 v7 (0:Int))
 else none)
def b6 (f2:aj→Int→Option (aj×Unit))(f6:aj→Int→aj→Int→Option (aj×Unit))(x0:aj)(x3:Int)(x4:aj)(x5:Int):Option (aj×Unit):=
 let v1:=decide (x5<x3)
 bif v1 then(bif decide (0≤x5)&&decide (x5<(List.length x0:Int))then(let v2:=List.getD x0 (Int.toNat x5) (0:Int)
 bif decide (0≤x5)&&decide (x5<(List.length x4:Int))then(let v3:=List.set x4 (Int.toNat x5) v2
 let v4:=IntKind.i64.wrap (x5+(1:Int))
 f6 x0 x3 v3 v4)
 else none)
 else none)
 else(some (x4,()))
def e (f2:aj→Int→Option (aj×Unit))(f6:aj→Int→aj→Int→Option (aj×Unit))(a0:aj):Option (aj×Unit):=
 let v1:=(List.length a0:Int)
 f2 a0 v1
def L2 (k:Nat)(x0:aj)(x3:Int):Option (aj×Unit):=gB (spec.env au T Tryz.f80) (Func.lN Tryz.f80) k 2 (m2 x0 x3)
def L6 (k:Nat)(x0:aj)(x3:Int)(x4:aj)(x5:Int):Option (aj×Unit):=gB (spec.env au T Tryz.f80) (Func.lN Tryz.f80) k 6 (m6 x0 x3 x4 x5)
theorem mX (k:Nat)(x0:aj)(x3:Int):L2 (k+1) x0 x3=b2 (L2 k) (L6 k) x0 x3:=by kernel_rfl
theorem mJ (k:Nat)(x0:aj)(x3:Int)(x4:aj)(x5:Int):L6 (k+1) x0 x3 x4 x5=b6 (L2 k) (L6 k) x0 x3 x4 x5:=by kernel_rfl
theorem of (k:Nat)(a0:aj){y:aj×Unit}(h:e (L2 k) (L6 k) a0=some y):F (a0,())=some y:=aV k (.trans (by kernel_rfl) h)
end bH
namespace iH
def spec:Spec:=⟨[(false,.bool),(false,dI)],[(true,oD)],.own,fun j=>match j with|_=>[]⟩
def au:ak:=(ak.cons 80 bH.sig (ak.base aJ))
def sig:kH:=spec.sig au T Tryz.f83
def F (x:Bool×aj×Unit):Option (dK×Unit):=eF spec au T Tryz.f83 x
theorem ck:ah Tryz.prog au:=(ah.cons bH.bU (ah.base aX))
theorem bU:bW Tryz.prog aJ 83 sig:=fC aH ck mix Tryz.func83 (by kernel_rfl)
def e (a0:Bool)(a1:aj):Option (dK×Unit):=
 (bH.F (a1,())).bind fun y1=>
 bif a0 then(let v2:=(List.length y1.1:Int)
 let v3:=decide (v2>(0:Int))
 some ((v3,y1.1),()))
 else(some ((false,y1.1),()))
theorem of (k:Nat)(a0:Bool)(a1:aj){y:dK×Unit}(h:e a0 a1=some y):F (a0,a1,())=some y:=aV k (.trans (by kernel_rfl) h)
end iH
namespace qH
def spec:Spec:=⟨[(true,oD)],[(true,oD)],.own,fun j=>match j with|_=>[]⟩
def au:ak:=(ak.cons 83 iH.sig (ak.base aJ))
def sig:kH:=spec.sig au T Tryz.f79
def F (x:dK×Unit):Option (dK×Unit):=eF spec au T Tryz.f79 x
theorem ck:ah Tryz.prog au:=(ah.cons iH.bU (ah.base aX))
theorem bU:bW Tryz.prog aJ 79 sig:=fC aH ck mix Tryz.func79 (by kernel_rfl)
def e (a0:dK):Option (dK×Unit):=
 (iH.F (a0.1,a0.2,())).bind fun y1=>
 some ((y1.1.1,y1.1.2),())
theorem of (k:Nat)(a0:dK){y:dK×Unit}(h:e a0=some y):F (a0,())=some y:=aV k (.trans (by kernel_rfl) h)
end qH
namespace oG
def spec:Spec:=⟨[(false,dI),(false,(.int .i64))],[(false,(.int .u64))],.own,fun j=>match j with|_=>[]⟩
def au:ak:=(ak.base aJ)
def sig:kH:=spec.sig au T Tryz.f103
def F (x:aj×Int×Unit):Option (Int×Unit):=eF spec au T Tryz.f103 x
theorem ck:ah Tryz.prog au:=(ah.base aX)
theorem bU:bW Tryz.prog aJ 103 sig:=fC aH ck mix Tryz.func103 (by kernel_rfl)
def e (a0:aj)(a1:Int):Option (Int×Unit):=
 let v1:=(List.length a0:Int)
 let v2:=decide (a1≥v1)
 bif v2 then(some ((0:Int),()))
 else(bif decide (0≤a1)&&decide (a1<(List.length a0:Int))then(let v3:=List.getD a0 (Int.toNat a1) (0:Int)
 let v4:=IntKind.u64.wrap v3
 some (v4,()))
 else none)
theorem of (k:Nat)(a0:aj)(a1:Int){y:Int×Unit}(h:e a0 a1=some y):F (a0,a1,())=some y:=aV k (.trans (by kernel_rfl) h)
end oG
namespace fQ
def spec:Spec:=⟨[(false,dI),(false,dI)],[(false,(.int .i64))],.own,fun j=>match j with|5=>[(0,.lf (.z 114 (.int .u32) false)),(1,.lf (.z 114 (.int .u32) false)),(6,.lf (.v true))]|_=>[]⟩
def au:ak:=(ak.cons 103 oG.sig (ak.base aJ))
def sig:kH:=spec.sig au T Tryz.f93
def F (x:aj×aj×Unit):Option (Int×Unit):=eF spec au T Tryz.f93 x
theorem ck:ah Tryz.prog au:=(ah.cons oG.bU (ah.base aX))
theorem bU:bW Tryz.prog aJ 93 sig:=fC aH ck mix Tryz.func93 (by kernel_rfl)
def m5 (x0:aj)(x1:aj)(x6:Int):S:=⟨[(0,.one (.lf (.val false dI x0))),(1,.one (.lf (.val false dI x1))),(6,.one (.lf (.val true (.int .i64) x6)))],⟨[],[]⟩⟩
def b5 (f5:aj→aj→Int→Option (Int×Unit))(x0:aj)(x1:aj)(x6:Int):Option (Int×Unit):=
 let v1:=decide (x6≥(0:Int))
 bif v1 then((oG.F (x0,x6,())).bind fun y2=>
 (oG.F (x1,x6,())).bind fun y3=>
 let v4:=decide (y2.1<y3.1)
 bif v4 then(some ((-1:Int),()))
 else((oG.F (x0,x6,())).bind fun y5=>
 (oG.F (x1,x6,())).bind fun y6=>
 let v7:=decide (y5.1>y6.1)
 bif v7 then(some ((1:Int),()))
 else(let v8:=IntKind.i64.wrap (x6-(1:Int))
 f5 x0 x1 v8)))
 else(some ((0:Int),()))
def e (f5:aj→aj→Int→Option (Int×Unit))(a0:aj)(a1:aj):Option (Int×Unit):=
 let v1:=(List.length a0:Int)
 let v2:=(List.length a1:Int)
 let v3:=decide (v2>v1)
 bif v3 then(let v4:=(List.length a1:Int)
 let v5:=IntKind.i64.wrap (v4-(1:Int))
 f5 a0 a1 v5)
 else(let v6:=IntKind.i64.wrap (v1-(1:Int))
 f5 a0 a1 v6)
def L5 (k:Nat)(x0:aj)(x1:aj)(x6:Int):Option (Int×Unit):=gB (spec.env au T Tryz.f93) (Func.lN Tryz.f93) k 5 (m5 x0 x1 x6)
theorem zY (k:Nat)(x0:aj)(x1:aj)(x6:Int):L5 (k+1) x0 x1 x6=b5 (L5 k) x0 x1 x6:=by kernel_rfl
theorem of (k:Nat)(a0:aj)(a1:aj){y:Int×Unit}(h:e (L5 k) a0 a1=some y):F (a0,a1,())=some y:=aV k (.trans (by kernel_rfl) h)
end fQ
namespace mY
def spec:Spec:=⟨[(false,dI),(false,(.int .i64))],[(false,.bool)],.own,fun j=>match j with|_=>[]⟩
def au:ak:=(ak.base aJ)
def sig:kH:=spec.sig au T Tryz.f94
def F (x:aj×Int×Unit):Option (Bool×Unit):=eF spec au T Tryz.f94 x
theorem ck:ah Tryz.prog au:=(ah.base aX)
theorem bU:bW Tryz.prog aJ 94 sig:=fC aH ck mix Tryz.func94 (by kernel_rfl)
def e (a0:aj)(a1:Int):Option (Bool×Unit):=
 let v1:=decide (a1≥(0:Int))
 bif v1 then(bif decide ((32:Int)=0)then none
 else(let v2:=IntKind.i64.wrap (Int.tdiv a1 (32:Int))
 let v3:=(List.length a0:Int)
 let v4:=decide (v2<v3)
 bif v4 then(bif decide ((32:Int)=0)then none
 else(let v5:=IntKind.i64.wrap (Int.tdiv a1 (32:Int))
 bif decide (0≤v5)&&decide (v5<(List.length a0:Int))then(let v6:=List.getD a0 (Int.toNat v5) (0:Int)
 bif decide ((32:Int)=0)then none
 else(let v7:=Int.tmod a1 (32:Int)
 let v8:=IntKind.u64.wrap v7
 bif decide (v8<0)then none
 else(let v9:=oV .u32 v6 v8
 let v10:=eP .and .u32 v9 (1:Int)
 let v11:=(v10==(1:Int))
 some (v11,()))))
 else none))
 else(some (false,()))))
 else(some (false,()))
theorem of (k:Nat)(a0:aj)(a1:Int){y:Bool×Unit}(h:e a0 a1=some y):F (a0,a1,())=some y:=aV k (.trans (by kernel_rfl) h)
end mY
namespace bF
def spec:Spec:=⟨[(false,dI),(false,(.int .i64))],[(false,dI),(false,(.int .i64))],.own,fun j=>match j with|15=>[(0,.lf (.z 114 (.int .u32) false)),(6,.lf (.v true)),(7,.lf (.o 114 (.int .u32) true)),(8,.lf (.v true)),(9,.lf (.v true)),(10,.lf (.v true))]|_=>[]⟩
def au:ak:=(ak.cons 80 bH.sig (ak.base aJ))
def sig:kH:=spec.sig au T Tryz.f95
def F (x:aj×Int×Unit):Option (aj×Int×Unit):=eF spec au T Tryz.f95 x
theorem ck:ah Tryz.prog au:=(ah.cons bH.bU (ah.base aX))
theorem bU:bW Tryz.prog aJ 95 sig:=fC aH ck mix Tryz.func95 (by kernel_rfl)
def m15 (x0:aj)(x6:Int)(x7:aj)(x8:Int)(x9:Int)(x10:Int):S:=⟨[(0,.one (.lf (.val false dI x0))),(6,.one (.lf (.val true (.int .i64) x6))),(7,.one (.lf (.own 0))),(8,.one (.lf (.val true (.int .i64) x8))),(9,.one (.lf (.val true (.int .i64) x9))),(10,.one (.lf (.val true (.int .i64) x10)))],⟨[some ⟨114,(.int .u32),true,true,x7⟩],[]⟩⟩
def b15 (f15:aj→Int→aj→Int→Int→Int→Option (aj×Int×Unit))(x0:aj)(x6:Int)(x7:aj)(x8:Int)(x9:Int)(x10:Int):Option (aj×Int×Unit):=
 let v1:=(List.length x0:Int)
 let v2:=decide (x10<v1)
 bif v2 then(bif decide (0≤x10)&&decide (x10<(List.length x0:Int))then(let v3:=List.getD x0 (Int.toNat x10) (0:Int)
 let v4:=IntKind.u64.wrap v3
 let v5:=IntKind.u64.wrap x9
 bif decide (v5<0)then none
 else(let v6:=yP .u64 v4 v5
 let v7:=IntKind.i64.wrap (x10+x8)
 let v8:=decide (v7≥(0:Int))
 bif v8 then(let v9:=IntKind.i64.wrap (x10+x8)
 let v10:=decide (v9<x6)
 bif v10 then(let v11:=IntKind.i64.wrap (x10+x8)
 bif decide (0≤v11)&&decide (v11<(List.length x7:Int))then(let v12:=List.getD x7 (Int.toNat v11) (0:Int)
 let v13:=IntKind.u32.wrap v6
 let v14:=eP .or .u32 v12 v13
 bif decide (0≤v11)&&decide (v11<(List.length x7:Int))then(let v15:=List.set x7 (Int.toNat v11) v14
 let v16:=IntKind.i64.wrap (x10+x8)
 let v17:=IntKind.i64.wrap (v16+(1:Int))
 let v18:=decide (v17≥(0:Int))
 bif v18 then(let v19:=IntKind.i64.wrap (x10+x8)
 let v20:=IntKind.i64.wrap (v19+(1:Int))
 let v21:=decide (v20<x6)
 bif v21 then(let v22:=IntKind.i64.wrap (x10+x8)
 let v23:=IntKind.i64.wrap (v22+(1:Int))
 bif decide (0≤v23)&&decide (v23<(List.length v15:Int))then(let v24:=List.getD v15 (Int.toNat v23) (0:Int)
 bif decide ((32:Int)<0)then none
 else(let v25:=oV .u64 v6 (32:Int)
 let v26:=IntKind.u32.wrap v25
 let v27:=eP .or .u32 v24 v26
 bif decide (0≤v23)&&decide (v23<(List.length v15:Int))then(let v28:=List.set v15 (Int.toNat v23) v27
 let v29:=IntKind.i64.wrap (x10+(1:Int))
 f15 x0 x6 v28 x8 x9 v29)
 else none))
 else none)
 else(let v30:=IntKind.i64.wrap (x10+(1:Int))
 f15 x0 x6 v15 x8 x9 v30))
 else(let v31:=IntKind.i64.wrap (x10+(1:Int))
 f15 x0 x6 v15 x8 x9 v31))
 else none)
 else none)
 else(let v32:=IntKind.i64.wrap (x10+x8)
 let v33:=IntKind.i64.wrap (v32+(1:Int))
 let v34:=decide (v33≥(0:Int))
 bif v34 then(let v35:=IntKind.i64.wrap (x10+x8)
 let v36:=IntKind.i64.wrap (v35+(1:Int))
 let v37:=decide (v36<x6)
 bif v37 then(let v38:=IntKind.i64.wrap (x10+x8)
 let v39:=IntKind.i64.wrap (v38+(1:Int))
 bif decide (0≤v39)&&decide (v39<(List.length x7:Int))then(let v40:=List.getD x7 (Int.toNat v39) (0:Int)
 bif decide ((32:Int)<0)then none
 else(let v41:=oV .u64 v6 (32:Int)
 let v42:=IntKind.u32.wrap v41
 let v43:=eP .or .u32 v40 v42
 bif decide (0≤v39)&&decide (v39<(List.length x7:Int))then(let v44:=List.set x7 (Int.toNat v39) v43
 let v45:=IntKind.i64.wrap (x10+(1:Int))
 f15 x0 x6 v44 x8 x9 v45)
 else none))
 else none)
 else(let v46:=IntKind.i64.wrap (x10+(1:Int))
 f15 x0 x6 x7 x8 x9 v46))
 else(let v47:=IntKind.i64.wrap (x10+(1:Int))
 f15 x0 x6 x7 x8 x9 v47)))
 else(let v48:=IntKind.i64.wrap (x10+x8)
 let v49:=IntKind.i64.wrap (v48+(1:Int))
 let v50:=decide (v49≥(0:Int))
 bif v50 then(let v51:=IntKind.i64.wrap (x10+x8)
 let v52:=IntKind.i64.wrap (v51+(1:Int))
 let v53:=decide (v52<x6)
 bif v53 then(let v54:=IntKind.i64.wrap (x10+x8)
 let v55:=IntKind.i64.wrap (v54+(1:Int))
 bif decide (0≤v55)&&decide (v55<(List.length x7:Int))then(let v56:=List.getD x7 (Int.toNat v55) (0:Int)
 bif decide ((32:Int)<0)then none
 else(let v57:=oV .u64 v6 (32:Int)
 let v58:=IntKind.u32.wrap v57
 let v59:=eP .or .u32 v56 v58
 bif decide (0≤v55)&&decide (v55<(List.length x7:Int))then(let v60:=List.set x7 (Int.toNat v55) v59
 let v61:=IntKind.i64.wrap (x10+(1:Int))
 f15 x0 x6 v60 x8 x9 v61)
 else none))
 else none)
 else(let v62:=IntKind.i64.wrap (x10+(1:Int))
 f15 x0 x6 x7 x8 x9 v62))
 else(let v63:=IntKind.i64.wrap (x10+(1:Int))
 f15 x0 x6 x7 x8 x9 v63))))
 else none)
 else((bH.F (x7,())).bind fun y64=>
 some (y64.1,(0:Int),()))
def e (f15:aj→Int→aj→Int→Int→Int→Option (aj×Int×Unit))(a0:aj)(a1:Int):Option (aj×Int×Unit):=
 let v1:=decide (a1<(-1048576:Int))
 bif v1 then(some (FU,(12:Int),()))
 else(let v2:=decide (a1>(1048576:Int))
 bif v2 then(some (FU,(12:Int),()))
 else((bH.F (a0,())).bind fun y3=>
 let v4:=(List.length y3.1:Int)
 let v5:=(v4==(0:Int))
 bif v5 then(let v6:=FU
 some (v6,(0:Int),()))
 else(let v7:=(List.length a0:Int)
 let v8:=decide (a1>(0:Int))
 bif v8 then(bif decide ((32:Int)=0)then none
 else(let v9:=IntKind.i64.wrap (Int.tdiv a1 (32:Int))
 let v10:=IntKind.i64.wrap (v9+(1:Int))
 let v11:=IntKind.i64.wrap (v7+v10)
 bif decide (0≤v11)&&(decide (v11≤v11)&&(decide (Int.toNat v11*4≤281474976710656)&&Nat.blt 0 4))then(let v12:=List.replicate (Int.toNat v11) (0:Int)
 bif decide ((32:Int)=0)then none
 else(let v13:=IntKind.i64.wrap (Int.tdiv a1 (32:Int))
 bif decide ((32:Int)=0)then none
 else(let v14:=Int.tmod a1 (32:Int)
 let v15:=decide (v14<(0:Int))
 bif v15 then(let v16:=IntKind.i64.wrap (v13-(1:Int))
 let v17:=IntKind.i64.wrap (v14+(32:Int))
 f15 a0 v11 v12 v16 v17 (0:Int))
 else(f15 a0 v11 v12 v13 v14 (0:Int)))))
 else none))
 else(bif decide (0≤v7)&&(decide (v7≤v7)&&(decide (Int.toNat v7*4≤281474976710656)&&Nat.blt 0 4))then(let v18:=List.replicate (Int.toNat v7) (0:Int)
 bif decide ((32:Int)=0)then none
 else(let v19:=IntKind.i64.wrap (Int.tdiv a1 (32:Int))
 bif decide ((32:Int)=0)then none
 else(let v20:=Int.tmod a1 (32:Int)
 let v21:=decide (v20<(0:Int))
 bif v21 then(let v22:=IntKind.i64.wrap (v19-(1:Int))
 let v23:=IntKind.i64.wrap (v20+(32:Int))
 f15 a0 v7 v18 v22 v23 (0:Int))
 else(f15 a0 v7 v18 v19 v20 (0:Int)))))
 else none))))
def EC (k:Nat)(x0:aj)(x6:Int)(x7:aj)(x8:Int)(x9:Int)(x10:Int):Option (aj×Int×Unit):=gB (spec.env au T Tryz.f95) (Func.lN Tryz.f95) k 15 (m15 x0 x6 x7 x8 x9 x10)
theorem qI (k:Nat)(x0:aj)(x6:Int)(x7:aj)(x8:Int)(x9:Int)(x10:Int):EC (k+1) x0 x6 x7 x8 x9 x10=b15 (EC k) x0 x6 x7 x8 x9 x10:=by kernel_rfl
theorem of (k:Nat)(a0:aj)(a1:Int){y:aj×Int×Unit}(h:e (EC k) a0 a1=some y):F (a0,a1,())=some y:=aV k (.trans (by kernel_rfl) h)
end bF
namespace jo
def spec:Spec:=⟨[(false,dI),(false,dI)],[(false,dI),(false,(.int .i64))],.own,fun j=>match j with|6=>[(0,.lf (.z 114 (.int .u32) false)),(1,.lf (.z 114 (.int .u32) false)),(6,.lf (.o 114 (.int .u32) true)),(7,.lf (.v true)),(8,.lf (.v true))]|_=>[]⟩
def au:ak:=(ak.cons 93 fQ.sig (ak.cons 103 oG.sig (ak.cons 80 bH.sig (ak.base aJ))))
def sig:kH:=spec.sig au T Tryz.f96
def F (x:aj×aj×Unit):Option (aj×Int×Unit):=eF spec au T Tryz.f96 x
theorem ck:ah Tryz.prog au:=(ah.cons fQ.bU (ah.cons oG.bU (ah.cons bH.bU (ah.base aX))))
theorem bU:bW Tryz.prog aJ 96 sig:=fC aH ck mix Tryz.func96 (by kernel_rfl)
def m6 (x0:aj)(x1:aj)(x6:aj)(x7:Int)(x8:Int):S:=⟨[(0,.one (.lf (.val false dI x0))),(1,.one (.lf (.val false dI x1))),(6,.one (.lf (.own 0))),(7,.one (.lf (.val true (.int .u64) x7))),(8,.one (.lf (.val true (.int .i64) x8)))],⟨[some ⟨114,(.int .u32),true,true,x6⟩],[]⟩⟩
def b6 (f6:aj→aj→aj→Int→Int→Option (aj×Int×Unit))(x0:aj)(x1:aj)(x6:aj)(x7:Int)(x8:Int):Option (aj×Int×Unit):=
 let v1:=(List.length x0:Int)
 let v2:=decide (x8<v1)
 bif v2 then((oG.F (x0,x8,())).bind fun y3=>
 (oG.F (x1,x8,())).bind fun y4=>
 let v5:=IntKind.u64.wrap (y3.1-y4.1)
 let v6:=IntKind.u64.wrap (v5-x7)
 let v7:=IntKind.u32.wrap v6
 bif decide (0≤x8)&&decide (x8<(List.length x6:Int))then(let v8:=List.set x6 (Int.toNat x8) v7
 bif decide ((63:Int)<0)then none
 else(let v9:=oV .u64 v6 (63:Int)
 let v10:=IntKind.i64.wrap (x8+(1:Int))
 f6 x0 x1 v8 v9 v10))
 else none)
 else((bH.F (x6,())).bind fun WY=>
 some (WY.1,(0:Int),()))
def e (f6:aj→aj→aj→Int→Int→Option (aj×Int×Unit))(a0:aj)(a1:aj):Option (aj×Int×Unit):=
 (fQ.F (a0,a1,())).bind fun y1=>
 let v2:=decide (y1.1<(0:Int))
 bif v2 then(some (FU,(10:Int),()))
 else(let v3:=(List.length a0:Int)
 bif decide (0≤v3)&&(decide (v3≤v3)&&(decide (Int.toNat v3*4≤281474976710656)&&Nat.blt 0 4))then(let v4:=List.replicate (Int.toNat v3) (0:Int)
 f6 a0 a1 v4 (0:Int) (0:Int))
 else none)
def L6 (k:Nat)(x0:aj)(x1:aj)(x6:aj)(x7:Int)(x8:Int):Option (aj×Int×Unit):=gB (spec.env au T Tryz.f96) (Func.lN Tryz.f96) k 6 (m6 x0 x1 x6 x7 x8)
theorem mJ (k:Nat)(x0:aj)(x1:aj)(x6:aj)(x7:Int)(x8:Int):L6 (k+1) x0 x1 x6 x7 x8=b6 (L6 k) x0 x1 x6 x7 x8:=by kernel_rfl
theorem of (k:Nat)(a0:aj)(a1:aj){y:aj×Int×Unit}(h:e (L6 k) a0 a1=some y):F (a0,a1,())=some y:=aV k (.trans (by kernel_rfl) h)
end jo
namespace iG
def spec:Spec:=⟨[(false,dI),(false,.bool)],[(false,dI)],.own,fun j=>match j with|6=>[(0,.lf (.z 114 (.int .u32) false)),(5,.lf (.o 114 (.int .u32) true)),(6,.lf (.v true)),(7,.lf (.v true))]|_=>[]⟩
def au:ak:=(ak.cons 80 bH.sig (ak.base aJ))
def sig:kH:=spec.sig au T Tryz.f97
def F (x:aj×Bool×Unit):Option (aj×Unit):=eF spec au T Tryz.f97 x
theorem ck:ah Tryz.prog au:=(ah.cons bH.bU (ah.base aX))
theorem bU:bW Tryz.prog aJ 97 sig:=fC aH ck mix Tryz.func97 (by kernel_rfl)
def m6 (x0:aj)(x5:aj)(x6:Int)(x7:Int):S:=⟨[(0,.one (.lf (.val false dI x0))),(5,.one (.lf (.own 0))),(6,.one (.lf (.val true (.int .u32) x6))),(7,.one (.lf (.val true (.int .i64) x7)))],⟨[some ⟨114,(.int .u32),true,true,x5⟩],[]⟩⟩
def b6 (f6:aj→aj→Int→Int→Option (aj×Unit))(x0:aj)(x5:aj)(x6:Int)(x7:Int):Option (aj×Unit):=
 let v1:=(List.length x0:Int)
 let v2:=decide (x7<v1)
 bif v2 then(bif decide (0≤x7)&&decide (x7<(List.length x0:Int))then(let v3:=List.getD x0 (Int.toNat x7) (0:Int)
 bif decide ((1:Int)<0)then none
 else(let v4:=yP .u32 v3 (1:Int)
 let v5:=eP .or .u32 v4 x6
 bif decide (0≤x7)&&decide (x7<(List.length x5:Int))then(let v6:=List.set x5 (Int.toNat x7) v5
 bif decide (0≤x7)&&decide (x7<(List.length x0:Int))then(let v7:=List.getD x0 (Int.toNat x7) (0:Int)
 bif decide ((31:Int)<0)then none
 else(let v8:=oV .u32 v7 (31:Int)
 let v9:=IntKind.i64.wrap (x7+(1:Int))
 f6 x0 v6 v8 v9))
 else none)
 else none))
 else none)
 else(let v10:=(List.length x0:Int)
 bif decide (0≤v10)&&decide (v10<(List.length x5:Int))then(let v11:=List.set x5 (Int.toNat v10) x6
 (bH.F (v11,())).bind fun y12=>
 some (y12.1,()))
 else none)
def e (f6:aj→aj→Int→Int→Option (aj×Unit))(a0:aj)(a1:Bool):Option (aj×Unit):=
 let v1:=(List.length a0:Int)
 let v2:=IntKind.i64.wrap (v1+(1:Int))
 bif decide (0≤v2)&&(decide (v2≤v2)&&(decide (Int.toNat v2*4≤281474976710656)&&Nat.blt 0 4))then(let v3:=List.replicate (Int.toNat v2) (0:Int)
 bif a1 then(f6 a0 v3 (1:Int) (0:Int))
 else(f6 a0 v3 (0:Int) (0:Int)))
 else none
def L6 (k:Nat)(x0:aj)(x5:aj)(x6:Int)(x7:Int):Option (aj×Unit):=gB (spec.env au T Tryz.f97) (Func.lN Tryz.f97) k 6 (m6 x0 x5 x6 x7)
theorem mJ (k:Nat)(x0:aj)(x5:aj)(x6:Int)(x7:Int):L6 (k+1) x0 x5 x6 x7=b6 (L6 k) x0 x5 x6 x7:=by kernel_rfl
theorem of (k:Nat)(a0:aj)(a1:Bool){y:aj×Unit}(h:e (L6 k) a0 a1=some y):F (a0,a1,())=some y:=aV k (.trans (by kernel_rfl) h)
end iG
namespace dD
def spec:Spec:=⟨[(false,dI),(false,dI)],[(false,dI)],.own,fun j=>match j with|11=>[(0,.lf (.o 114 (.int .u32) true)),(1,.lf (.o 114 (.int .u32) true)),(6,.lf (.v true))]|15=>[(0,.lf (.o 114 (.int .u32) true)),(1,.lf (.o 114 (.int .u32) true)),(6,.lf (.v true))]|16=>[(0,.lf (.o 114 (.int .u32) true)),(1,.lf (.o 114 (.int .u32) true)),(6,.lf (.v true))]|18=>[(0,.lf (.o 114 (.int .u32) true)),(1,.lf (.o 114 (.int .u32) true)),(6,.lf (.v true))]|24=>[(0,.lf (.o 114 (.int .u32) true)),(6,.lf (.v true)),(7,.lf (.v true))]|_=>[]⟩
def au:ak:=(ak.cons 80 bH.sig (ak.cons 93 fQ.sig (ak.cons 94 mY.sig (ak.cons 95 bF.sig (ak.cons 96 jo.sig (ak.cons 97 iG.sig (ak.base aJ)))))))
def sig:kH:=spec.sig au T Tryz.f81
def F (x:aj×aj×Unit):Option (aj×Unit):=eF spec au T Tryz.f81 x
theorem ck:ah Tryz.prog au:=(ah.cons bH.bU (ah.cons fQ.bU (ah.cons mY.bU (ah.cons bF.bU (ah.cons jo.bU (ah.cons iG.bU (ah.base aX)))))))
theorem bU:bW Tryz.prog aJ 81 sig:=fC aH ck mix Tryz.func81 (by kernel_rfl)
def m11 (x0:aj)(x1:aj)(x6:Int):S:=⟨[(0,.one (.lf (.own 0))),(1,.one (.lf (.own 1))),(6,.one (.lf (.val true (.int .i64) x6)))],⟨[some ⟨114,(.int .u32),true,true,x0⟩,some ⟨114,(.int .u32),true,true,x1⟩],[]⟩⟩
def m15 (x0:aj)(x1:aj)(x6:Int):S:=⟨[(0,.one (.lf (.own 0))),(1,.one (.lf (.own 1))),(6,.one (.lf (.val true (.int .i64) x6)))],⟨[some ⟨114,(.int .u32),true,true,x0⟩,some ⟨114,(.int .u32),true,true,x1⟩],[]⟩⟩
def m16 (x0:aj)(x1:aj)(x6:Int):S:=⟨[(0,.one (.lf (.own 0))),(1,.one (.lf (.own 1))),(6,.one (.lf (.val true (.int .i64) x6)))],⟨[some ⟨114,(.int .u32),true,true,x0⟩,some ⟨114,(.int .u32),true,true,x1⟩],[]⟩⟩
def m18 (x0:aj)(x1:aj)(x6:Int):S:=⟨[(0,.one (.lf (.own 0))),(1,.one (.lf (.own 1))),(6,.one (.lf (.val true (.int .i64) x6)))],⟨[some ⟨114,(.int .u32),true,true,x0⟩,some ⟨114,(.int .u32),true,true,x1⟩],[]⟩⟩
def m24 (x0:aj)(x6:Int)(x7:Int):S:=⟨[(0,.one (.lf (.own 0))),(6,.one (.lf (.val true (.int .i64) x6))),(7,.one (.lf (.val true (.int .i64) x7)))],⟨[some ⟨114,(.int .u32),true,true,x0⟩],[]⟩⟩
def b11 (f11:aj→aj→Int→Option (aj×Unit))(f15:aj→aj→Int→Option (aj×Unit))(f16:aj→aj→Int→Option (aj×Unit))(f18:aj→aj→Int→Option (aj×Unit))(f24:aj→Int→Int→Option (aj×Unit))(x0:aj)(x1:aj)(x6:Int):Option (aj×Unit):=
 (mY.F (x0,(0:Int),())).bind fun y1=>
 let v2:=not y1.1
 bif v2 then((mY.F (x1,(0:Int),())).bind fun y3=>
 let v4:=not y3.1
 bif v4 then((bF.F (x0,(-1:Int),())).bind fun y5=>
 (bF.F (x1,(-1:Int),())).bind fun y6=>
 let v7:=IntKind.i64.wrap (x6+(1:Int))
 f11 y5.1 y6.1 v7)
 else(f15 x0 x1 x6))
 else(f15 x0 x1 x6)
def b15 (f11:aj→aj→Int→Option (aj×Unit))(f15:aj→aj→Int→Option (aj×Unit))(f16:aj→aj→Int→Option (aj×Unit))(f18:aj→aj→Int→Option (aj×Unit))(f24:aj→Int→Int→Option (aj×Unit))(x0:aj)(x1:aj)(x6:Int):Option (aj×Unit):=
 let v1:=(List.length x1:Int)
 let v2:=decide (v1>(0:Int))
 bif v2 then(f16 x0 x1 x6)
 else(f24 x0 x6 (0:Int))
def b16 (f11:aj→aj→Int→Option (aj×Unit))(f15:aj→aj→Int→Option (aj×Unit))(f16:aj→aj→Int→Option (aj×Unit))(f18:aj→aj→Int→Option (aj×Unit))(f24:aj→Int→Int→Option (aj×Unit))(x0:aj)(x1:aj)(x6:Int):Option (aj×Unit):=
 (mY.F (x0,(0:Int),())).bind fun y1=>
 let v2:=not y1.1
 bif v2 then((bF.F (x0,(-1:Int),())).bind fun y3=>
 f16 y3.1 x1 x6)
 else(f18 x0 x1 x6)
def b18 (f11:aj→aj→Int→Option (aj×Unit))(f15:aj→aj→Int→Option (aj×Unit))(f16:aj→aj→Int→Option (aj×Unit))(f18:aj→aj→Int→Option (aj×Unit))(f24:aj→Int→Int→Option (aj×Unit))(x0:aj)(x1:aj)(x6:Int):Option (aj×Unit):=
 (mY.F (x1,(0:Int),())).bind fun y1=>
 let v2:=not y1.1
 bif v2 then((bF.F (x1,(-1:Int),())).bind fun y3=>
 f18 x0 y3.1 x6)
 else((fQ.F (x0,x1,())).bind fun y4=>
 let v5:=decide (y4.1>(0:Int))
 bif v5 then((jo.F (x0,x1,())).bind fun y6=>
 f15 x1 y6.1 x6)
 else((jo.F (x1,x0,())).bind fun y7=>
 f15 x0 y7.1 x6))
def b24 (f11:aj→aj→Int→Option (aj×Unit))(f15:aj→aj→Int→Option (aj×Unit))(f16:aj→aj→Int→Option (aj×Unit))(f18:aj→aj→Int→Option (aj×Unit))(f24:aj→Int→Int→Option (aj×Unit))(x0:aj)(x6:Int)(x7:Int):Option (aj×Unit):=
 let v1:=decide (x7<x6)
 bif v1 then((iG.F (x0,false,())).bind fun y2=>
 let v3:=IntKind.i64.wrap (x7+(1:Int))
 f24 y2.1 x6 v3)
 else(some (x0,()))
def e (f11:aj→aj→Int→Option (aj×Unit))(f15:aj→aj→Int→Option (aj×Unit))(f16:aj→aj→Int→Option (aj×Unit))(f18:aj→aj→Int→Option (aj×Unit))(f24:aj→Int→Int→Option (aj×Unit))(a0:aj)(a1:aj):Option (aj×Unit):=
 (bH.F (a0,())).bind fun y1=>
 (bH.F (a1,())).bind fun y2=>
 let v3:=(List.length y1.1:Int)
 let v4:=(v3==(0:Int))
 bif v4 then(some (y2.1,()))
 else(let v5:=(List.length y2.1:Int)
 let v6:=(v5==(0:Int))
 bif v6 then(some (y1.1,()))
 else(let v7:=([(1:Int)]:List Int)
 (fQ.F (y1.1,v7,())).bind fun y8=>
 let v9:=(y8.1==(0:Int))
 bif v9 then(some (v7,()))
 else((fQ.F (y2.1,v7,())).bind fun H7=>
 let v11:=(H7.1==(0:Int))
 bif v11 then(some (v7,()))
 else(f11 y1.1 y2.1 (0:Int)))))
def Nu (k:Nat)(x0:aj)(x1:aj)(x6:Int):Option (aj×Unit):=gB (spec.env au T Tryz.f81) (Func.lN Tryz.f81) k 11 (m11 x0 x1 x6)
def EC (k:Nat)(x0:aj)(x1:aj)(x6:Int):Option (aj×Unit):=gB (spec.env au T Tryz.f81) (Func.lN Tryz.f81) k 15 (m15 x0 x1 x6)
def L16 (k:Nat)(x0:aj)(x1:aj)(x6:Int):Option (aj×Unit):=gB (spec.env au T Tryz.f81) (Func.lN Tryz.f81) k 16 (m16 x0 x1 x6)
def L18 (k:Nat)(x0:aj)(x1:aj)(x6:Int):Option (aj×Unit):=gB (spec.env au T Tryz.f81) (Func.lN Tryz.f81) k 18 (m18 x0 x1 x6)
def Yf (k:Nat)(x0:aj)(x6:Int)(x7:Int):Option (aj×Unit):=gB (spec.env au T Tryz.f81) (Func.lN Tryz.f81) k 24 (m24 x0 x6 x7)
theorem xk (k:Nat)(x0:aj)(x1:aj)(x6:Int):Nu (k+1) x0 x1 x6=b11 (Nu k) (EC k) (L16 k) (L18 k) (Yf k) x0 x1 x6:=by kernel_rfl
theorem qI (k:Nat)(x0:aj)(x1:aj)(x6:Int):EC (k+1) x0 x1 x6=b15 (Nu k) (EC k) (L16 k) (L18 k) (Yf k) x0 x1 x6:=by kernel_rfl
theorem UD (k:Nat)(x0:aj)(x1:aj)(x6:Int):L16 (k+1) x0 x1 x6=b16 (Nu k) (EC k) (L16 k) (L18 k) (Yf k) x0 x1 x6:=by kernel_rfl
theorem L9 (k:Nat)(x0:aj)(x1:aj)(x6:Int):L18 (k+1) x0 x1 x6=b18 (Nu k) (EC k) (L16 k) (L18 k) (Yf k) x0 x1 x6:=by kernel_rfl
theorem UE (k:Nat)(x0:aj)(x6:Int)(x7:Int):Yf (k+1) x0 x6 x7=b24 (Nu k) (EC k) (L16 k) (L18 k) (Yf k) x0 x6 x7:=by kernel_rfl
theorem of (k:Nat)(a0:aj)(a1:aj){y:aj×Unit}(h:e (Nu k) (EC k) (L16 k) (L18 k) (Yf k) a0 a1=some y):F (a0,a1,())=some y:=aV k (.trans (by kernel_rfl) h)
end dD
end
end Go.Fx.Tryz
