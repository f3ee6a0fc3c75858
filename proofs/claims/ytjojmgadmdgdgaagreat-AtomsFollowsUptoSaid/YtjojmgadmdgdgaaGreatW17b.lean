import Derived.Test.YtjojmgadmdgdgaaGreatW17a
namespace Go.Fx.Tryz
open Go Go.Proofs Go.Fx
set_option linter.unusedVariables false
set_option maxRecDepth 100000
noncomputable section
namespace m_Rat
def spec:Spec:=⟨[(true,Kt47)],[(true,Kt47)],.own,fun j=>match j with|_=>[]⟩
def cals:Cals:=(Cals.cons 106 m_Int.sig (Cals.cons 107 m_Nat.sig (Cals.base tabs)))
def sig:Sig:=spec.sig cals T Tryz.f58
def F (x:Dt47×Unit):Option (Dt47×Unit):=limF spec cals T Tryz.f58 x
theorem ck:CalsOk Tryz.prog cals:=(CalsOk.cons m_Int.cal (CalsOk.cons m_Nat.cal (CalsOk.base tabsOk)))
theorem cal:CalOk Tryz.prog tabs 58 sig:=calOk_lim' tabOk ck mix Tryz.func58 (by kernel_rfl) (by kernel_rfl) (by kernel_rfl) (by kernel_rfl)
def e (a0:Dt47):Option (Dt47×Unit):=
 (m_Int.F ((a0.1.1,a0.1.2),())).bind fun y1=>
 (m_Nat.F (a0.2,())).bind fun y2=>
 some (((y1.1.1,y1.1.2),y2.1),())
theorem eval (k:Nat)(a0:Dt47):evalF spec cals T Tryz.f58 k (a0,())=e a0:=by kernel_rfl
theorem of (k:Nat)(a0:Dt47){y:Dt47×Unit}(h:e a0=some y):F (a0,())=some y:=limF_of k ((eval k a0).trans h)
end m_Rat
namespace m_Form
def spec:Spec:=⟨[(false,Kt40)],[(false,Kt40)],.own,fun j=>match j with|3=>[(0,.lf (.z 73 Kt73 false)),(3,.lf (.o 73 Kt73 true)),(4,.lf (.v true))]|_=>[]⟩
def cals:Cals:=(Cals.cons 58 m_Rat.sig (Cals.base tabs))
def sig:Sig:=spec.sig cals T Tryz.f42
def F (x:Dt40×Unit):Option (Dt40×Unit):=limF spec cals T Tryz.f42 x
theorem ck:CalsOk Tryz.prog cals:=(CalsOk.cons m_Rat.cal (CalsOk.base tabsOk))
theorem cal:CalOk Tryz.prog tabs 42 sig:=calOk_lim' tabOk ck mix Tryz.func42 (by kernel_rfl) (by kernel_rfl) (by kernel_rfl) (by kernel_rfl)
def m3 (x0:Dt40)(x3:Dt40)(x4:Int):S:=⟨[(0,.one (.lf (.val false Kt40 x0))),(3,.one (.lf (.own 0))),(4,.one (.lf (.val true (.int .i64) x4)))],⟨[some ⟨73,Kt73,true,true,x3⟩],[]⟩⟩
def b3 (f3:Dt40→Dt40→Int→Option (Dt40×Unit))(x0:Dt40)(x3:Dt40)(x4:Int):Option (Dt40×Unit):=
 let v1:=(List.length x0:Int)
 let v2:=decide (x4<v1)
 bif v2 then(bif decide (0≤x4)&&decide (x4<(List.length x0:Int))then(let v3:=(List.getD x0 (Int.toNat x4) zt73).1
 bif decide (0≤x4)&&decide (x4<(List.length x0:Int))then(let v4:=(((List.getD x0 (Int.toNat x4) zt73).2).1).1
 let v5:=(((List.getD x0 (Int.toNat x4) zt73).2).1).2
 let v6:=((List.getD x0 (Int.toNat x4) zt73).2).2
 (m_Rat.F (((v4,v5),v6),())).bind fun y7=>
 let v8:=([(v3,((y7.1.1.1,y7.1.1.2),y7.1.2))]:List Dt73)
 bif decide (List.length x3+List.length v8<2199023255552)then(let v9:=List.append x3 v8
 let v10:=IntKind.i64.wrap (x4+(1:Int))
 f3 x0 v9 v10)
 else none)
 else none)
 else none)
 else(some (x3,()))
def e (f3:Dt40→Dt40→Int→Option (Dt40×Unit))(a0:Dt40):Option (Dt40×Unit):=
 f3 a0 zt40 (0:Int)
def L3 (k:Nat)(x0:Dt40)(x3:Dt40)(x4:Int):Option (Dt40×Unit):=heads (spec.env cals T Tryz.f42) (Func.pts Tryz.f42) k 3 (m3 x0 x3 x4)
theorem L3_succ (k:Nat)(x0:Dt40)(x3:Dt40)(x4:Int):L3 (k+1) x0 x3 x4=b3 (L3 k) x0 x3 x4:=by kernel_rfl
theorem eval (k:Nat)(a0:Dt40):evalF spec cals T Tryz.f42 k (a0,())=e (L3 k) a0:=by kernel_rfl
theorem of (k:Nat)(a0:Dt40){y:Dt40×Unit}(h:e (L3 k) a0=some y):F (a0,())=some y:=limF_of k ((eval k a0).trans h)
end m_Form
namespace w_twin
def spec:Spec:=⟨[(false,Kt22)],[(false,Kt22)],.own,fun j=>match j with|3=>[(0,.lf (.z 69 Kt69 false)),(3,.lf (.o 69 Kt69 true)),(4,.lf (.v true))]|_=>[]⟩
def cals:Cals:=(Cals.cons 42 m_Form.sig (Cals.cons 58 m_Rat.sig (Cals.base tabs)))
def sig:Sig:=spec.sig cals T Tryz.f15
def F (x:Dt22×Unit):Option (Dt22×Unit):=limF spec cals T Tryz.f15 x
theorem ck:CalsOk Tryz.prog cals:=(CalsOk.cons m_Form.cal (CalsOk.cons m_Rat.cal (CalsOk.base tabsOk)))
theorem cal:CalOk Tryz.prog tabs 15 sig:=calOk_lim' tabOk ck mix Tryz.func15 (by kernel_rfl) (by kernel_rfl) (by kernel_rfl) (by kernel_rfl)
def m3 (x0:Dt22)(x3:Dt22)(x4:Int):S:=⟨[(0,.one (.lf (.val false Kt22 x0))),(3,.one (.lf (.own 0))),(4,.one (.lf (.val true (.int .i64) x4)))],⟨[some ⟨69,Kt69,true,true,x3⟩],[]⟩⟩
def b3 (f3:Dt22→Dt22→Int→Option (Dt22×Unit))(x0:Dt22)(x3:Dt22)(x4:Int):Option (Dt22×Unit):=
 let v1:=(List.length x0:Int)
 let v2:=decide (x4<v1)
 bif v2 then(bif decide (0≤x4)&&decide (x4<(List.length x0:Int))then(let v3:=(List.getD x0 (Int.toNat x4) zt69).1
 bif decide (0≤x4)&&decide (x4<(List.length x0:Int))then(let v4:=((List.getD x0 (Int.toNat x4) zt69).2).1
 (m_Form.F (v4,())).bind fun y5=>
 bif decide (0≤x4)&&decide (x4<(List.length x0:Int))then(let v6:=(((((List.getD x0 (Int.toNat x4) zt69).2).2).1).1).1
 let v7:=(((((List.getD x0 (Int.toNat x4) zt69).2).2).1).1).2
 let v8:=((((List.getD x0 (Int.toNat x4) zt69).2).2).1).2
 (m_Rat.F (((v6,v7),v8),())).bind fun y9=>
 bif decide (0≤x4)&&decide (x4<(List.length x0:Int))then(let v10:=(((List.getD x0 (Int.toNat x4) zt69).2).2).2
 bif decide (0≤x4)&&decide (x4<(List.length x3:Int))then(let v11:=List.set x3 (Int.toNat x4) (v3,(y5.1,(((y9.1.1.1,y9.1.1.2),y9.1.2),v10)))
 let v12:=IntKind.i64.wrap (x4+(1:Int))
 f3 x0 v11 v12)
 else none)
 else none)
 else none)
 else none)
 else none)
 else(some (x3,()))
def e (f3:Dt22→Dt22→Int→Option (Dt22×Unit))(a0:Dt22):Option (Dt22×Unit):=
 let v1:=(List.length a0:Int)
 bif decide (0≤v1)&&(decide (v1≤v1)&&(decide (Int.toNat v1*104≤281474976710656)&&Nat.blt 0 104))then(let v2:=List.replicate (Int.toNat v1) zt69
 f3 a0 v2 (0:Int))
 else none
def L3 (k:Nat)(x0:Dt22)(x3:Dt22)(x4:Int):Option (Dt22×Unit):=heads (spec.env cals T Tryz.f15) (Func.pts Tryz.f15) k 3 (m3 x0 x3 x4)
theorem L3_succ (k:Nat)(x0:Dt22)(x3:Dt22)(x4:Int):L3 (k+1) x0 x3 x4=b3 (L3 k) x0 x3 x4:=by kernel_rfl
theorem eval (k:Nat)(a0:Dt22):evalF spec cals T Tryz.f15 k (a0,())=e (L3 k) a0:=by kernel_rfl
theorem of (k:Nat)(a0:Dt22){y:Dt22×Unit}(h:e (L3 k) a0=some y):F (a0,())=some y:=limF_of k ((eval k a0).trans h)
end w_twin
namespace r01_Norm
def spec:Spec:=⟨[(false,Kt43)],[(false,Kt43)],.own,fun j=>match j with|2=>[(0,.lf (.z 86 (.int .u32) false)),(3,.lf (.v true))]|6=>[(0,.lf (.z 86 (.int .u32) false)),(3,.lf (.v true)),(4,.lf (.o 86 (.int .u32) true)),(5,.lf (.v true))]|_=>[]⟩
def cals:Cals:=(Cals.base tabs)
def sig:Sig:=spec.sig cals T Tryz.f125
def F (x:Dt43×Unit):Option (Dt43×Unit):=limF spec cals T Tryz.f125 x
theorem ck:CalsOk Tryz.prog cals:=(CalsOk.base tabsOk)
theorem cal:CalOk Tryz.prog tabs 125 sig:=calOk_lim' tabOk ck mix Tryz.func125 (by kernel_rfl) (by kernel_rfl) (by kernel_rfl) (by kernel_rfl)
def m2 (x0:Dt43)(x3:Int):S:=⟨[(0,.one (.lf (.val false Kt43 x0))),(3,.one (.lf (.val true (.int .i64) x3)))],⟨[],[]⟩⟩
def m6 (x0:Dt43)(x3:Int)(x4:Dt43)(x5:Int):S:=⟨[(0,.one (.lf (.val false Kt43 x0))),(3,.one (.lf (.val true (.int .i64) x3))),(4,.one (.lf (.own 0))),(5,.one (.lf (.val true (.int .i64) x5)))],⟨[some ⟨86,(.int .u32),true,true,x4⟩],[]⟩⟩
def b2 (f2:Dt43→Int→Option (Dt43×Unit))(f6:Dt43→Int→Dt43→Int→Option (Dt43×Unit))(x0:Dt43)(x3:Int):Option (Dt43×Unit):=
 let v1:=decide (x3>(0:Int))
 bif v1 then(let v2:=IntKind.i64.wrap (x3-(1:Int))
 bif decide (0≤v2)&&decide (v2<(List.length x0:Int))then(let v3:=List.getD x0 (Int.toNat v2) (0:Int)
 let v4:=(v3==(0:Int))
 bif v4 then(let v5:=IntKind.i64.wrap (x3-(1:Int))
 f2 x0 v5)
 else(bif decide (0≤x3)&&(decide (x3≤x3)&&(decide (Int.toNat x3*4≤281474976710656)&&Nat.blt 0 4))then(let v6:=List.replicate (Int.toNat x3) (0:Int)
 f6 x0 x3 v6 (0:Int))
 else none))
 else none)
 else(bif decide (0≤x3)&&(decide (x3≤x3)&&(decide (Int.toNat x3*4≤281474976710656)&&Nat.blt 0 4))then(let v7:=List.replicate (Int.toNat x3) (0:Int)
 f6 x0 x3 v7 (0:Int))
 else none)
def b6 (f2:Dt43→Int→Option (Dt43×Unit))(f6:Dt43→Int→Dt43→Int→Option (Dt43×Unit))(x0:Dt43)(x3:Int)(x4:Dt43)(x5:Int):Option (Dt43×Unit):=
 let v1:=decide (x5<x3)
 bif v1 then(bif decide (0≤x5)&&decide (x5<(List.length x0:Int))then(let v2:=List.getD x0 (Int.toNat x5) (0:Int)
 bif decide (0≤x5)&&decide (x5<(List.length x4:Int))then(let v3:=List.set x4 (Int.toNat x5) v2
 let v4:=IntKind.i64.wrap (x5+(1:Int))
 f6 x0 x3 v3 v4)
 else none)
 else none)
 else(some (x4,()))
def e (f2:Dt43→Int→Option (Dt43×Unit))(f6:Dt43→Int→Dt43→Int→Option (Dt43×Unit))(a0:Dt43):Option (Dt43×Unit):=
 let v1:=(List.length a0:Int)
 f2 a0 v1
def L2 (k:Nat)(x0:Dt43)(x3:Int):Option (Dt43×Unit):=heads (spec.env cals T Tryz.f125) (Func.pts Tryz.f125) k 2 (m2 x0 x3)
def L6 (k:Nat)(x0:Dt43)(x3:Int)(x4:Dt43)(x5:Int):Option (Dt43×Unit):=heads (spec.env cals T Tryz.f125) (Func.pts Tryz.f125) k 6 (m6 x0 x3 x4 x5)
theorem L2_succ (k:Nat)(x0:Dt43)(x3:Int):L2 (k+1) x0 x3=b2 (L2 k) (L6 k) x0 x3:=by kernel_rfl
theorem L6_succ (k:Nat)(x0:Dt43)(x3:Int)(x4:Dt43)(x5:Int):L6 (k+1) x0 x3 x4 x5=b6 (L2 k) (L6 k) x0 x3 x4 x5:=by kernel_rfl
theorem eval (k:Nat)(a0:Dt43):evalF spec cals T Tryz.f125 k (a0,())=e (L2 k) (L6 k) a0:=by kernel_rfl
theorem of (k:Nat)(a0:Dt43){y:Dt43×Unit}(h:e (L2 k) (L6 k) a0=some y):F (a0,())=some y:=limF_of k ((eval k a0).trans h)
end r01_Norm
namespace r01_at
def spec:Spec:=⟨[(false,Kt43),(false,(.int .i64))],[(false,(.int .u64))],.own,fun j=>match j with|_=>[]⟩
def cals:Cals:=(Cals.base tabs)
def sig:Sig:=spec.sig cals T Tryz.f163
def F (x:Dt43×Int×Unit):Option (Int×Unit):=limF spec cals T Tryz.f163 x
theorem ck:CalsOk Tryz.prog cals:=(CalsOk.base tabsOk)
theorem cal:CalOk Tryz.prog tabs 163 sig:=calOk_lim' tabOk ck mix Tryz.func163 (by kernel_rfl) (by kernel_rfl) (by kernel_rfl) (by kernel_rfl)
def e (a0:Dt43)(a1:Int):Option (Int×Unit):=
 let v1:=(List.length a0:Int)
 let v2:=decide (a1≥v1)
 bif v2 then(some ((0:Int),()))
 else(bif decide (0≤a1)&&decide (a1<(List.length a0:Int))then(let v3:=List.getD a0 (Int.toNat a1) (0:Int)
 let v4:=IntKind.u64.wrap v3
 some (v4,()))
 else none)
theorem eval (k:Nat)(a0:Dt43)(a1:Int):evalF spec cals T Tryz.f163 k (a0,a1,())=e a0 a1:=by kernel_rfl
theorem of (k:Nat)(a0:Dt43)(a1:Int){y:Int×Unit}(h:e a0 a1=some y):F (a0,a1,())=some y:=limF_of k ((eval k a0 a1).trans h)
end r01_at
namespace r01_Cmp
def spec:Spec:=⟨[(false,Kt43),(false,Kt43)],[(false,(.int .i64))],.own,fun j=>match j with|5=>[(0,.lf (.z 86 (.int .u32) false)),(1,.lf (.z 86 (.int .u32) false)),(6,.lf (.v true))]|_=>[]⟩
def cals:Cals:=(Cals.cons 163 r01_at.sig (Cals.base tabs))
def sig:Sig:=spec.sig cals T Tryz.f134
def F (x:Dt43×Dt43×Unit):Option (Int×Unit):=limF spec cals T Tryz.f134 x
theorem ck:CalsOk Tryz.prog cals:=(CalsOk.cons r01_at.cal (CalsOk.base tabsOk))
theorem cal:CalOk Tryz.prog tabs 134 sig:=calOk_lim' tabOk ck mix Tryz.func134 (by kernel_rfl) (by kernel_rfl) (by kernel_rfl) (by kernel_rfl)
def m5 (x0:Dt43)(x1:Dt43)(x6:Int):S:=⟨[(0,.one (.lf (.val false Kt43 x0))),(1,.one (.lf (.val false Kt43 x1))),(6,.one (.lf (.val true (.int .i64) x6)))],⟨[],[]⟩⟩
def b5 (f5:Dt43→Dt43→Int→Option (Int×Unit))(x0:Dt43)(x1:Dt43)(x6:Int):Option (Int×Unit):=
 let v1:=decide (x6≥(0:Int))
 bif v1 then((r01_at.F (x0,x6,())).bind fun y2=>
 (r01_at.F (x1,x6,())).bind fun y3=>
 let v4:=decide (y2.1<y3.1)
 bif v4 then(some ((-1:Int),()))
 else((r01_at.F (x0,x6,())).bind fun y5=>
 (r01_at.F (x1,x6,())).bind fun y6=>
 let v7:=decide (y5.1>y6.1)
 bif v7 then(some ((1:Int),()))
 else(let v8:=IntKind.i64.wrap (x6-(1:Int))
 f5 x0 x1 v8)))
 else(some ((0:Int),()))
def e (f5:Dt43→Dt43→Int→Option (Int×Unit))(a0:Dt43)(a1:Dt43):Option (Int×Unit):=
 let v1:=(List.length a0:Int)
 let v2:=(List.length a1:Int)
 let v3:=decide (v2>v1)
 bif v3 then(let v4:=(List.length a1:Int)
 let v5:=IntKind.i64.wrap (v4-(1:Int))
 f5 a0 a1 v5)
 else(let v6:=IntKind.i64.wrap (v1-(1:Int))
 f5 a0 a1 v6)
def L5 (k:Nat)(x0:Dt43)(x1:Dt43)(x6:Int):Option (Int×Unit):=heads (spec.env cals T Tryz.f134) (Func.pts Tryz.f134) k 5 (m5 x0 x1 x6)
theorem L5_succ (k:Nat)(x0:Dt43)(x1:Dt43)(x6:Int):L5 (k+1) x0 x1 x6=b5 (L5 k) x0 x1 x6:=by kernel_rfl
theorem eval (k:Nat)(a0:Dt43)(a1:Dt43):evalF spec cals T Tryz.f134 k (a0,a1,())=e (L5 k) a0 a1:=by kernel_rfl
theorem of (k:Nat)(a0:Dt43)(a1:Dt43){y:Int×Unit}(h:e (L5 k) a0 a1=some y):F (a0,a1,())=some y:=limF_of k ((eval k a0 a1).trans h)
end r01_Cmp
namespace r01_Sub
def spec:Spec:=⟨[(false,Kt43),(false,Kt43)],[(false,Kt43),(false,(.int .i64))],.own,fun j=>match j with|6=>[(0,.lf (.z 86 (.int .u32) false)),(1,.lf (.z 86 (.int .u32) false)),(6,.lf (.o 86 (.int .u32) true)),(7,.lf (.v true)),(8,.lf (.v true))]|_=>[]⟩
def cals:Cals:=(Cals.cons 134 r01_Cmp.sig (Cals.cons 163 r01_at.sig (Cals.cons 125 r01_Norm.sig (Cals.base tabs))))
def sig:Sig:=spec.sig cals T Tryz.f135
def F (x:Dt43×Dt43×Unit):Option (Dt43×Int×Unit):=limF spec cals T Tryz.f135 x
theorem ck:CalsOk Tryz.prog cals:=(CalsOk.cons r01_Cmp.cal (CalsOk.cons r01_at.cal (CalsOk.cons r01_Norm.cal (CalsOk.base tabsOk))))
theorem cal:CalOk Tryz.prog tabs 135 sig:=calOk_lim' tabOk ck mix Tryz.func135 (by kernel_rfl) (by kernel_rfl) (by kernel_rfl) (by kernel_rfl)
def m6 (x0:Dt43)(x1:Dt43)(x6:Dt43)(x7:Int)(x8:Int):S:=⟨[(0,.one (.lf (.val false Kt43 x0))),(1,.one (.lf (.val false Kt43 x1))),(6,.one (.lf (.own 0))),(7,.one (.lf (.val true (.int .u64) x7))),(8,.one (.lf (.val true (.int .i64) x8)))],⟨[some ⟨86,(.int .u32),true,true,x6⟩],[]⟩⟩
def b6 (f6:Dt43→Dt43→Dt43→Int→Int→Option (Dt43×Int×Unit))(x0:Dt43)(x1:Dt43)(x6:Dt43)(x7:Int)(x8:Int):Option (Dt43×Int×Unit):=
 let v1:=(List.length x0:Int)
 let v2:=decide (x8<v1)
 bif v2 then((r01_at.F (x0,x8,())).bind fun y3=>
 (r01_at.F (x1,x8,())).bind fun y4=>
 let v5:=IntKind.u64.wrap (y3.1-y4.1)
 let v6:=IntKind.u64.wrap (v5-x7)
 let v7:=IntKind.u32.wrap v6
 bif decide (0≤x8)&&decide (x8<(List.length x6:Int))then(let v8:=List.set x6 (Int.toNat x8) v7
 bif decide ((63:Int)<0)then none
 else(let v9:=shrI .u64 v6 (63:Int)
 let v10:=IntKind.i64.wrap (x8+(1:Int))
 f6 x0 x1 v8 v9 v10))
 else none)
 else((r01_Norm.F (x6,())).bind fun y11=>
 some (y11.1,(0:Int),()))
def e (f6:Dt43→Dt43→Dt43→Int→Int→Option (Dt43×Int×Unit))(a0:Dt43)(a1:Dt43):Option (Dt43×Int×Unit):=
 (r01_Cmp.F (a0,a1,())).bind fun y1=>
 let v2:=decide (y1.1<(0:Int))
 bif v2 then(some (zt43,(10:Int),()))
 else(let v3:=(List.length a0:Int)
 bif decide (0≤v3)&&(decide (v3≤v3)&&(decide (Int.toNat v3*4≤281474976710656)&&Nat.blt 0 4))then(let v4:=List.replicate (Int.toNat v3) (0:Int)
 f6 a0 a1 v4 (0:Int) (0:Int))
 else none)
def L6 (k:Nat)(x0:Dt43)(x1:Dt43)(x6:Dt43)(x7:Int)(x8:Int):Option (Dt43×Int×Unit):=heads (spec.env cals T Tryz.f135) (Func.pts Tryz.f135) k 6 (m6 x0 x1 x6 x7 x8)
theorem L6_succ (k:Nat)(x0:Dt43)(x1:Dt43)(x6:Dt43)(x7:Int)(x8:Int):L6 (k+1) x0 x1 x6 x7 x8=b6 (L6 k) x0 x1 x6 x7 x8:=by kernel_rfl
theorem eval (k:Nat)(a0:Dt43)(a1:Dt43):evalF spec cals T Tryz.f135 k (a0,a1,())=e (L6 k) a0 a1:=by kernel_rfl
theorem of (k:Nat)(a0:Dt43)(a1:Dt43){y:Dt43×Int×Unit}(h:e (L6 k) a0 a1=some y):F (a0,a1,())=some y:=limF_of k ((eval k a0 a1).trans h)
end r01_Sub
namespace r01_Bit
def spec:Spec:=⟨[(false,Kt43),(false,(.int .i64))],[(false,.bool)],.own,fun j=>match j with|_=>[]⟩
def cals:Cals:=(Cals.base tabs)
def sig:Sig:=spec.sig cals T Tryz.f158
def F (x:Dt43×Int×Unit):Option (Bool×Unit):=limF spec cals T Tryz.f158 x
theorem ck:CalsOk Tryz.prog cals:=(CalsOk.base tabsOk)
theorem cal:CalOk Tryz.prog tabs 158 sig:=calOk_lim' tabOk ck mix Tryz.func158 (by kernel_rfl) (by kernel_rfl) (by kernel_rfl) (by kernel_rfl)
def e (a0:Dt43)(a1:Int):Option (Bool×Unit):=
 let v1:=decide (a1≥(0:Int))
 bif v1 then(bif decide ((32:Int)=0)then none
 else(let v2:=IntKind.i64.wrap (Int.tdiv a1 (32:Int))
 let v3:=(List.length a0:Int)
 let v4:=decide (v2<v3)
 bif v4 then(bif decide ((32:Int)=0)then none
 else(let v5:=IntKind.i64.wrap (Int.tdiv a1 (32:Int))
 bif decide (0≤v5)&&decide (v5<(List.length a0:Int))then(let v6:=List.getD a0 (Int.toNat v5) (0:Int)
 bif decide ((32:Int)=0)then none
 else(let v7:=Int.tmod a1 (32:Int)
 let v8:=IntKind.u64.wrap v7
 bif decide (v8<0)then none
 else(let v9:=shrI .u32 v6 v8
 let v10:=bitsOp .and .u32 v9 (1:Int)
 let v11:=(v10==(1:Int))
 some (v11,()))))
 else none))
 else(some (false,()))))
 else(some (false,()))
theorem eval (k:Nat)(a0:Dt43)(a1:Int):evalF spec cals T Tryz.f158 k (a0,a1,())=e a0 a1:=by kernel_rfl
theorem of (k:Nat)(a0:Dt43)(a1:Int){y:Bool×Unit}(h:e a0 a1=some y):F (a0,a1,())=some y:=limF_of k ((eval k a0 a1).trans h)
end r01_Bit
namespace r01_Shift
def spec:Spec:=⟨[(false,Kt43),(false,(.int .i64))],[(false,Kt43),(false,(.int .i64))],.own,fun j=>match j with|15=>[(0,.lf (.z 86 (.int .u32) false)),(6,.lf (.v true)),(7,.lf (.o 86 (.int .u32) true)),(8,.lf (.v true)),(9,.lf (.v true)),(10,.lf (.v true))]|_=>[]⟩
def cals:Cals:=(Cals.cons 125 r01_Norm.sig (Cals.base tabs))
def sig:Sig:=spec.sig cals T Tryz.f159
def F (x:Dt43×Int×Unit):Option (Dt43×Int×Unit):=limF spec cals T Tryz.f159 x
theorem ck:CalsOk Tryz.prog cals:=(CalsOk.cons r01_Norm.cal (CalsOk.base tabsOk))
theorem cal:CalOk Tryz.prog tabs 159 sig:=calOk_lim' tabOk ck mix Tryz.func159 (by kernel_rfl) (by kernel_rfl) (by kernel_rfl) (by kernel_rfl)
def m15 (x0:Dt43)(x6:Int)(x7:Dt43)(x8:Int)(x9:Int)(x10:Int):S:=⟨[(0,.one (.lf (.val false Kt43 x0))),(6,.one (.lf (.val true (.int .i64) x6))),(7,.one (.lf (.own 0))),(8,.one (.lf (.val true (.int .i64) x8))),(9,.one (.lf (.val true (.int .i64) x9))),(10,.one (.lf (.val true (.int .i64) x10)))],⟨[some ⟨86,(.int .u32),true,true,x7⟩],[]⟩⟩
def b15 (f15:Dt43→Int→Dt43→Int→Int→Int→Option (Dt43×Int×Unit))(x0:Dt43)(x6:Int)(x7:Dt43)(x8:Int)(x9:Int)(x10:Int):Option (Dt43×Int×Unit):=
 let v1:=(List.length x0:Int)
 let v2:=decide (x10<v1)
 bif v2 then(bif decide (0≤x10)&&decide (x10<(List.length x0:Int))then(let v3:=List.getD x0 (Int.toNat x10) (0:Int)
 let v4:=IntKind.u64.wrap v3
 let v5:=IntKind.u64.wrap x9
 bif decide (v5<0)then none
 else(let v6:=shlI .u64 v4 v5
 let v7:=IntKind.i64.wrap (x10+x8)
 let v8:=decide (v7≥(0:Int))
 bif v8 then(let v9:=IntKind.i64.wrap (x10+x8)
 let v10:=decide (v9<x6)
 bif v10 then(let v11:=IntKind.i64.wrap (x10+x8)
 bif decide (0≤v11)&&decide (v11<(List.length x7:Int))then(let v12:=List.getD x7 (Int.toNat v11) (0:Int)
 let v13:=IntKind.u32.wrap v6
 let v14:=bitsOp .or .u32 v12 v13
 bif decide (0≤v11)&&decide (v11<(List.length x7:Int))then(let v15:=List.set x7 (Int.toNat v11) v14
 let v16:=IntKind.i64.wrap (x10+x8)
 let v17:=IntKind.i64.wrap (v16+(1:Int))
 let v18:=decide (v17≥(0:Int))
 bif v18 then(let v19:=IntKind.i64.wrap (x10+x8)
 let v20:=IntKind.i64.wrap (v19+(1:Int))
 let v21:=decide (v20<x6)
 bif v21 then(let v22:=IntKind.i64.wrap (x10+x8)
 let v23:=IntKind.i64.wrap (v22+(1:Int))
 bif decide (0≤v23)&&decide (v23<(List.length v15:Int))then(let v24:=List.getD v15 (Int.toNat v23) (0:Int)
 bif decide ((32:Int)<0)then none
 else(let v25:=shrI .u64 v6 (32:Int)
 let v26:=IntKind.u32.wrap v25
 let v27:=bitsOp .or .u32 v24 v26
 bif decide (0≤v23)&&decide (v23<(List.length v15:Int))then(let v28:=List.set v15 (Int.toNat v23) v27
 let v29:=IntKind.i64.wrap (x10+(1:Int))
 f15 x0 x6 v28 x8 x9 v29)
 else none))
 else none)
 else(let v30:=IntKind.i64.wrap (x10+(1:Int))
 f15 x0 x6 v15 x8 x9 v30))
 else(let v31:=IntKind.i64.wrap (x10+(1:Int))
 f15 x0 x6 v15 x8 x9 v31))
 else none)
 else none)
 else(let v32:=IntKind.i64.wrap (x10+x8)
 let v33:=IntKind.i64.wrap (v32+(1:Int))
 let v34:=decide (v33≥(0:Int))
 bif v34 then(let v35:=IntKind.i64.wrap (x10+x8)
 let v36:=IntKind.i64.wrap (v35+(1:Int))
 let v37:=decide (v36<x6)
 bif v37 then(let v38:=IntKind.i64.wrap (x10+x8)
 let v39:=IntKind.i64.wrap (v38+(1:Int))
 bif decide (0≤v39)&&decide (v39<(List.length x7:Int))then(let v40:=List.getD x7 (Int.toNat v39) (0:Int)
 bif decide ((32:Int)<0)then none
 else(let v41:=shrI .u64 v6 (32:Int)
 let v42:=IntKind.u32.wrap v41
 let v43:=bitsOp .or .u32 v40 v42
 bif decide (0≤v39)&&decide (v39<(List.length x7:Int))then(let v44:=List.set x7 (Int.toNat v39) v43
 let v45:=IntKind.i64.wrap (x10+(1:Int))
 f15 x0 x6 v44 x8 x9 v45)
 else none))
 else none)
 else(let v46:=IntKind.i64.wrap (x10+(1:Int))
 f15 x0 x6 x7 x8 x9 v46))
 else(let v47:=IntKind.i64.wrap (x10+(1:Int))
 f15 x0 x6 x7 x8 x9 v47)))
 else(let v48:=IntKind.i64.wrap (x10+x8)
 let v49:=IntKind.i64.wrap (v48+(1:Int))
 let v50:=decide (v49≥(0:Int))
 bif v50 then(let v51:=IntKind.i64.wrap (x10+x8)
 let v52:=IntKind.i64.wrap (v51+(1:Int))
 let v53:=decide (v52<x6)
 bif v53 then(let v54:=IntKind.i64.wrap (x10+x8)
 let v55:=IntKind.i64.wrap (v54+(1:Int))
 bif decide (0≤v55)&&decide (v55<(List.length x7:Int))then(let v56:=List.getD x7 (Int.toNat v55) (0:Int)
 bif decide ((32:Int)<0)then none
 else(let v57:=shrI .u64 v6 (32:Int)
 let v58:=IntKind.u32.wrap v57
 let v59:=bitsOp .or .u32 v56 v58
 bif decide (0≤v55)&&decide (v55<(List.length x7:Int))then(let v60:=List.set x7 (Int.toNat v55) v59
 let v61:=IntKind.i64.wrap (x10+(1:Int))
 f15 x0 x6 v60 x8 x9 v61)
 else none))
 else none)
 else(let v62:=IntKind.i64.wrap (x10+(1:Int))
 f15 x0 x6 x7 x8 x9 v62))
 else(let v63:=IntKind.i64.wrap (x10+(1:Int))
 f15 x0 x6 x7 x8 x9 v63))))
 else none)
 else((r01_Norm.F (x7,())).bind fun y64=>
 some (y64.1,(0:Int),()))
def e (f15:Dt43→Int→Dt43→Int→Int→Int→Option (Dt43×Int×Unit))(a0:Dt43)(a1:Int):Option (Dt43×Int×Unit):=
 let v1:=decide (a1<(-1048576:Int))
 bif v1 then(some (zt43,(12:Int),()))
 else(let v2:=decide (a1>(1048576:Int))
 bif v2 then(some (zt43,(12:Int),()))
 else((r01_Norm.F (a0,())).bind fun y3=>
 let v4:=(List.length y3.1:Int)
 let v5:=(v4==(0:Int))
 bif v5 then(let v6:=zt43
 some (v6,(0:Int),()))
 else(let v7:=(List.length a0:Int)
 let v8:=decide (a1>(0:Int))
 bif v8 then(bif decide ((32:Int)=0)then none
 else(let v9:=IntKind.i64.wrap (Int.tdiv a1 (32:Int))
 let v10:=IntKind.i64.wrap (v9+(1:Int))
 let v11:=IntKind.i64.wrap (v7+v10)
 bif decide (0≤v11)&&(decide (v11≤v11)&&(decide (Int.toNat v11*4≤281474976710656)&&Nat.blt 0 4))then(let v12:=List.replicate (Int.toNat v11) (0:Int)
 bif decide ((32:Int)=0)then none
 else(let v13:=IntKind.i64.wrap (Int.tdiv a1 (32:Int))
 bif decide ((32:Int)=0)then none
 else(let v14:=Int.tmod a1 (32:Int)
 let v15:=decide (v14<(0:Int))
 bif v15 then(let v16:=IntKind.i64.wrap (v13-(1:Int))
 let v17:=IntKind.i64.wrap (v14+(32:Int))
 f15 a0 v11 v12 v16 v17 (0:Int))
 else(f15 a0 v11 v12 v13 v14 (0:Int)))))
 else none))
 else(bif decide (0≤v7)&&(decide (v7≤v7)&&(decide (Int.toNat v7*4≤281474976710656)&&Nat.blt 0 4))then(let v18:=List.replicate (Int.toNat v7) (0:Int)
 bif decide ((32:Int)=0)then none
 else(let v19:=IntKind.i64.wrap (Int.tdiv a1 (32:Int))
 bif decide ((32:Int)=0)then none
 else(let v20:=Int.tmod a1 (32:Int)
 let v21:=decide (v20<(0:Int))
 bif v21 then(let v22:=IntKind.i64.wrap (v19-(1:Int))
 let v23:=IntKind.i64.wrap (v20+(32:Int))
 f15 a0 v7 v18 v22 v23 (0:Int))
 else(f15 a0 v7 v18 v19 v20 (0:Int)))))
 else none))))
def L15 (k:Nat)(x0:Dt43)(x6:Int)(x7:Dt43)(x8:Int)(x9:Int)(x10:Int):Option (Dt43×Int×Unit):=heads (spec.env cals T Tryz.f159) (Func.pts Tryz.f159) k 15 (m15 x0 x6 x7 x8 x9 x10)
theorem L15_succ (k:Nat)(x0:Dt43)(x6:Int)(x7:Dt43)(x8:Int)(x9:Int)(x10:Int):L15 (k+1) x0 x6 x7 x8 x9 x10=b15 (L15 k) x0 x6 x7 x8 x9 x10:=by kernel_rfl
theorem eval (k:Nat)(a0:Dt43)(a1:Int):evalF spec cals T Tryz.f159 k (a0,a1,())=e (L15 k) a0 a1:=by kernel_rfl
theorem of (k:Nat)(a0:Dt43)(a1:Int){y:Dt43×Int×Unit}(h:e (L15 k) a0 a1=some y):F (a0,a1,())=some y:=limF_of k ((eval k a0 a1).trans h)
end r01_Shift
namespace r01_twice
def spec:Spec:=⟨[(false,Kt43),(false,.bool)],[(false,Kt43)],.own,fun j=>match j with|6=>[(0,.lf (.z 86 (.int .u32) false)),(5,.lf (.o 86 (.int .u32) true)),(6,.lf (.v true)),(7,.lf (.v true))]|_=>[]⟩
def cals:Cals:=(Cals.cons 125 r01_Norm.sig (Cals.base tabs))
def sig:Sig:=spec.sig cals T Tryz.f160
def F (x:Dt43×Bool×Unit):Option (Dt43×Unit):=limF spec cals T Tryz.f160 x
theorem ck:CalsOk Tryz.prog cals:=(CalsOk.cons r01_Norm.cal (CalsOk.base tabsOk))
theorem cal:CalOk Tryz.prog tabs 160 sig:=calOk_lim' tabOk ck mix Tryz.func160 (by kernel_rfl) (by kernel_rfl) (by kernel_rfl) (by kernel_rfl)
def m6 (x0:Dt43)(x5:Dt43)(x6:Int)(x7:Int):S:=⟨[(0,.one (.lf (.val false Kt43 x0))),(5,.one (.lf (.own 0))),(6,.one (.lf (.val true (.int .u32) x6))),(7,.one (.lf (.val true (.int .i64) x7)))],⟨[some ⟨86,(.int .u32),true,true,x5⟩],[]⟩⟩
def b6 (f6:Dt43→Dt43→Int→Int→Option (Dt43×Unit))(x0:Dt43)(x5:Dt43)(x6:Int)(x7:Int):Option (Dt43×Unit):=
 let v1:=(List.length x0:Int)
 let v2:=decide (x7<v1)
 bif v2 then(bif decide (0≤x7)&&decide (x7<(List.length x0:Int))then(let v3:=List.getD x0 (Int.toNat x7) (0:Int)
 bif decide ((1:Int)<0)then none
 else(let v4:=shlI .u32 v3 (1:Int)
 let v5:=bitsOp .or .u32 v4 x6
 bif decide (0≤x7)&&decide (x7<(List.length x5:Int))then(let v6:=List.set x5 (Int.toNat x7) v5
 bif decide (0≤x7)&&decide (x7<(List.length x0:Int))then(let v7:=List.getD x0 (Int.toNat x7) (0:Int)
 bif decide ((31:Int)<0)then none
 else(let v8:=shrI .u32 v7 (31:Int)
 let v9:=IntKind.i64.wrap (x7+(1:Int))
 f6 x0 v6 v8 v9))
 else none)
 else none))
 else none)
 else(let v10:=(List.length x0:Int)
 bif decide (0≤v10)&&decide (v10<(List.length x5:Int))then(let v11:=List.set x5 (Int.toNat v10) x6
 (r01_Norm.F (v11,())).bind fun y12=>
 some (y12.1,()))
 else none)
def e (f6:Dt43→Dt43→Int→Int→Option (Dt43×Unit))(a0:Dt43)(a1:Bool):Option (Dt43×Unit):=
 let v1:=(List.length a0:Int)
 let v2:=IntKind.i64.wrap (v1+(1:Int))
 bif decide (0≤v2)&&(decide (v2≤v2)&&(decide (Int.toNat v2*4≤281474976710656)&&Nat.blt 0 4))then(let v3:=List.replicate (Int.toNat v2) (0:Int)
 bif a1 then(f6 a0 v3 (1:Int) (0:Int))
 else(f6 a0 v3 (0:Int) (0:Int)))
 else none
def L6 (k:Nat)(x0:Dt43)(x5:Dt43)(x6:Int)(x7:Int):Option (Dt43×Unit):=heads (spec.env cals T Tryz.f160) (Func.pts Tryz.f160) k 6 (m6 x0 x5 x6 x7)
theorem L6_succ (k:Nat)(x0:Dt43)(x5:Dt43)(x6:Int)(x7:Int):L6 (k+1) x0 x5 x6 x7=b6 (L6 k) x0 x5 x6 x7:=by kernel_rfl
theorem eval (k:Nat)(a0:Dt43)(a1:Bool):evalF spec cals T Tryz.f160 k (a0,a1,())=e (L6 k) a0 a1:=by kernel_rfl
theorem of (k:Nat)(a0:Dt43)(a1:Bool){y:Dt43×Unit}(h:e (L6 k) a0 a1=some y):F (a0,a1,())=some y:=limF_of k ((eval k a0 a1).trans h)
end r01_twice
namespace r01_Gcd
def spec:Spec:=⟨[(false,Kt43),(false,Kt43)],[(false,Kt43)],.own,fun j=>match j with|11=>[(0,.lf (.o 86 (.int .u32) true)),(1,.lf (.o 86 (.int .u32) true)),(6,.lf (.v true))]|15=>[(0,.lf (.o 86 (.int .u32) true)),(1,.lf (.o 86 (.int .u32) true)),(6,.lf (.v true))]|16=>[(0,.lf (.o 86 (.int .u32) true)),(1,.lf (.o 86 (.int .u32) true)),(6,.lf (.v true))]|18=>[(0,.lf (.o 86 (.int .u32) true)),(1,.lf (.o 86 (.int .u32) true)),(6,.lf (.v true))]|24=>[(0,.lf (.o 86 (.int .u32) true)),(6,.lf (.v true)),(7,.lf (.v true))]|_=>[]⟩
def cals:Cals:=(Cals.cons 125 r01_Norm.sig (Cals.cons 134 r01_Cmp.sig (Cals.cons 158 r01_Bit.sig (Cals.cons 159 r01_Shift.sig (Cals.cons 135 r01_Sub.sig (Cals.cons 160 r01_twice.sig (Cals.base tabs)))))))
def sig:Sig:=spec.sig cals T Tryz.f122
def F (x:Dt43×Dt43×Unit):Option (Dt43×Unit):=limF spec cals T Tryz.f122 x
theorem ck:CalsOk Tryz.prog cals:=(CalsOk.cons r01_Norm.cal (CalsOk.cons r01_Cmp.cal (CalsOk.cons r01_Bit.cal (CalsOk.cons r01_Shift.cal (CalsOk.cons r01_Sub.cal (CalsOk.cons r01_twice.cal (CalsOk.base tabsOk)))))))
theorem cal:CalOk Tryz.prog tabs 122 sig:=calOk_lim' tabOk ck mix Tryz.func122 (by kernel_rfl) (by kernel_rfl) (by kernel_rfl) (by kernel_rfl)
def m11 (x0:Dt43)(x1:Dt43)(x6:Int):S:=⟨[(0,.one (.lf (.own 0))),(1,.one (.lf (.own 1))),(6,.one (.lf (.val true (.int .i64) x6)))],⟨[some ⟨86,(.int .u32),true,true,x0⟩,some ⟨86,(.int .u32),true,true,x1⟩],[]⟩⟩
def m15 (x0:Dt43)(x1:Dt43)(x6:Int):S:=⟨[(0,.one (.lf (.own 0))),(1,.one (.lf (.own 1))),(6,.one (.lf (.val true (.int .i64) x6)))],⟨[some ⟨86,(.int .u32),true,true,x0⟩,some ⟨86,(.int .u32),true,true,x1⟩],[]⟩⟩
def m16 (x0:Dt43)(x1:Dt43)(x6:Int):S:=⟨[(0,.one (.lf (.own 0))),(1,.one (.lf (.own 1))),(6,.one (.lf (.val true (.int .i64) x6)))],⟨[some ⟨86,(.int .u32),true,true,x0⟩,some ⟨86,(.int .u32),true,true,x1⟩],[]⟩⟩
def m18 (x0:Dt43)(x1:Dt43)(x6:Int):S:=⟨[(0,.one (.lf (.own 0))),(1,.one (.lf (.own 1))),(6,.one (.lf (.val true (.int .i64) x6)))],⟨[some ⟨86,(.int .u32),true,true,x0⟩,some ⟨86,(.int .u32),true,true,x1⟩],[]⟩⟩
def m24 (x0:Dt43)(x6:Int)(x7:Int):S:=⟨[(0,.one (.lf (.own 0))),(6,.one (.lf (.val true (.int .i64) x6))),(7,.one (.lf (.val true (.int .i64) x7)))],⟨[some ⟨86,(.int .u32),true,true,x0⟩],[]⟩⟩
def b11 (f11:Dt43→Dt43→Int→Option (Dt43×Unit))(f15:Dt43→Dt43→Int→Option (Dt43×Unit))(f16:Dt43→Dt43→Int→Option (Dt43×Unit))(f18:Dt43→Dt43→Int→Option (Dt43×Unit))(f24:Dt43→Int→Int→Option (Dt43×Unit))(x0:Dt43)(x1:Dt43)(x6:Int):Option (Dt43×Unit):=
 (r01_Bit.F (x0,(0:Int),())).bind fun y1=>
 let v2:=not y1.1
 bif v2 then((r01_Bit.F (x1,(0:Int),())).bind fun y3=>
 let v4:=not y3.1
 bif v4 then((r01_Shift.F (x0,(-1:Int),())).bind fun y5=>
 (r01_Shift.F (x1,(-1:Int),())).bind fun y6=>
 let v7:=IntKind.i64.wrap (x6+(1:Int))
 f11 y5.1 y6.1 v7)
 else(f15 x0 x1 x6))
 else(f15 x0 x1 x6)
def b15 (f11:Dt43→Dt43→Int→Option (Dt43×Unit))(f15:Dt43→Dt43→Int→Option (Dt43×Unit))(f16:Dt43→Dt43→Int→Option (Dt43×Unit))(f18:Dt43→Dt43→Int→Option (Dt43×Unit))(f24:Dt43→Int→Int→Option (Dt43×Unit))(x0:Dt43)(x1:Dt43)(x6:Int):Option (Dt43×Unit):=
 let v1:=(List.length x1:Int)
 let v2:=decide (v1>(0:Int))
 bif v2 then(f16 x0 x1 x6)
 else(f24 x0 x6 (0:Int))
def b16 (f11:Dt43→Dt43→Int→Option (Dt43×Unit))(f15:Dt43→Dt43→Int→Option (Dt43×Unit))(f16:Dt43→Dt43→Int→Option (Dt43×Unit))(f18:Dt43→Dt43→Int→Option (Dt43×Unit))(f24:Dt43→Int→Int→Option (Dt43×Unit))(x0:Dt43)(x1:Dt43)(x6:Int):Option (Dt43×Unit):=
 (r01_Bit.F (x0,(0:Int),())).bind fun y1=>
 let v2:=not y1.1
 bif v2 then((r01_Shift.F (x0,(-1:Int),())).bind fun y3=>
 f16 y3.1 x1 x6)
 else(f18 x0 x1 x6)
def b18 (f11:Dt43→Dt43→Int→Option (Dt43×Unit))(f15:Dt43→Dt43→Int→Option (Dt43×Unit))(f16:Dt43→Dt43→Int→Option (Dt43×Unit))(f18:Dt43→Dt43→Int→Option (Dt43×Unit))(f24:Dt43→Int→Int→Option (Dt43×Unit))(x0:Dt43)(x1:Dt43)(x6:Int):Option (Dt43×Unit):=
 (r01_Bit.F (x1,(0:Int),())).bind fun y1=>
 let v2:=not y1.1
 bif v2 then((r01_Shift.F (x1,(-1:Int),())).bind fun y3=>
 f18 x0 y3.1 x6)
 else((r01_Cmp.F (x0,x1,())).bind fun y4=>
 let v5:=decide (y4.1>(0:Int))
 bif v5 then((r01_Sub.F (x0,x1,())).bind fun y6=>
 f15 x1 y6.1 x6)
 else((r01_Sub.F (x1,x0,())).bind fun y7=>
 f15 x0 y7.1 x6))
def b24 (f11:Dt43→Dt43→Int→Option (Dt43×Unit))(f15:Dt43→Dt43→Int→Option (Dt43×Unit))(f16:Dt43→Dt43→Int→Option (Dt43×Unit))(f18:Dt43→Dt43→Int→Option (Dt43×Unit))(f24:Dt43→Int→Int→Option (Dt43×Unit))(x0:Dt43)(x6:Int)(x7:Int):Option (Dt43×Unit):=
 let v1:=decide (x7<x6)
 bif v1 then((r01_twice.F (x0,false,())).bind fun y2=>
 let v3:=IntKind.i64.wrap (x7+(1:Int))
 f24 y2.1 x6 v3)
 else(some (x0,()))
def e (f11:Dt43→Dt43→Int→Option (Dt43×Unit))(f15:Dt43→Dt43→Int→Option (Dt43×Unit))(f16:Dt43→Dt43→Int→Option (Dt43×Unit))(f18:Dt43→Dt43→Int→Option (Dt43×Unit))(f24:Dt43→Int→Int→Option (Dt43×Unit))(a0:Dt43)(a1:Dt43):Option (Dt43×Unit):=
 (r01_Norm.F (a0,())).bind fun y1=>
 (r01_Norm.F (a1,())).bind fun y2=>
 let v3:=(List.length y1.1:Int)
 let v4:=(v3==(0:Int))
 bif v4 then(some (y2.1,()))
 else(let v5:=(List.length y2.1:Int)
 let v6:=(v5==(0:Int))
 bif v6 then(some (y1.1,()))
 else(let v7:=([(1:Int)]:List Int)
 (r01_Cmp.F (y1.1,v7,())).bind fun y8=>
 let v9:=(y8.1==(0:Int))
 bif v9 then(some (v7,()))
 else((r01_Cmp.F (y2.1,v7,())).bind fun y10=>
 let v11:=(y10.1==(0:Int))
 bif v11 then(some (v7,()))
 else(f11 y1.1 y2.1 (0:Int)))))
def L11 (k:Nat)(x0:Dt43)(x1:Dt43)(x6:Int):Option (Dt43×Unit):=heads (spec.env cals T Tryz.f122) (Func.pts Tryz.f122) k 11 (m11 x0 x1 x6)
def L15 (k:Nat)(x0:Dt43)(x1:Dt43)(x6:Int):Option (Dt43×Unit):=heads (spec.env cals T Tryz.f122) (Func.pts Tryz.f122) k 15 (m15 x0 x1 x6)
def L16 (k:Nat)(x0:Dt43)(x1:Dt43)(x6:Int):Option (Dt43×Unit):=heads (spec.env cals T Tryz.f122) (Func.pts Tryz.f122) k 16 (m16 x0 x1 x6)
def L18 (k:Nat)(x0:Dt43)(x1:Dt43)(x6:Int):Option (Dt43×Unit):=heads (spec.env cals T Tryz.f122) (Func.pts Tryz.f122) k 18 (m18 x0 x1 x6)
def L24 (k:Nat)(x0:Dt43)(x6:Int)(x7:Int):Option (Dt43×Unit):=heads (spec.env cals T Tryz.f122) (Func.pts Tryz.f122) k 24 (m24 x0 x6 x7)
theorem L11_succ (k:Nat)(x0:Dt43)(x1:Dt43)(x6:Int):L11 (k+1) x0 x1 x6=b11 (L11 k) (L15 k) (L16 k) (L18 k) (L24 k) x0 x1 x6:=by kernel_rfl
theorem L15_succ (k:Nat)(x0:Dt43)(x1:Dt43)(x6:Int):L15 (k+1) x0 x1 x6=b15 (L11 k) (L15 k) (L16 k) (L18 k) (L24 k) x0 x1 x6:=by kernel_rfl
theorem L16_succ (k:Nat)(x0:Dt43)(x1:Dt43)(x6:Int):L16 (k+1) x0 x1 x6=b16 (L11 k) (L15 k) (L16 k) (L18 k) (L24 k) x0 x1 x6:=by kernel_rfl
theorem L18_succ (k:Nat)(x0:Dt43)(x1:Dt43)(x6:Int):L18 (k+1) x0 x1 x6=b18 (L11 k) (L15 k) (L16 k) (L18 k) (L24 k) x0 x1 x6:=by kernel_rfl
theorem L24_succ (k:Nat)(x0:Dt43)(x6:Int)(x7:Int):L24 (k+1) x0 x6 x7=b24 (L11 k) (L15 k) (L16 k) (L18 k) (L24 k) x0 x6 x7:=by kernel_rfl
theorem eval (k:Nat)(a0:Dt43)(a1:Dt43):evalF spec cals T Tryz.f122 k (a0,a1,())=e (L11 k) (L15 k) (L16 k) (L18 k) (L24 k) a0 a1:=by kernel_rfl
theorem of (k:Nat)(a0:Dt43)(a1:Dt43){y:Dt43×Unit}(h:e (L11 k) (L15 k) (L16 k) (L18 k) (L24 k) a0 a1=some y):F (a0,a1,())=some y:=limF_of k ((eval k a0 a1).trans h)
end r01_Gcd
namespace r02_made
def spec:Spec:=⟨[(false,.bool),(false,Kt43)],[(true,Kt45)],.own,fun j=>match j with|_=>[]⟩
def cals:Cals:=(Cals.cons 125 r01_Norm.sig (Cals.base tabs))
def sig:Sig:=spec.sig cals T Tryz.f127
def F (x:Bool×Dt43×Unit):Option (Dt45×Unit):=limF spec cals T Tryz.f127 x
theorem ck:CalsOk Tryz.prog cals:=(CalsOk.cons r01_Norm.cal (CalsOk.base tabsOk))
theorem cal:CalOk Tryz.prog tabs 127 sig:=calOk_lim' tabOk ck mix Tryz.func127 (by kernel_rfl) (by kernel_rfl) (by kernel_rfl) (by kernel_rfl)
def e (a0:Bool)(a1:Dt43):Option (Dt45×Unit):=
 (r01_Norm.F (a1,())).bind fun y1=>
 bif a0 then(let v2:=(List.length y1.1:Int)
 let v3:=decide (v2>(0:Int))
 some ((v3,y1.1),()))
 else(some ((false,y1.1),()))
theorem eval (k:Nat)(a0:Bool)(a1:Dt43):evalF spec cals T Tryz.f127 k (a0,a1,())=e a0 a1:=by kernel_rfl
theorem of (k:Nat)(a0:Bool)(a1:Dt43){y:Dt45×Unit}(h:e a0 a1=some y):F (a0,a1,())=some y:=limF_of k ((eval k a0 a1).trans h)
end r02_made
namespace r02_Norm
def spec:Spec:=⟨[(true,Kt45)],[(true,Kt45)],.own,fun j=>match j with|_=>[]⟩
def cals:Cals:=(Cals.cons 127 r02_made.sig (Cals.base tabs))
def sig:Sig:=spec.sig cals T Tryz.f124
def F (x:Dt45×Unit):Option (Dt45×Unit):=limF spec cals T Tryz.f124 x
theorem ck:CalsOk Tryz.prog cals:=(CalsOk.cons r02_made.cal (CalsOk.base tabsOk))
theorem cal:CalOk Tryz.prog tabs 124 sig:=calOk_lim' tabOk ck mix Tryz.func124 (by kernel_rfl) (by kernel_rfl) (by kernel_rfl) (by kernel_rfl)
def e (a0:Dt45):Option (Dt45×Unit):=
 (r02_made.F (a0.1,a0.2,())).bind fun y1=>
 some ((y1.1.1,y1.1.2),())
theorem eval (k:Nat)(a0:Dt45):evalF spec cals T Tryz.f124 k (a0,())=e a0:=by kernel_rfl
theorem of (k:Nat)(a0:Dt45){y:Dt45×Unit}(h:e a0=some y):F (a0,())=some y:=limF_of k ((eval k a0).trans h)
end r02_Norm
namespace r01_Div
def spec:Spec:=⟨[(false,Kt43),(false,Kt43)],[(false,Kt43),(false,Kt43),(false,(.int .i64))],.own,fun j=>match j with|11=>[(0,.lf (.z 86 (.int .u32) true)),(1,.lf (.o 86 (.int .u32) true)),(7,.lf (.o 86 (.int .u32) true)),(9,.lf (.o 86 (.int .u32) true)),(10,.lf (.v true))]|_=>[]⟩
def cals:Cals:=(Cals.cons 125 r01_Norm.sig (Cals.cons 158 r01_Bit.sig (Cals.cons 160 r01_twice.sig (Cals.cons 134 r01_Cmp.sig (Cals.cons 135 r01_Sub.sig (Cals.base tabs))))))
def sig:Sig:=spec.sig cals T Tryz.f126
def F (x:Dt43×Dt43×Unit):Option (Dt43×Dt43×Int×Unit):=limF spec cals T Tryz.f126 x
theorem ck:CalsOk Tryz.prog cals:=(CalsOk.cons r01_Norm.cal (CalsOk.cons r01_Bit.cal (CalsOk.cons r01_twice.cal (CalsOk.cons r01_Cmp.cal (CalsOk.cons r01_Sub.cal (CalsOk.base tabsOk))))))
theorem cal:CalOk Tryz.prog tabs 126 sig:=calOk_lim' tabOk ck mix Tryz.func126 (by kernel_rfl) (by kernel_rfl) (by kernel_rfl) (by kernel_rfl)
def m11 (x0:Dt43)(x1:Dt43)(x7:Dt43)(x9:Dt43)(x10:Int):S:=⟨[(0,.one (.lf (.val true Kt43 x0))),(1,.one (.lf (.own 0))),(7,.one (.lf (.own 1))),(9,.one (.lf (.own 2))),(10,.one (.lf (.val true (.int .i64) x10)))],⟨[some ⟨86,(.int .u32),true,true,x1⟩,some ⟨86,(.int .u32),true,true,x7⟩,some ⟨86,(.int .u32),true,true,x9⟩],[]⟩⟩
def b11 (f11:Dt43→Dt43→Dt43→Dt43→Int→Option (Dt43×Dt43×Int×Unit))(x0:Dt43)(x1:Dt43)(x7:Dt43)(x9:Dt43)(x10:Int):Option (Dt43×Dt43×Int×Unit):=
 let v1:=decide (x10≥(0:Int))
 bif v1 then((r01_Bit.F (x0,x10,())).bind fun y2=>
 (r01_twice.F (x9,y2.1,())).bind fun y3=>
 (r01_Cmp.F (y3.1,x1,())).bind fun y4=>
 let v5:=decide (y4.1≥(0:Int))
 bif v5 then((r01_Sub.F (y3.1,x1,())).bind fun y6=>
 bif decide ((32:Int)=0)then none
 else(let v7:=IntKind.i64.wrap (Int.tdiv x10 (32:Int))
 bif decide (0≤v7)&&decide (v7<(List.length x7:Int))then(let v8:=List.getD x7 (Int.toNat v7) (0:Int)
 bif decide ((32:Int)=0)then none
 else(let v9:=Int.tmod x10 (32:Int)
 let v10:=IntKind.u64.wrap v9
 bif decide (v10<0)then none
 else(let v11:=shlI .u32 (1:Int) v10
 let v12:=bitsOp .or .u32 v8 v11
 bif decide (0≤v7)&&decide (v7<(List.length x7:Int))then(let v13:=List.set x7 (Int.toNat v7) v12
 let v14:=IntKind.i64.wrap (x10-(1:Int))
 f11 x0 x1 v13 y6.1 v14)
 else none)))
 else none))
 else(let v15:=IntKind.i64.wrap (x10-(1:Int))
 f11 x0 x1 x7 y3.1 v15))
 else((r01_Norm.F (x7,())).bind fun y16=>
 some (y16.1,x9,(0:Int),()))
def e (f11:Dt43→Dt43→Dt43→Dt43→Int→Option (Dt43×Dt43×Int×Unit))(a0:Dt43)(a1:Dt43):Option (Dt43×Dt43×Int×Unit):=
 (r01_Norm.F (a1,())).bind fun y1=>
 let v2:=(List.length y1.1:Int)
 let v3:=(v2==(0:Int))
 bif v3 then(some (zt43,zt43,(11:Int),()))
 else((r01_Norm.F (a0,())).bind fun y4=>
 let v5:=(List.length y4.1:Int)
 bif decide (0≤v5)&&(decide (v5≤v5)&&(decide (Int.toNat v5*4≤281474976710656)&&Nat.blt 0 4))then(let v6:=List.replicate (Int.toNat v5) (0:Int)
 let v7:=(List.length y1.1:Int)
 let v8:=IntKind.i64.wrap (v7-(1:Int))
 let v9:=(List.length y4.1:Int)
 let v10:=decide (v8>v9)
 bif v10 then(let v11:=(List.length y4.1:Int)
 let v12:=(List.length y4.1:Int)
 let v13:=IntKind.i64.wrap (v12-v11)
 bif decide (0≤v13)&&decide (v13≤(List.length y4.1:Int))then(let v14:=List.drop (Int.toNat v13) y4.1
 (r01_Norm.F (v14,())).bind fun y15=>
 let v16:=(List.length y4.1:Int)
 let v17:=IntKind.i64.wrap (v16-v11)
 let v18:=IntKind.i64.wrap ((32:Int)*v17)
 let v19:=IntKind.i64.wrap (v18-(1:Int))
 f11 y4.1 y1.1 v6 y15.1 v19)
 else none)
 else(let v20:=(List.length y4.1:Int)
 let v21:=IntKind.i64.wrap (v20-v8)
 bif decide (0≤v21)&&decide (v21≤(List.length y4.1:Int))then(let v22:=List.drop (Int.toNat v21) y4.1
 (r01_Norm.F (v22,())).bind fun y23=>
 let v24:=(List.length y4.1:Int)
 let v25:=IntKind.i64.wrap (v24-v8)
 let v26:=IntKind.i64.wrap ((32:Int)*v25)
 let v27:=IntKind.i64.wrap (v26-(1:Int))
 f11 y4.1 y1.1 v6 y23.1 v27)
 else none))
 else none)
def L11 (k:Nat)(x0:Dt43)(x1:Dt43)(x7:Dt43)(x9:Dt43)(x10:Int):Option (Dt43×Dt43×Int×Unit):=heads (spec.env cals T Tryz.f126) (Func.pts Tryz.f126) k 11 (m11 x0 x1 x7 x9 x10)
theorem L11_succ (k:Nat)(x0:Dt43)(x1:Dt43)(x7:Dt43)(x9:Dt43)(x10:Int):L11 (k+1) x0 x1 x7 x9 x10=b11 (L11 k) x0 x1 x7 x9 x10:=by kernel_rfl
theorem eval (k:Nat)(a0:Dt43)(a1:Dt43):evalF spec cals T Tryz.f126 k (a0,a1,())=e (L11 k) a0 a1:=by kernel_rfl
theorem of (k:Nat)(a0:Dt43)(a1:Dt43){y:Dt43×Dt43×Int×Unit}(h:e (L11 k) a0 a1=some y):F (a0,a1,())=some y:=limF_of k ((eval k a0 a1).trans h)
end r01_Div
namespace r03_Norm
def spec:Spec:=⟨[(true,Kt47)],[(true,Kt47)],.own,fun j=>match j with|_=>[]⟩
def cals:Cals:=(Cals.cons 124 r02_Norm.sig (Cals.cons 125 r01_Norm.sig (Cals.cons 122 r01_Gcd.sig (Cals.cons 126 r01_Div.sig (Cals.base tabs)))))
def sig:Sig:=spec.sig cals T Tryz.f77
def F (x:Dt47×Unit):Option (Dt47×Unit):=limF spec cals T Tryz.f77 x
theorem ck:CalsOk Tryz.prog cals:=(CalsOk.cons r02_Norm.cal (CalsOk.cons r01_Norm.cal (CalsOk.cons r01_Gcd.cal (CalsOk.cons r01_Div.cal (CalsOk.base tabsOk)))))
theorem cal:CalOk Tryz.prog tabs 77 sig:=calOk_lim' tabOk ck mix Tryz.func77 (by kernel_rfl) (by kernel_rfl) (by kernel_rfl) (by kernel_rfl)
def e (a0:Dt47):Option (Dt47×Unit):=
 (r02_Norm.F ((a0.1.1,a0.1.2),())).bind fun y1=>
 (r01_Norm.F (a0.2,())).bind fun y2=>
 let v3:=(List.length y2.1:Int)
 let v4:=(v3==(0:Int))
 bif v4 then(let v5:=([(1:Int)]:List Int)
 some ((zt45,v5),()))
 else(let v6:=(List.length y1.1.2:Int)
 let v7:=(v6==(0:Int))
 bif v7 then(let v8:=([(1:Int)]:List Int)
 some ((zt45,v8),()))
 else((r01_Gcd.F (y1.1.2,y2.1,())).bind fun y9=>
 (r01_Div.F (y1.1.2,y9.1,())).bind fun y10=>
 (r01_Div.F (y2.1,y9.1,())).bind fun y11=>
 some (((y1.1.1,y10.1),y11.1),())))
theorem eval (k:Nat)(a0:Dt47):evalF spec cals T Tryz.f77 k (a0,())=e a0:=by kernel_rfl
theorem of (k:Nat)(a0:Dt47){y:Dt47×Unit}(h:e a0=some y):F (a0,())=some y:=limF_of k ((eval k a0).trans h)
end r03_Norm
namespace r01_Of
def spec:Spec:=⟨[(false,(.int .u64))],[(false,Kt43)],.own,fun j=>match j with|_=>[]⟩
def cals:Cals:=(Cals.cons 125 r01_Norm.sig (Cals.base tabs))
def sig:Sig:=spec.sig cals T Tryz.f136
def F (x:Int×Unit):Option (Dt43×Unit):=limF spec cals T Tryz.f136 x
theorem ck:CalsOk Tryz.prog cals:=(CalsOk.cons r01_Norm.cal (CalsOk.base tabsOk))
theorem cal:CalOk Tryz.prog tabs 136 sig:=calOk_lim' tabOk ck mix Tryz.func136 (by kernel_rfl) (by kernel_rfl) (by kernel_rfl) (by kernel_rfl)
def e (a0:Int):Option (Dt43×Unit):=
 let v1:=IntKind.u32.wrap a0
 bif decide ((32:Int)<0)then none
 else(let v2:=shrI .u64 a0 (32:Int)
 let v3:=IntKind.u32.wrap v2
 let v4:=([v1,v3]:List Int)
 (r01_Norm.F (v4,())).bind fun y5=>
 some (y5.1,()))
theorem eval (k:Nat)(a0:Int):evalF spec cals T Tryz.f136 k (a0,())=e a0:=by kernel_rfl
theorem of (k:Nat)(a0:Int){y:Dt43×Unit}(h:e a0=some y):F (a0,())=some y:=limF_of k ((eval k a0).trans h)
end r01_Of
namespace r02_Of
def spec:Spec:=⟨[(false,(.int .i64))],[(true,Kt45)],.own,fun j=>match j with|_=>[]⟩
def cals:Cals:=(Cals.cons 136 r01_Of.sig (Cals.cons 127 r02_made.sig (Cals.base tabs)))
def sig:Sig:=spec.sig cals T Tryz.f92
def F (x:Int×Unit):Option (Dt45×Unit):=limF spec cals T Tryz.f92 x
theorem ck:CalsOk Tryz.prog cals:=(CalsOk.cons r01_Of.cal (CalsOk.cons r02_made.cal (CalsOk.base tabsOk)))
theorem cal:CalOk Tryz.prog tabs 92 sig:=calOk_lim' tabOk ck mix Tryz.func92 (by kernel_rfl) (by kernel_rfl) (by kernel_rfl) (by kernel_rfl)
def e (a0:Int):Option (Dt45×Unit):=
 let v1:=decide (a0<(0:Int))
 bif v1 then(let v2:=IntKind.u64.wrap a0
 let v3:=IntKind.u64.wrap ((0:Int)-v2)
 (r01_Of.F (v3,())).bind fun y4=>
 (r02_made.F (true,y4.1,())).bind fun y5=>
 some ((y5.1.1,y5.1.2),()))
 else(let v6:=IntKind.u64.wrap a0
 (r01_Of.F (v6,())).bind fun y7=>
 (r02_made.F (false,y7.1,())).bind fun y8=>
 some ((y8.1.1,y8.1.2),()))
theorem eval (k:Nat)(a0:Int):evalF spec cals T Tryz.f92 k (a0,())=e a0:=by kernel_rfl
theorem of (k:Nat)(a0:Int){y:Dt45×Unit}(h:e a0=some y):F (a0,())=some y:=limF_of k ((eval k a0).trans h)
end r02_Of
namespace r03_Whole
def spec:Spec:=⟨[(false,(.int .i64))],[(true,Kt47)],.own,fun j=>match j with|_=>[]⟩
def cals:Cals:=(Cals.cons 92 r02_Of.sig (Cals.cons 77 r03_Norm.sig (Cals.base tabs)))
def sig:Sig:=spec.sig cals T Tryz.f47
def F (x:Int×Unit):Option (Dt47×Unit):=limF spec cals T Tryz.f47 x
theorem ck:CalsOk Tryz.prog cals:=(CalsOk.cons r02_Of.cal (CalsOk.cons r03_Norm.cal (CalsOk.base tabsOk)))
theorem cal:CalOk Tryz.prog tabs 47 sig:=calOk_lim' tabOk ck mix Tryz.func47 (by kernel_rfl) (by kernel_rfl) (by kernel_rfl) (by kernel_rfl)
def e (a0:Int):Option (Dt47×Unit):=
 (r02_Of.F (a0,())).bind fun y1=>
 let v2:=([(1:Int)]:List Int)
 (r03_Norm.F (((y1.1.1,y1.1.2),v2),())).bind fun y3=>
 some (((y3.1.1.1,y3.1.1.2),y3.1.2),())
theorem eval (k:Nat)(a0:Int):evalF spec cals T Tryz.f47 k (a0,())=e a0:=by kernel_rfl
theorem of (k:Nat)(a0:Int){y:Dt47×Unit}(h:e a0=some y):F (a0,())=some y:=limF_of k ((eval k a0).trans h)
end r03_Whole
namespace r02_Sign
def spec:Spec:=⟨[(true,Kt45)],[(false,(.int .i64))],.own,fun j=>match j with|_=>[]⟩
def cals:Cals:=(Cals.cons 124 r02_Norm.sig (Cals.base tabs))
def sig:Sig:=spec.sig cals T Tryz.f76
def F (x:Dt45×Unit):Option (Int×Unit):=limF spec cals T Tryz.f76 x
theorem ck:CalsOk Tryz.prog cals:=(CalsOk.cons r02_Norm.cal (CalsOk.base tabsOk))
theorem cal:CalOk Tryz.prog tabs 76 sig:=calOk_lim' tabOk ck mix Tryz.func76 (by kernel_rfl) (by kernel_rfl) (by kernel_rfl) (by kernel_rfl)
def e (a0:Dt45):Option (Int×Unit):=
 (r02_Norm.F ((a0.1,a0.2),())).bind fun y1=>
 bif y1.1.1 then(some ((-1:Int),()))
 else(let v2:=(List.length y1.1.2:Int)
 let v3:=decide (v2>(0:Int))
 bif v3 then(some ((1:Int),()))
 else(some ((0:Int),())))
theorem eval (k:Nat)(a0:Dt45):evalF spec cals T Tryz.f76 k (a0,())=e a0:=by kernel_rfl
theorem of (k:Nat)(a0:Dt45){y:Int×Unit}(h:e a0=some y):F (a0,())=some y:=limF_of k ((eval k a0).trans h)
end r02_Sign
namespace r03_Sign
def spec:Spec:=⟨[(true,Kt47)],[(false,(.int .i64))],.own,fun j=>match j with|_=>[]⟩
def cals:Cals:=(Cals.cons 77 r03_Norm.sig (Cals.cons 76 r02_Sign.sig (Cals.base tabs)))
def sig:Sig:=spec.sig cals T Tryz.f27
def F (x:Dt47×Unit):Option (Int×Unit):=limF spec cals T Tryz.f27 x
theorem ck:CalsOk Tryz.prog cals:=(CalsOk.cons r03_Norm.cal (CalsOk.cons r02_Sign.cal (CalsOk.base tabsOk)))
theorem cal:CalOk Tryz.prog tabs 27 sig:=calOk_lim' tabOk ck mix Tryz.func27 (by kernel_rfl) (by kernel_rfl) (by kernel_rfl) (by kernel_rfl)
def e (a0:Dt47):Option (Int×Unit):=
 (r03_Norm.F (((a0.1.1,a0.1.2),a0.2),())).bind fun y1=>
 (r02_Sign.F ((y1.1.1.1,y1.1.1.2),())).bind fun y2=>
 some (y2.1,())
theorem eval (k:Nat)(a0:Dt47):evalF spec cals T Tryz.f27 k (a0,())=e a0:=by kernel_rfl
theorem of (k:Nat)(a0:Dt47){y:Int×Unit}(h:e a0=some y):F (a0,())=some y:=limF_of k ((eval k a0).trans h)
end r03_Sign
namespace r01_Mul
def spec:Spec:=⟨[(false,Kt43),(false,Kt43)],[(false,Kt43)],.own,fun j=>match j with|3=>[(0,.lf (.z 86 (.int .u32) false)),(1,.lf (.z 86 (.int .u32) false)),(5,.lf (.o 86 (.int .u32) true)),(6,.lf (.v true))]|7=>[(0,.lf (.z 86 (.int .u32) false)),(1,.lf (.z 86 (.int .u32) false)),(5,.lf (.o 86 (.int .u32) true)),(6,.lf (.v true)),(7,.lf (.v true)),(8,.lf (.v true))]|_=>[]⟩
def cals:Cals:=(Cals.cons 125 r01_Norm.sig (Cals.base tabs))
def sig:Sig:=spec.sig cals T Tryz.f79
def F (x:Dt43×Dt43×Unit):Option (Dt43×Unit):=limF spec cals T Tryz.f79 x
theorem ck:CalsOk Tryz.prog cals:=(CalsOk.cons r01_Norm.cal (CalsOk.base tabsOk))
theorem cal:CalOk Tryz.prog tabs 79 sig:=calOk_lim' tabOk ck mix Tryz.func79 (by kernel_rfl) (by kernel_rfl) (by kernel_rfl) (by kernel_rfl)
def m3 (x0:Dt43)(x1:Dt43)(x5:Dt43)(x6:Int):S:=⟨[(0,.one (.lf (.val false Kt43 x0))),(1,.one (.lf (.val false Kt43 x1))),(5,.one (.lf (.own 0))),(6,.one (.lf (.val true (.int .i64) x6)))],⟨[some ⟨86,(.int .u32),true,true,x5⟩],[]⟩⟩
def m7 (x0:Dt43)(x1:Dt43)(x5:Dt43)(x6:Int)(x7:Int)(x8:Int):S:=⟨[(0,.one (.lf (.val false Kt43 x0))),(1,.one (.lf (.val false Kt43 x1))),(5,.one (.lf (.own 0))),(6,.one (.lf (.val true (.int .i64) x6))),(7,.one (.lf (.val true (.int .u64) x7))),(8,.one (.lf (.val true (.int .i64) x8)))],⟨[some ⟨86,(.int .u32),true,true,x5⟩],[]⟩⟩
def b3 (f3:Dt43→Dt43→Dt43→Int→Option (Dt43×Unit))(f7:Dt43→Dt43→Dt43→Int→Int→Int→Option (Dt43×Unit))(x0:Dt43)(x1:Dt43)(x5:Dt43)(x6:Int):Option (Dt43×Unit):=
 let v1:=(List.length x0:Int)
 let v2:=decide (x6<v1)
 bif v2 then(f7 x0 x1 x5 x6 (0:Int) (0:Int))
 else((r01_Norm.F (x5,())).bind fun y3=>
 some (y3.1,()))
def b7 (f3:Dt43→Dt43→Dt43→Int→Option (Dt43×Unit))(f7:Dt43→Dt43→Dt43→Int→Int→Int→Option (Dt43×Unit))(x0:Dt43)(x1:Dt43)(x5:Dt43)(x6:Int)(x7:Int)(x8:Int):Option (Dt43×Unit):=
 let v1:=(List.length x1:Int)
 let v2:=decide (x8<v1)
 bif v2 then(bif decide (0≤x6)&&decide (x6<(List.length x0:Int))then(let v3:=List.getD x0 (Int.toNat x6) (0:Int)
 let v4:=IntKind.u64.wrap v3
 bif decide (0≤x8)&&decide (x8<(List.length x1:Int))then(let v5:=List.getD x1 (Int.toNat x8) (0:Int)
 let v6:=IntKind.u64.wrap v5
 let v7:=IntKind.u64.wrap (v4*v6)
 let v8:=IntKind.i64.wrap (x6+x8)
 bif decide (0≤v8)&&decide (v8<(List.length x5:Int))then(let v9:=List.getD x5 (Int.toNat v8) (0:Int)
 let v10:=IntKind.u64.wrap v9
 let v11:=IntKind.u64.wrap (v7+v10)
 let v12:=IntKind.u64.wrap (v11+x7)
 let v13:=IntKind.i64.wrap (x6+x8)
 let v14:=IntKind.u32.wrap v12
 bif decide (0≤v13)&&decide (v13<(List.length x5:Int))then(let v15:=List.set x5 (Int.toNat v13) v14
 bif decide ((32:Int)<0)then none
 else(let v16:=shrI .u64 v12 (32:Int)
 let v17:=IntKind.i64.wrap (x8+(1:Int))
 f7 x0 x1 v15 x6 v16 v17))
 else none)
 else none)
 else none)
 else none)
 else(let v18:=(List.length x1:Int)
 let v19:=IntKind.i64.wrap (x6+v18)
 let v20:=IntKind.u32.wrap x7
 bif decide (0≤v19)&&decide (v19<(List.length x5:Int))then(let v21:=List.set x5 (Int.toNat v19) v20
 let v22:=IntKind.i64.wrap (x6+(1:Int))
 f3 x0 x1 v21 v22)
 else none)
def e (f3:Dt43→Dt43→Dt43→Int→Option (Dt43×Unit))(f7:Dt43→Dt43→Dt43→Int→Int→Int→Option (Dt43×Unit))(a0:Dt43)(a1:Dt43):Option (Dt43×Unit):=
 let v1:=(List.length a0:Int)
 let v2:=(List.length a1:Int)
 let v3:=IntKind.i64.wrap (v1+v2)
 bif decide (0≤v3)&&(decide (v3≤v3)&&(decide (Int.toNat v3*4≤281474976710656)&&Nat.blt 0 4))then(let v4:=List.replicate (Int.toNat v3) (0:Int)
 f3 a0 a1 v4 (0:Int))
 else none
def L3 (k:Nat)(x0:Dt43)(x1:Dt43)(x5:Dt43)(x6:Int):Option (Dt43×Unit):=heads (spec.env cals T Tryz.f79) (Func.pts Tryz.f79) k 3 (m3 x0 x1 x5 x6)
def L7 (k:Nat)(x0:Dt43)(x1:Dt43)(x5:Dt43)(x6:Int)(x7:Int)(x8:Int):Option (Dt43×Unit):=heads (spec.env cals T Tryz.f79) (Func.pts Tryz.f79) k 7 (m7 x0 x1 x5 x6 x7 x8)
theorem L3_succ (k:Nat)(x0:Dt43)(x1:Dt43)(x5:Dt43)(x6:Int):L3 (k+1) x0 x1 x5 x6=b3 (L3 k) (L7 k) x0 x1 x5 x6:=by kernel_rfl
theorem L7_succ (k:Nat)(x0:Dt43)(x1:Dt43)(x5:Dt43)(x6:Int)(x7:Int)(x8:Int):L7 (k+1) x0 x1 x5 x6 x7 x8=b7 (L3 k) (L7 k) x0 x1 x5 x6 x7 x8:=by kernel_rfl
theorem eval (k:Nat)(a0:Dt43)(a1:Dt43):evalF spec cals T Tryz.f79 k (a0,a1,())=e (L3 k) (L7 k) a0 a1:=by kernel_rfl
theorem of (k:Nat)(a0:Dt43)(a1:Dt43){y:Dt43×Unit}(h:e (L3 k) (L7 k) a0 a1=some y):F (a0,a1,())=some y:=limF_of k ((eval k a0 a1).trans h)
end r01_Mul
namespace r02_Mul
def spec:Spec:=⟨[(true,Kt45),(true,Kt45)],[(true,Kt45)],.own,fun j=>match j with|_=>[]⟩
def cals:Cals:=(Cals.cons 79 r01_Mul.sig (Cals.cons 127 r02_made.sig (Cals.base tabs)))
def sig:Sig:=spec.sig cals T Tryz.f78
def F (x:Dt45×Dt45×Unit):Option (Dt45×Unit):=limF spec cals T Tryz.f78 x
theorem ck:CalsOk Tryz.prog cals:=(CalsOk.cons r01_Mul.cal (CalsOk.cons r02_made.cal (CalsOk.base tabsOk)))
theorem cal:CalOk Tryz.prog tabs 78 sig:=calOk_lim' tabOk ck mix Tryz.func78 (by kernel_rfl) (by kernel_rfl) (by kernel_rfl) (by kernel_rfl)
def e (a0:Dt45)(a1:Dt45):Option (Dt45×Unit):=
 let v1:=(!(a0.1==a1.1))
 (r01_Mul.F (a0.2,a1.2,())).bind fun y2=>
 (r02_made.F (v1,y2.1,())).bind fun y3=>
 some ((y3.1.1,y3.1.2),())
theorem eval (k:Nat)(a0:Dt45)(a1:Dt45):evalF spec cals T Tryz.f78 k (a0,a1,())=e a0 a1:=by kernel_rfl
theorem of (k:Nat)(a0:Dt45)(a1:Dt45){y:Dt45×Unit}(h:e a0 a1=some y):F (a0,a1,())=some y:=limF_of k ((eval k a0 a1).trans h)
end r02_Mul
namespace r03_Mul
def spec:Spec:=⟨[(true,Kt47),(true,Kt47)],[(true,Kt47)],.own,fun j=>match j with|_=>[]⟩
def cals:Cals:=(Cals.cons 77 r03_Norm.sig (Cals.cons 78 r02_Mul.sig (Cals.cons 79 r01_Mul.sig (Cals.base tabs))))
def sig:Sig:=spec.sig cals T Tryz.f29
def F (x:Dt47×Dt47×Unit):Option (Dt47×Unit):=limF spec cals T Tryz.f29 x
theorem ck:CalsOk Tryz.prog cals:=(CalsOk.cons r03_Norm.cal (CalsOk.cons r02_Mul.cal (CalsOk.cons r01_Mul.cal (CalsOk.base tabsOk))))
theorem cal:CalOk Tryz.prog tabs 29 sig:=calOk_lim' tabOk ck mix Tryz.func29 (by kernel_rfl) (by kernel_rfl) (by kernel_rfl) (by kernel_rfl)
def e (a0:Dt47)(a1:Dt47):Option (Dt47×Unit):=
 (r03_Norm.F (((a0.1.1,a0.1.2),a0.2),())).bind fun y1=>
 (r03_Norm.F (((a1.1.1,a1.1.2),a1.2),())).bind fun y2=>
 (r02_Mul.F ((y1.1.1.1,y1.1.1.2),(y2.1.1.1,y2.1.1.2),())).bind fun y3=>
 (r01_Mul.F (y1.1.2,y2.1.2,())).bind fun y4=>
 (r03_Norm.F (((y3.1.1,y3.1.2),y4.1),())).bind fun y5=>
 some (((y5.1.1.1,y5.1.1.2),y5.1.2),())
theorem eval (k:Nat)(a0:Dt47)(a1:Dt47):evalF spec cals T Tryz.f29 k (a0,a1,())=e a0 a1:=by kernel_rfl
theorem of (k:Nat)(a0:Dt47)(a1:Dt47){y:Dt47×Unit}(h:e a0 a1=some y):F (a0,a1,())=some y:=limF_of k ((eval k a0 a1).trans h)
end r03_Mul
namespace r06_sorted
def spec:Spec:=⟨[(false,Kt37)],[(false,Kt37)],.own,fun j=>match j with|3=>[(0,.lf (.z 3 (.int .i64) false)),(3,.lf (.o 3 (.int .i64) true)),(4,.lf (.v true))]|6=>[(0,.lf (.z 3 (.int .i64) false)),(3,.lf (.o 3 (.int .i64) true)),(4,.lf (.v true)),(5,.lf (.v true))]|11=>[(0,.lf (.z 3 (.int .i64) false)),(3,.lf (.o 3 (.int .i64) true)),(4,.lf (.v true)),(5,.lf (.v true)),(6,.lf (.v true))]|_=>[]⟩
def cals:Cals:=(Cals.base tabs)
def sig:Sig:=spec.sig cals T Tryz.f137
def F (x:Dt43×Unit):Option (Dt43×Unit):=limF spec cals T Tryz.f137 x
theorem ck:CalsOk Tryz.prog cals:=(CalsOk.base tabsOk)
theorem cal:CalOk Tryz.prog tabs 137 sig:=calOk_lim' tabOk ck mix Tryz.func137 (by kernel_rfl) (by kernel_rfl) (by kernel_rfl) (by kernel_rfl)
def m3 (x0:Dt43)(x3:Dt43)(x4:Int):S:=⟨[(0,.one (.lf (.val false Kt37 x0))),(3,.one (.lf (.own 0))),(4,.one (.lf (.val true (.int .i64) x4)))],⟨[some ⟨3,(.int .i64),true,true,x3⟩],[]⟩⟩
def m6 (x0:Dt43)(x3:Dt43)(x4:Int)(x5:Int):S:=⟨[(0,.one (.lf (.val false Kt37 x0))),(3,.one (.lf (.own 0))),(4,.one (.lf (.val true (.int .i64) x4))),(5,.one (.lf (.val true (.int .i64) x5)))],⟨[some ⟨3,(.int .i64),true,true,x3⟩],[]⟩⟩
def m11 (x0:Dt43)(x3:Dt43)(x4:Int)(x5:Int)(x6:Int):S:=⟨[(0,.one (.lf (.val false Kt37 x0))),(3,.one (.lf (.own 0))),(4,.one (.lf (.val true (.int .i64) x4))),(5,.one (.lf (.val true (.int .i64) x5))),(6,.one (.lf (.val true (.int .i64) x6)))],⟨[some ⟨3,(.int .i64),true,true,x3⟩],[]⟩⟩
def b3 (f3:Dt43→Dt43→Int→Option (Dt43×Unit))(f6:Dt43→Dt43→Int→Int→Option (Dt43×Unit))(f11:Dt43→Dt43→Int→Int→Int→Option (Dt43×Unit))(x0:Dt43)(x3:Dt43)(x4:Int):Option (Dt43×Unit):=
 let v1:=(List.length x0:Int)
 let v2:=decide (x4<v1)
 bif v2 then(f6 x0 x3 x4 (0:Int))
 else(some (x3,()))
def b6 (f3:Dt43→Dt43→Int→Option (Dt43×Unit))(f6:Dt43→Dt43→Int→Int→Option (Dt43×Unit))(f11:Dt43→Dt43→Int→Int→Int→Option (Dt43×Unit))(x0:Dt43)(x3:Dt43)(x4:Int)(x5:Int):Option (Dt43×Unit):=
 let v1:=(List.length x3:Int)
 let v2:=decide (x5<v1)
 bif v2 then(bif decide (0≤x5)&&decide (x5<(List.length x3:Int))then(let v3:=List.getD x3 (Int.toNat x5) (0:Int)
 bif decide (0≤x4)&&decide (x4<(List.length x0:Int))then(let v4:=List.getD x0 (Int.toNat x4) (0:Int)
 let v5:=decide (v3<v4)
 bif v5 then(let v6:=IntKind.i64.wrap (x5+(1:Int))
 f6 x0 x3 x4 v6)
 else(let v7:=(List.length x3:Int)
 let v8:=decide (x5<v7)
 bif v8 then(bif decide (0≤x5)&&decide (x5<(List.length x3:Int))then(let v9:=List.getD x3 (Int.toNat x5) (0:Int)
 bif decide (0≤x4)&&decide (x4<(List.length x0:Int))then(let v10:=List.getD x0 (Int.toNat x4) (0:Int)
 let v11:=(v9==v10)
 bif v11 then(let v12:=IntKind.i64.wrap (x4+(1:Int))
 f3 x0 x3 v12)
 else(let v13:=([(0:Int)]:List Int)
 bif decide (List.length x3+List.length v13<17592186044416)then(let v14:=List.append x3 v13
 let v15:=(List.length v14:Int)
 let v16:=IntKind.i64.wrap (v15-(1:Int))
 f11 x0 v14 x4 x5 v16)
 else none))
 else none)
 else none)
 else(let v17:=([(0:Int)]:List Int)
 bif decide (List.length x3+List.length v17<17592186044416)then(let v18:=List.append x3 v17
 let v19:=(List.length v18:Int)
 let v20:=IntKind.i64.wrap (v19-(1:Int))
 f11 x0 v18 x4 x5 v20)
 else none)))
 else none)
 else none)
 else(let v21:=(List.length x3:Int)
 let v22:=decide (x5<v21)
 bif v22 then(bif decide (0≤x5)&&decide (x5<(List.length x3:Int))then(let v23:=List.getD x3 (Int.toNat x5) (0:Int)
 bif decide (0≤x4)&&decide (x4<(List.length x0:Int))then(let v24:=List.getD x0 (Int.toNat x4) (0:Int)
 let v25:=(v23==v24)
 bif v25 then(let v26:=IntKind.i64.wrap (x4+(1:Int))
 f3 x0 x3 v26)
 else(let v27:=([(0:Int)]:List Int)
 bif decide (List.length x3+List.length v27<17592186044416)then(let v28:=List.append x3 v27
 let v29:=(List.length v28:Int)
 let v30:=IntKind.i64.wrap (v29-(1:Int))
 f11 x0 v28 x4 x5 v30)
 else none))
 else none)
 else none)
 else(let v31:=([(0:Int)]:List Int)
 bif decide (List.length x3+List.length v31<17592186044416)then(let v32:=List.append x3 v31
 let v33:=(List.length v32:Int)
 let v34:=IntKind.i64.wrap (v33-(1:Int))
 f11 x0 v32 x4 x5 v34)
 else none))
def b11 (f3:Dt43→Dt43→Int→Option (Dt43×Unit))(f6:Dt43→Dt43→Int→Int→Option (Dt43×Unit))(f11:Dt43→Dt43→Int→Int→Int→Option (Dt43×Unit))(x0:Dt43)(x3:Dt43)(x4:Int)(x5:Int)(x6:Int):Option (Dt43×Unit):=
 let v1:=decide (x6>x5)
 bif v1 then(let v2:=IntKind.i64.wrap (x6-(1:Int))
 bif decide (0≤v2)&&decide (v2<(List.length x3:Int))then(let v3:=List.getD x3 (Int.toNat v2) (0:Int)
 bif decide (0≤x6)&&decide (x6<(List.length x3:Int))then(let v4:=List.set x3 (Int.toNat x6) v3
 let v5:=IntKind.i64.wrap (x6-(1:Int))
 f11 x0 v4 x4 x5 v5)
 else none)
 else none)
 else(bif decide (0≤x4)&&decide (x4<(List.length x0:Int))then(let v6:=List.getD x0 (Int.toNat x4) (0:Int)
 bif decide (0≤x5)&&decide (x5<(List.length x3:Int))then(let v7:=List.set x3 (Int.toNat x5) v6
 let v8:=IntKind.i64.wrap (x4+(1:Int))
 f3 x0 v7 v8)
 else none)
 else none)
def e (f3:Dt43→Dt43→Int→Option (Dt43×Unit))(f6:Dt43→Dt43→Int→Int→Option (Dt43×Unit))(f11:Dt43→Dt43→Int→Int→Int→Option (Dt43×Unit))(a0:Dt43):Option (Dt43×Unit):=
 f3 a0 zt43 (0:Int)
def L3 (k:Nat)(x0:Dt43)(x3:Dt43)(x4:Int):Option (Dt43×Unit):=heads (spec.env cals T Tryz.f137) (Func.pts Tryz.f137) k 3 (m3 x0 x3 x4)
def L6 (k:Nat)(x0:Dt43)(x3:Dt43)(x4:Int)(x5:Int):Option (Dt43×Unit):=heads (spec.env cals T Tryz.f137) (Func.pts Tryz.f137) k 6 (m6 x0 x3 x4 x5)
def L11 (k:Nat)(x0:Dt43)(x3:Dt43)(x4:Int)(x5:Int)(x6:Int):Option (Dt43×Unit):=heads (spec.env cals T Tryz.f137) (Func.pts Tryz.f137) k 11 (m11 x0 x3 x4 x5 x6)
theorem L3_succ (k:Nat)(x0:Dt43)(x3:Dt43)(x4:Int):L3 (k+1) x0 x3 x4=b3 (L3 k) (L6 k) (L11 k) x0 x3 x4:=by kernel_rfl
theorem L6_succ (k:Nat)(x0:Dt43)(x3:Dt43)(x4:Int)(x5:Int):L6 (k+1) x0 x3 x4 x5=b6 (L3 k) (L6 k) (L11 k) x0 x3 x4 x5:=by kernel_rfl
theorem L11_succ (k:Nat)(x0:Dt43)(x3:Dt43)(x4:Int)(x5:Int)(x6:Int):L11 (k+1) x0 x3 x4 x5 x6=b11 (L3 k) (L6 k) (L11 k) x0 x3 x4 x5 x6:=by kernel_rfl
theorem eval (k:Nat)(a0:Dt43):evalF spec cals T Tryz.f137 k (a0,())=e (L3 k) (L6 k) (L11 k) a0:=by kernel_rfl
theorem of (k:Nat)(a0:Dt43){y:Dt43×Unit}(h:e (L3 k) (L6 k) (L11 k) a0=some y):F (a0,())=some y:=limF_of k ((eval k a0).trans h)
end r06_sorted
namespace r06_all
def spec:Spec:=⟨[(false,Kt40),(false,Kt40)],[(false,Kt37)],.own,fun j=>match j with|3=>[(0,.lf (.z 73 Kt73 false)),(1,.lf (.z 73 Kt73 false)),(5,.lf (.o 3 (.int .i64) true)),(6,.lf (.v true))]|7=>[(1,.lf (.z 73 Kt73 false)),(5,.lf (.o 3 (.int .i64) true)),(7,.lf (.v true))]|_=>[]⟩
def cals:Cals:=(Cals.cons 137 r06_sorted.sig (Cals.base tabs))
def sig:Sig:=spec.sig cals T Tryz.f93
def F (x:Dt40×Dt40×Unit):Option (Dt43×Unit):=limF spec cals T Tryz.f93 x
theorem ck:CalsOk Tryz.prog cals:=(CalsOk.cons r06_sorted.cal (CalsOk.base tabsOk))
theorem cal:CalOk Tryz.prog tabs 93 sig:=calOk_lim' tabOk ck mix Tryz.func93 (by kernel_rfl) (by kernel_rfl) (by kernel_rfl) (by kernel_rfl)
def m3 (x0:Dt40)(x1:Dt40)(x5:Dt43)(x6:Int):S:=⟨[(0,.one (.lf (.val false Kt40 x0))),(1,.one (.lf (.val false Kt40 x1))),(5,.one (.lf (.own 0))),(6,.one (.lf (.val true (.int .i64) x6)))],⟨[some ⟨3,(.int .i64),true,true,x5⟩],[]⟩⟩
def m7 (x1:Dt40)(x5:Dt43)(x7:Int):S:=⟨[(1,.one (.lf (.val false Kt40 x1))),(5,.one (.lf (.own 0))),(7,.one (.lf (.val true (.int .i64) x7)))],⟨[some ⟨3,(.int .i64),true,true,x5⟩],[]⟩⟩
def b3 (f3:Dt40→Dt40→Dt43→Int→Option (Dt43×Unit))(f7:Dt40→Dt43→Int→Option (Dt43×Unit))(x0:Dt40)(x1:Dt40)(x5:Dt43)(x6:Int):Option (Dt43×Unit):=
 let v1:=(List.length x0:Int)
 let v2:=decide (x6<v1)
 bif v2 then(bif decide (0≤x6)&&decide (x6<(List.length x0:Int))then(let v3:=(List.getD x0 (Int.toNat x6) zt73).1
 let v4:=([v3]:List Int)
 bif decide (List.length x5+List.length v4<17592186044416)then(let v5:=List.append x5 v4
 let v6:=IntKind.i64.wrap (x6+(1:Int))
 f3 x0 x1 v5 v6)
 else none)
 else none)
 else(f7 x1 x5 (0:Int))
def b7 (f3:Dt40→Dt40→Dt43→Int→Option (Dt43×Unit))(f7:Dt40→Dt43→Int→Option (Dt43×Unit))(x1:Dt40)(x5:Dt43)(x7:Int):Option (Dt43×Unit):=
 let v1:=(List.length x1:Int)
 let v2:=decide (x7<v1)
 bif v2 then(bif decide (0≤x7)&&decide (x7<(List.length x1:Int))then(let v3:=(List.getD x1 (Int.toNat x7) zt73).1
 let v4:=([v3]:List Int)
 bif decide (List.length x5+List.length v4<17592186044416)then(let v5:=List.append x5 v4
 let v6:=IntKind.i64.wrap (x7+(1:Int))
 f7 x1 v5 v6)
 else none)
 else none)
 else((r06_sorted.F (x5,())).bind fun y7=>
 some (y7.1,()))
def e (f3:Dt40→Dt40→Dt43→Int→Option (Dt43×Unit))(f7:Dt40→Dt43→Int→Option (Dt43×Unit))(a0:Dt40)(a1:Dt40):Option (Dt43×Unit):=
 f3 a0 a1 zt43 (0:Int)
def L3 (k:Nat)(x0:Dt40)(x1:Dt40)(x5:Dt43)(x6:Int):Option (Dt43×Unit):=heads (spec.env cals T Tryz.f93) (Func.pts Tryz.f93) k 3 (m3 x0 x1 x5 x6)
def L7 (k:Nat)(x1:Dt40)(x5:Dt43)(x7:Int):Option (Dt43×Unit):=heads (spec.env cals T Tryz.f93) (Func.pts Tryz.f93) k 7 (m7 x1 x5 x7)
theorem L3_succ (k:Nat)(x0:Dt40)(x1:Dt40)(x5:Dt43)(x6:Int):L3 (k+1) x0 x1 x5 x6=b3 (L3 k) (L7 k) x0 x1 x5 x6:=by kernel_rfl
theorem L7_succ (k:Nat)(x1:Dt40)(x5:Dt43)(x7:Int):L7 (k+1) x1 x5 x7=b7 (L3 k) (L7 k) x1 x5 x7:=by kernel_rfl
theorem eval (k:Nat)(a0:Dt40)(a1:Dt40):evalF spec cals T Tryz.f93 k (a0,a1,())=e (L3 k) (L7 k) a0 a1:=by kernel_rfl
theorem of (k:Nat)(a0:Dt40)(a1:Dt40){y:Dt43×Unit}(h:e (L3 k) (L7 k) a0 a1=some y):F (a0,a1,())=some y:=limF_of k ((eval k a0 a1).trans h)
end r06_all
namespace r01_Add
def spec:Spec:=⟨[(false,Kt43),(false,Kt43)],[(false,Kt43)],.own,fun j=>match j with|7=>[(0,.lf (.z 86 (.int .u32) false)),(1,.lf (.z 86 (.int .u32) false)),(5,.lf (.v true)),(6,.lf (.o 86 (.int .u32) true)),(7,.lf (.v true)),(8,.lf (.v true))]|_=>[]⟩
def cals:Cals:=(Cals.cons 163 r01_at.sig (Cals.cons 125 r01_Norm.sig (Cals.base tabs)))
def sig:Sig:=spec.sig cals T Tryz.f133
def F (x:Dt43×Dt43×Unit):Option (Dt43×Unit):=limF spec cals T Tryz.f133 x
theorem ck:CalsOk Tryz.prog cals:=(CalsOk.cons r01_at.cal (CalsOk.cons r01_Norm.cal (CalsOk.base tabsOk)))
theorem cal:CalOk Tryz.prog tabs 133 sig:=calOk_lim' tabOk ck mix Tryz.func133 (by kernel_rfl) (by kernel_rfl) (by kernel_rfl) (by kernel_rfl)
def m7 (x0:Dt43)(x1:Dt43)(x5:Int)(x6:Dt43)(x7:Int)(x8:Int):S:=⟨[(0,.one (.lf (.val false Kt43 x0))),(1,.one (.lf (.val false Kt43 x1))),(5,.one (.lf (.val true (.int .i64) x5))),(6,.one (.lf (.own 0))),(7,.one (.lf (.val true (.int .u64) x7))),(8,.one (.lf (.val true (.int .i64) x8)))],⟨[some ⟨86,(.int .u32),true,true,x6⟩],[]⟩⟩
def b7 (f7:Dt43→Dt43→Int→Dt43→Int→Int→Option (Dt43×Unit))(x0:Dt43)(x1:Dt43)(x5:Int)(x6:Dt43)(x7:Int)(x8:Int):Option (Dt43×Unit):=
 let v1:=decide (x8≤x5)
 bif v1 then((r01_at.F (x0,x8,())).bind fun y2=>
 (r01_at.F (x1,x8,())).bind fun y3=>
 let v4:=IntKind.u64.wrap (y2.1+y3.1)
 let v5:=IntKind.u64.wrap (v4+x7)
 let v6:=IntKind.u32.wrap v5
 bif decide (0≤x8)&&decide (x8<(List.length x6:Int))then(let v7:=List.set x6 (Int.toNat x8) v6
 bif decide ((32:Int)<0)then none
 else(let v8:=shrI .u64 v5 (32:Int)
 let v9:=IntKind.i64.wrap (x8+(1:Int))
 f7 x0 x1 x5 v7 v8 v9))
 else none)
 else((r01_Norm.F (x6,())).bind fun y10=>
 some (y10.1,()))
def e (f7:Dt43→Dt43→Int→Dt43→Int→Int→Option (Dt43×Unit))(a0:Dt43)(a1:Dt43):Option (Dt43×Unit):=
 let v1:=(List.length a0:Int)
 let v2:=(List.length a1:Int)
 let v3:=decide (v2>v1)
 bif v3 then(let v4:=(List.length a1:Int)
 let v5:=IntKind.i64.wrap (v4+(1:Int))
 bif decide (0≤v5)&&(decide (v5≤v5)&&(decide (Int.toNat v5*4≤281474976710656)&&Nat.blt 0 4))then(let v6:=List.replicate (Int.toNat v5) (0:Int)
 f7 a0 a1 v4 v6 (0:Int) (0:Int))
 else none)
 else(let v7:=IntKind.i64.wrap (v1+(1:Int))
 bif decide (0≤v7)&&(decide (v7≤v7)&&(decide (Int.toNat v7*4≤281474976710656)&&Nat.blt 0 4))then(let v8:=List.replicate (Int.toNat v7) (0:Int)
 f7 a0 a1 v1 v8 (0:Int) (0:Int))
 else none)
def L7 (k:Nat)(x0:Dt43)(x1:Dt43)(x5:Int)(x6:Dt43)(x7:Int)(x8:Int):Option (Dt43×Unit):=heads (spec.env cals T Tryz.f133) (Func.pts Tryz.f133) k 7 (m7 x0 x1 x5 x6 x7 x8)
theorem L7_succ (k:Nat)(x0:Dt43)(x1:Dt43)(x5:Int)(x6:Dt43)(x7:Int)(x8:Int):L7 (k+1) x0 x1 x5 x6 x7 x8=b7 (L7 k) x0 x1 x5 x6 x7 x8:=by kernel_rfl
theorem eval (k:Nat)(a0:Dt43)(a1:Dt43):evalF spec cals T Tryz.f133 k (a0,a1,())=e (L7 k) a0 a1:=by kernel_rfl
theorem of (k:Nat)(a0:Dt43)(a1:Dt43){y:Dt43×Unit}(h:e (L7 k) a0 a1=some y):F (a0,a1,())=some y:=limF_of k ((eval k a0 a1).trans h)
end r01_Add
namespace r02_Add
def spec:Spec:=⟨[(true,Kt45),(true,Kt45)],[(true,Kt45)],.own,fun j=>match j with|_=>[]⟩
def cals:Cals:=(Cals.cons 133 r01_Add.sig (Cals.cons 127 r02_made.sig (Cals.cons 134 r01_Cmp.sig (Cals.cons 135 r01_Sub.sig (Cals.base tabs)))))
def sig:Sig:=spec.sig cals T Tryz.f90
def F (x:Dt45×Dt45×Unit):Option (Dt45×Unit):=limF spec cals T Tryz.f90 x
theorem ck:CalsOk Tryz.prog cals:=(CalsOk.cons r01_Add.cal (CalsOk.cons r02_made.cal (CalsOk.cons r01_Cmp.cal (CalsOk.cons r01_Sub.cal (CalsOk.base tabsOk)))))
theorem cal:CalOk Tryz.prog tabs 90 sig:=calOk_lim' tabOk ck mix Tryz.func90 (by kernel_rfl) (by kernel_rfl) (by kernel_rfl) (by kernel_rfl)
def e (a0:Dt45)(a1:Dt45):Option (Dt45×Unit):=
 let v1:=(a0.1==a1.1)
 bif v1 then((r01_Add.F (a0.2,a1.2,())).bind fun y2=>
 (r02_made.F (a0.1,y2.1,())).bind fun y3=>
 some ((y3.1.1,y3.1.2),()))
 else((r01_Cmp.F (a0.2,a1.2,())).bind fun y4=>
 let v5:=decide (y4.1≥(0:Int))
 bif v5 then((r01_Sub.F (a0.2,a1.2,())).bind fun y6=>
 (r02_made.F (a0.1,y6.1,())).bind fun y7=>
 some ((y7.1.1,y7.1.2),()))
 else((r01_Sub.F (a1.2,a0.2,())).bind fun y8=>
 (r02_made.F (a1.1,y8.1,())).bind fun y9=>
 some ((y9.1.1,y9.1.2),())))
theorem eval (k:Nat)(a0:Dt45)(a1:Dt45):evalF spec cals T Tryz.f90 k (a0,a1,())=e a0 a1:=by kernel_rfl
theorem of (k:Nat)(a0:Dt45)(a1:Dt45){y:Dt45×Unit}(h:e a0 a1=some y):F (a0,a1,())=some y:=limF_of k ((eval k a0 a1).trans h)
end r02_Add
namespace r03_positive
def spec:Spec:=⟨[(false,Kt43)],[(true,Kt45)],.shared,fun j=>match j with|_=>[]⟩
def cals:Cals:=(Cals.base tabs)
def sig:Sig:=spec.sig cals T Tryz.f91
def F (x:Dt43×Unit):Option (Dt45×Unit):=limF spec cals T Tryz.f91 x
theorem ck:CalsOk Tryz.prog cals:=(CalsOk.base tabsOk)
theorem cal:CalOk Tryz.prog tabs 91 sig:=calOk_lim' tabOk ck mix Tryz.func91 (by kernel_rfl) (by kernel_rfl) (by kernel_rfl) (by kernel_rfl)
def e (a0:Dt43):Option (Dt45×Unit):=
 some ((false,a0),())
theorem eval (k:Nat)(a0:Dt43):evalF spec cals T Tryz.f91 k (a0,())=e a0:=by kernel_rfl
theorem of (k:Nat)(a0:Dt43){y:Dt45×Unit}(h:e a0=some y):F (a0,())=some y:=limF_of k ((eval k a0).trans h)
end r03_positive
namespace r03_Add
def spec:Spec:=⟨[(true,Kt47),(true,Kt47)],[(true,Kt47)],.own,fun j=>match j with|_=>[]⟩
def cals:Cals:=(Cals.cons 77 r03_Norm.sig (Cals.cons 91 r03_positive.sig (Cals.cons 78 r02_Mul.sig (Cals.cons 90 r02_Add.sig (Cals.cons 79 r01_Mul.sig (Cals.base tabs))))))
def sig:Sig:=spec.sig cals T Tryz.f44
def F (x:Dt47×Dt47×Unit):Option (Dt47×Unit):=limF spec cals T Tryz.f44 x
theorem ck:CalsOk Tryz.prog cals:=(CalsOk.cons r03_Norm.cal (CalsOk.cons r03_positive.cal (CalsOk.cons r02_Mul.cal (CalsOk.cons r02_Add.cal (CalsOk.cons r01_Mul.cal (CalsOk.base tabsOk))))))
theorem cal:CalOk Tryz.prog tabs 44 sig:=calOk_lim' tabOk ck mix Tryz.func44 (by kernel_rfl) (by kernel_rfl) (by kernel_rfl) (by kernel_rfl)
def e (a0:Dt47)(a1:Dt47):Option (Dt47×Unit):=
 (r03_Norm.F (((a0.1.1,a0.1.2),a0.2),())).bind fun y1=>
 (r03_Norm.F (((a1.1.1,a1.1.2),a1.2),())).bind fun y2=>
 (r03_positive.F (y2.1.2,())).bind fun y3=>
 (r02_Mul.F ((y1.1.1.1,y1.1.1.2),(y3.1.1,y3.1.2),())).bind fun y4=>
 (r03_positive.F (y1.1.2,())).bind fun y5=>
 (r02_Mul.F ((y2.1.1.1,y2.1.1.2),(y5.1.1,y5.1.2),())).bind fun y6=>
 (r02_Add.F ((y4.1.1,y4.1.2),(y6.1.1,y6.1.2),())).bind fun y7=>
 (r01_Mul.F (y1.1.2,y2.1.2,())).bind fun y8=>
 (r03_Norm.F (((y7.1.1,y7.1.2),y8.1),())).bind fun y9=>
 some (((y9.1.1.1,y9.1.1.2),y9.1.2),())
theorem eval (k:Nat)(a0:Dt47)(a1:Dt47):evalF spec cals T Tryz.f44 k (a0,a1,())=e a0 a1:=by kernel_rfl
theorem of (k:Nat)(a0:Dt47)(a1:Dt47){y:Dt47×Unit}(h:e a0 a1=some y):F (a0,a1,())=some y:=limF_of k ((eval k a0 a1).trans h)
end r03_Add
namespace r06_zero
def spec:Spec:=⟨[],[(true,Kt47)],.own,fun j=>match j with|_=>[]⟩
def cals:Cals:=(Cals.cons 47 r03_Whole.sig (Cals.base tabs))
def sig:Sig:=spec.sig cals T Tryz.f108
def F (x:Unit):Option (Dt47×Unit):=limF spec cals T Tryz.f108 x
theorem ck:CalsOk Tryz.prog cals:=(CalsOk.cons r03_Whole.cal (CalsOk.base tabsOk))
theorem cal:CalOk Tryz.prog tabs 108 sig:=calOk_lim' tabOk ck mix Tryz.func108 (by kernel_rfl) (by kernel_rfl) (by kernel_rfl) (by kernel_rfl)
def e:Option (Dt47×Unit):=
 (r03_Whole.F ((0:Int),())).bind fun y1=>
 some (((y1.1.1.1,y1.1.1.2),y1.1.2),())
theorem eval (k:Nat):evalF spec cals T Tryz.f108 k ()=e:=by kernel_rfl
theorem of (k:Nat){y:Dt47×Unit}(h:e=some y):F ()=some y:=limF_of k ((eval k).trans h)
end r06_zero
namespace r06_Coef
def spec:Spec:=⟨[(false,Kt40),(false,(.int .i64))],[(true,Kt47)],.own,fun j=>match j with|3=>[(0,.lf (.z 73 Kt73 false)),(1,.lf (.v false)),(4,.box 47 [.v true,.v true,.v true]),(5,.box 47 [.v true,.o 86 (.int .u32) true,.o 86 (.int .u32) true]),(6,.lf (.v true))]|_=>[]⟩
def cals:Cals:=(Cals.cons 108 r06_zero.sig (Cals.cons 44 r03_Add.sig (Cals.base tabs)))
def sig:Sig:=spec.sig cals T Tryz.f94
def F (x:Dt40×Int×Unit):Option (Dt47×Unit):=limF spec cals T Tryz.f94 x
theorem ck:CalsOk Tryz.prog cals:=(CalsOk.cons r06_zero.cal (CalsOk.cons r03_Add.cal (CalsOk.base tabsOk)))
theorem cal:CalOk Tryz.prog tabs 94 sig:=calOk_lim' tabOk ck mix Tryz.func94 (by kernel_rfl) (by kernel_rfl) (by kernel_rfl) (by kernel_rfl)
def m3 (x0:Dt40)(x1:Int)(x4_0:Bool)(x5_0:Bool)(x5_1:Dt43)(x5_2:Dt43)(x6:Int):S:=⟨[(0,.one (.lf (.val false Kt40 x0))),(1,.one (.lf (.val false (.int .i64) x1))),(4,.box 0 0),(5,.box 1 0),(6,.one (.lf (.val true (.int .i64) x6)))],⟨[some ⟨86,(.int .u32),true,true,x5_1⟩,some ⟨86,(.int .u32),true,true,x5_2⟩],[some ⟨47,[.val true .bool x4_0,.nil,.nil]⟩,some ⟨47,[.val true .bool x5_0,.own 0,.own 1]⟩]⟩⟩
def b3 (f3:Dt40→Int→Bool→Bool→Dt43→Dt43→Int→Option (Dt47×Unit))(x0:Dt40)(x1:Int)(x4_0:Bool)(x5_0:Bool)(x5_1:Dt43)(x5_2:Dt43)(x6:Int):Option (Dt47×Unit):=
 let v1:=(List.length x0:Int)
 let v2:=decide (x6<v1)
 bif v2 then(bif decide (0≤x6)&&decide (x6<(List.length x0:Int))then(let v3:=(List.getD x0 (Int.toNat x6) zt73).1
 let v4:=(v3==x1)
 bif v4 then(bif decide (0≤x6)&&decide (x6<(List.length x0:Int))then(let v5:=(((List.getD x0 (Int.toNat x6) zt73).2).1).1
 let v6:=(((List.getD x0 (Int.toNat x6) zt73).2).1).2
 let v7:=((List.getD x0 (Int.toNat x6) zt73).2).2
 (r03_Add.F (((x5_0,x5_1),x5_2),((v5,v6),v7),())).bind fun y8=>
 let v9:=IntKind.i64.wrap (x6+(1:Int))
 f3 x0 x1 x4_0 y8.1.1.1 y8.1.1.2 y8.1.2 v9)
 else none)
 else(let v10:=IntKind.i64.wrap (x6+(1:Int))
 f3 x0 x1 x4_0 x5_0 x5_1 x5_2 v10))
 else none)
 else(some (((x5_0,x5_1),x5_2),()))
def e (f3:Dt40→Int→Bool→Bool→Dt43→Dt43→Int→Option (Dt47×Unit))(a0:Dt40)(a1:Int):Option (Dt47×Unit):=
 (r06_zero.F ()).bind fun y1=>
 f3 a0 a1 false y1.1.1.1 y1.1.1.2 y1.1.2 (0:Int)
def L3 (k:Nat)(x0:Dt40)(x1:Int)(x4_0:Bool)(x5_0:Bool)(x5_1:Dt43)(x5_2:Dt43)(x6:Int):Option (Dt47×Unit):=heads (spec.env cals T Tryz.f94) (Func.pts Tryz.f94) k 3 (m3 x0 x1 x4_0 x5_0 x5_1 x5_2 x6)
theorem L3_succ (k:Nat)(x0:Dt40)(x1:Int)(x4_0:Bool)(x5_0:Bool)(x5_1:Dt43)(x5_2:Dt43)(x6:Int):L3 (k+1) x0 x1 x4_0 x5_0 x5_1 x5_2 x6=b3 (L3 k) x0 x1 x4_0 x5_0 x5_1 x5_2 x6:=by kernel_rfl
theorem eval (k:Nat)(a0:Dt40)(a1:Int):evalF spec cals T Tryz.f94 k (a0,a1,())=e (L3 k) a0 a1:=by kernel_rfl
theorem of (k:Nat)(a0:Dt40)(a1:Int){y:Dt47×Unit}(h:e (L3 k) a0 a1=some y):F (a0,a1,())=some y:=limF_of k ((eval k a0 a1).trans h)
end r06_Coef
namespace r06_Norm
def spec:Spec:=⟨[(false,Kt40)],[(false,Kt40)],.own,fun j=>match j with|4=>[(0,.lf (.z 73 Kt73 false)),(3,.lf (.o 73 Kt73 true)),(4,.lf (.o 3 (.int .i64) true)),(5,.lf (.v true))]|_=>[]⟩
def cals:Cals:=(Cals.cons 93 r06_all.sig (Cals.cons 94 r06_Coef.sig (Cals.cons 27 r03_Sign.sig (Cals.base tabs))))
def sig:Sig:=spec.sig cals T Tryz.f48
def F (x:Dt40×Unit):Option (Dt40×Unit):=limF spec cals T Tryz.f48 x
theorem ck:CalsOk Tryz.prog cals:=(CalsOk.cons r06_all.cal (CalsOk.cons r06_Coef.cal (CalsOk.cons r03_Sign.cal (CalsOk.base tabsOk))))
theorem cal:CalOk Tryz.prog tabs 48 sig:=calOk_lim' tabOk ck mix Tryz.func48 (by kernel_rfl) (by kernel_rfl) (by kernel_rfl) (by kernel_rfl)
def m4 (x0:Dt40)(x3:Dt40)(x4:Dt43)(x5:Int):S:=⟨[(0,.one (.lf (.val false Kt40 x0))),(3,.one (.lf (.own 0))),(4,.one (.lf (.own 1))),(5,.one (.lf (.val true (.int .i64) x5)))],⟨[some ⟨73,Kt73,true,true,x3⟩,some ⟨3,(.int .i64),true,true,x4⟩],[]⟩⟩
def b4 (f4:Dt40→Dt40→Dt43→Int→Option (Dt40×Unit))(x0:Dt40)(x3:Dt40)(x4:Dt43)(x5:Int):Option (Dt40×Unit):=
 let v1:=(List.length x4:Int)
 let v2:=decide (x5<v1)
 bif v2 then(bif decide (0≤x5)&&decide (x5<(List.length x4:Int))then(let v3:=List.getD x4 (Int.toNat x5) (0:Int)
 (r06_Coef.F (x0,v3,())).bind fun y4=>
 (r03_Sign.F (((y4.1.1.1,y4.1.1.2),y4.1.2),())).bind fun y5=>
 let v6:=(y5.1 != (0:Int))
 bif v6 then(bif decide (0≤x5)&&decide (x5<(List.length x4:Int))then(let v7:=List.getD x4 (Int.toNat x5) (0:Int)
 let v8:=([(v7,((y4.1.1.1,y4.1.1.2),y4.1.2))]:List Dt73)
 bif decide (List.length x3+List.length v8<2199023255552)then(let v9:=List.append x3 v8
 let v10:=IntKind.i64.wrap (x5+(1:Int))
 f4 x0 v9 x4 v10)
 else none)
 else none)
 else(let v11:=IntKind.i64.wrap (x5+(1:Int))
 f4 x0 x3 x4 v11))
 else none)
 else(some (x3,()))
def e (f4:Dt40→Dt40→Dt43→Int→Option (Dt40×Unit))(a0:Dt40):Option (Dt40×Unit):=
 (r06_all.F (a0,zt40,())).bind fun y1=>
 f4 a0 zt40 y1.1 (0:Int)
def L4 (k:Nat)(x0:Dt40)(x3:Dt40)(x4:Dt43)(x5:Int):Option (Dt40×Unit):=heads (spec.env cals T Tryz.f48) (Func.pts Tryz.f48) k 4 (m4 x0 x3 x4 x5)
theorem L4_succ (k:Nat)(x0:Dt40)(x3:Dt40)(x4:Dt43)(x5:Int):L4 (k+1) x0 x3 x4 x5=b4 (L4 k) x0 x3 x4 x5:=by kernel_rfl
theorem eval (k:Nat)(a0:Dt40):evalF spec cals T Tryz.f48 k (a0,())=e (L4 k) a0:=by kernel_rfl
theorem of (k:Nat)(a0:Dt40){y:Dt40×Unit}(h:e (L4 k) a0=some y):F (a0,())=some y:=limF_of k ((eval k a0).trans h)
end r06_Norm
namespace r17_At
def spec:Spec:=⟨[(false,Kt22),(false,(.int .i64))],[(true,Kt69),(false,.bool),(false,.bool)],.shared,fun j=>match j with|_=>[]⟩
def cals:Cals:=(Cals.base tabs)
def F (x:Dt22×Int×Unit):Option (Dt69×Bool×Bool×Unit):=limF spec cals T Tryz.f59 x
def e (a0:Dt22)(a1:Int):Option (Dt69×Bool×Bool×Unit):=
 let v1:=decide (a1>(0:Int))
 bif v1 then(let v2:=(List.length a0:Int)
 let v3:=decide (a1≤v2)
 bif v3 then(let v4:=IntKind.i64.wrap (a1-(1:Int))
 bif decide (0≤v4)&&decide (v4<(List.length a0:Int))then(let v5:=(List.getD a0 (Int.toNat v4) zt69).1
 let v6:=((List.getD a0 (Int.toNat v4) zt69).2).1
 let v7:=(((((List.getD a0 (Int.toNat v4) zt69).2).2).1).1).1
 let v8:=(((((List.getD a0 (Int.toNat v4) zt69).2).2).1).1).2
 let v9:=((((List.getD a0 (Int.toNat v4) zt69).2).2).1).2
 let v10:=(((List.getD a0 (Int.toNat v4) zt69).2).2).2
 some ((v5,(v6,(((v7,v8),v9),v10))),true,true,()))
 else none)
 else(let v11:=decide (a1<(0:Int))
 bif v11 then(let v12:=(List.length a0:Int)
 let v13:=negI .i64 v12
 let v14:=decide (a1≥v13)
 bif v14 then(let v15:=negI .i64 a1
 let v16:=IntKind.i64.wrap (v15-(1:Int))
 bif decide (0≤v16)&&decide (v16<(List.length a0:Int))then(let v17:=(List.getD a0 (Int.toNat v16) zt69).1
 let v18:=((List.getD a0 (Int.toNat v16) zt69).2).1
 let v19:=(((((List.getD a0 (Int.toNat v16) zt69).2).2).1).1).1
 let v20:=(((((List.getD a0 (Int.toNat v16) zt69).2).2).1).1).2
 let v21:=((((List.getD a0 (Int.toNat v16) zt69).2).2).1).2
 let v22:=(((List.getD a0 (Int.toNat v16) zt69).2).2).2
 some ((v17,(v18,(((v19,v20),v21),v22))),false,true,()))
 else none)
 else(some (zt69,false,false,())))
 else(some (zt69,false,false,()))))
 else(let v23:=decide (a1<(0:Int))
 bif v23 then(let v24:=(List.length a0:Int)
 let v25:=negI .i64 v24
 let v26:=decide (a1≥v25)
 bif v26 then(let v27:=negI .i64 a1
 let v28:=IntKind.i64.wrap (v27-(1:Int))
 bif decide (0≤v28)&&decide (v28<(List.length a0:Int))then(let v29:=(List.getD a0 (Int.toNat v28) zt69).1
 let v30:=((List.getD a0 (Int.toNat v28) zt69).2).1
 let v31:=(((((List.getD a0 (Int.toNat v28) zt69).2).2).1).1).1
 let v32:=(((((List.getD a0 (Int.toNat v28) zt69).2).2).1).1).2
 let v33:=((((List.getD a0 (Int.toNat v28) zt69).2).2).1).2
 let v34:=(((List.getD a0 (Int.toNat v28) zt69).2).2).2
 some ((v29,(v30,(((v31,v32),v33),v34))),false,true,()))
 else none)
 else(some (zt69,false,false,())))
 else(some (zt69,false,false,())))
theorem eval (k:Nat)(a0:Dt22)(a1:Int):evalF spec cals T Tryz.f59 k (a0,a1,())=e a0 a1:=by kernel_rfl
theorem of (k:Nat)(a0:Dt22)(a1:Int){y:Dt69×Bool×Bool×Unit}(h:e a0 a1=some y):F (a0,a1,())=some y:=limF_of k ((eval k a0 a1).trans h)
end r17_At
namespace r02_Neg
def spec:Spec:=⟨[(true,Kt45)],[(true,Kt45)],.own,fun j=>match j with|_=>[]⟩
def cals:Cals:=(Cals.cons 127 r02_made.sig (Cals.base tabs))
def sig:Sig:=spec.sig cals T Tryz.f89
def F (x:Dt45×Unit):Option (Dt45×Unit):=limF spec cals T Tryz.f89 x
theorem ck:CalsOk Tryz.prog cals:=(CalsOk.cons r02_made.cal (CalsOk.base tabsOk))
theorem cal:CalOk Tryz.prog tabs 89 sig:=calOk_lim' tabOk ck mix Tryz.func89 (by kernel_rfl) (by kernel_rfl) (by kernel_rfl) (by kernel_rfl)
def e (a0:Dt45):Option (Dt45×Unit):=
 let v1:=not a0.1
 (r02_made.F (v1,a0.2,())).bind fun y2=>
 some ((y2.1.1,y2.1.2),())
theorem eval (k:Nat)(a0:Dt45):evalF spec cals T Tryz.f89 k (a0,())=e a0:=by kernel_rfl
theorem of (k:Nat)(a0:Dt45){y:Dt45×Unit}(h:e a0=some y):F (a0,())=some y:=limF_of k ((eval k a0).trans h)
end r02_Neg
namespace r03_Neg
def spec:Spec:=⟨[(true,Kt47)],[(true,Kt47)],.own,fun j=>match j with|_=>[]⟩
def cals:Cals:=(Cals.cons 77 r03_Norm.sig (Cals.cons 89 r02_Neg.sig (Cals.base tabs)))
def sig:Sig:=spec.sig cals T Tryz.f43
def F (x:Dt47×Unit):Option (Dt47×Unit):=limF spec cals T Tryz.f43 x
theorem ck:CalsOk Tryz.prog cals:=(CalsOk.cons r03_Norm.cal (CalsOk.cons r02_Neg.cal (CalsOk.base tabsOk)))
theorem cal:CalOk Tryz.prog tabs 43 sig:=calOk_lim' tabOk ck mix Tryz.func43 (by kernel_rfl) (by kernel_rfl) (by kernel_rfl) (by kernel_rfl)
def e (a0:Dt47):Option (Dt47×Unit):=
 (r03_Norm.F (((a0.1.1,a0.1.2),a0.2),())).bind fun y1=>
 (r02_Neg.F ((y1.1.1.1,y1.1.1.2),())).bind fun y2=>
 (r03_Norm.F (((y2.1.1,y2.1.2),y1.1.2),())).bind fun y3=>
 some (((y3.1.1.1,y3.1.1.2),y3.1.2),())
theorem eval (k:Nat)(a0:Dt47):evalF spec cals T Tryz.f43 k (a0,())=e a0:=by kernel_rfl
theorem of (k:Nat)(a0:Dt47){y:Dt47×Unit}(h:e a0=some y):F (a0,())=some y:=limF_of k ((eval k a0).trans h)
end r03_Neg
namespace r03_Sub
def spec:Spec:=⟨[(true,Kt47),(true,Kt47)],[(true,Kt47)],.own,fun j=>match j with|_=>[]⟩
def cals:Cals:=(Cals.cons 43 r03_Neg.sig (Cals.cons 44 r03_Add.sig (Cals.base tabs)))
def sig:Sig:=spec.sig cals T Tryz.f45
def F (x:Dt47×Dt47×Unit):Option (Dt47×Unit):=limF spec cals T Tryz.f45 x
theorem ck:CalsOk Tryz.prog cals:=(CalsOk.cons r03_Neg.cal (CalsOk.cons r03_Add.cal (CalsOk.base tabsOk)))
theorem cal:CalOk Tryz.prog tabs 45 sig:=calOk_lim' tabOk ck mix Tryz.func45 (by kernel_rfl) (by kernel_rfl) (by kernel_rfl) (by kernel_rfl)
def e (a0:Dt47)(a1:Dt47):Option (Dt47×Unit):=
 (r03_Neg.F (((a1.1.1,a1.1.2),a1.2),())).bind fun y1=>
 (r03_Add.F (((a0.1.1,a0.1.2),a0.2),((y1.1.1.1,y1.1.1.2),y1.1.2),())).bind fun y2=>
 some (((y2.1.1.1,y2.1.1.2),y2.1.2),())
theorem eval (k:Nat)(a0:Dt47)(a1:Dt47):evalF spec cals T Tryz.f45 k (a0,a1,())=e a0 a1:=by kernel_rfl
theorem of (k:Nat)(a0:Dt47)(a1:Dt47){y:Dt47×Unit}(h:e a0 a1=some y):F (a0,a1,())=some y:=limF_of k ((eval k a0 a1).trans h)
end r03_Sub
namespace r06_Value
def spec:Spec:=⟨[(false,Kt40),(false,Kt23)],[(true,Kt47)],.own,fun j=>match j with|3=>[(0,.lf (.z 73 Kt73 false)),(1,.lf (.z 47 Kt47 false)),(4,.box 47 [.v true,.v true,.v true]),(5,.box 47 [.v true,.o 86 (.int .u32) true,.o 86 (.int .u32) true]),(6,.lf (.v true))]|_=>[]⟩
def cals:Cals:=(Cals.cons 108 r06_zero.sig (Cals.cons 29 r03_Mul.sig (Cals.cons 44 r03_Add.sig (Cals.base tabs))))
def sig:Sig:=spec.sig cals T Tryz.f61
def F (x:Dt40×Dt23×Unit):Option (Dt47×Unit):=limF spec cals T Tryz.f61 x
theorem ck:CalsOk Tryz.prog cals:=(CalsOk.cons r06_zero.cal (CalsOk.cons r03_Mul.cal (CalsOk.cons r03_Add.cal (CalsOk.base tabsOk))))
theorem cal:CalOk Tryz.prog tabs 61 sig:=calOk_lim' tabOk ck mix Tryz.func61 (by kernel_rfl) (by kernel_rfl) (by kernel_rfl) (by kernel_rfl)
def m3 (x0:Dt40)(x1:Dt23)(x4_0:Bool)(x5_0:Bool)(x5_1:Dt43)(x5_2:Dt43)(x6:Int):S:=⟨[(0,.one (.lf (.val false Kt40 x0))),(1,.one (.lf (.val false Kt23 x1))),(4,.box 0 0),(5,.box 1 0),(6,.one (.lf (.val true (.int .i64) x6)))],⟨[some ⟨86,(.int .u32),true,true,x5_1⟩,some ⟨86,(.int .u32),true,true,x5_2⟩],[some ⟨47,[.val true .bool x4_0,.nil,.nil]⟩,some ⟨47,[.val true .bool x5_0,.own 0,.own 1]⟩]⟩⟩
def b3 (f3:Dt40→Dt23→Bool→Bool→Dt43→Dt43→Int→Option (Dt47×Unit))(x0:Dt40)(x1:Dt23)(x4_0:Bool)(x5_0:Bool)(x5_1:Dt43)(x5_2:Dt43)(x6:Int):Option (Dt47×Unit):=
 let v1:=(List.length x0:Int)
 let v2:=decide (x6<v1)
 bif v2 then(bif decide (0≤x6)&&decide (x6<(List.length x0:Int))then(let v3:=(List.getD x0 (Int.toNat x6) zt73).1
 let v4:=decide (v3≥(0:Int))
 bif v4 then(bif decide (0≤x6)&&decide (x6<(List.length x0:Int))then(let v5:=(List.getD x0 (Int.toNat x6) zt73).1
 let v6:=(List.length x1:Int)
 let v7:=decide (v5<v6)
 bif v7 then(bif decide (0≤x6)&&decide (x6<(List.length x0:Int))then(let v8:=(((List.getD x0 (Int.toNat x6) zt73).2).1).1
 let v9:=(((List.getD x0 (Int.toNat x6) zt73).2).1).2
 let v10:=((List.getD x0 (Int.toNat x6) zt73).2).2
 bif decide (0≤x6)&&decide (x6<(List.length x0:Int))then(let v11:=(List.getD x0 (Int.toNat x6) zt73).1
 bif decide (0≤v11)&&decide (v11<(List.length x1:Int))then(let v12:=((List.getD x1 (Int.toNat v11) zt47).1).1
 let v13:=((List.getD x1 (Int.toNat v11) zt47).1).2
 let v14:=(List.getD x1 (Int.toNat v11) zt47).2
 (r03_Mul.F (((v8,v9),v10),((v12,v13),v14),())).bind fun y15=>
 (r03_Add.F (((x5_0,x5_1),x5_2),((y15.1.1.1,y15.1.1.2),y15.1.2),())).bind fun y16=>
 let v17:=IntKind.i64.wrap (x6+(1:Int))
 f3 x0 x1 x4_0 y16.1.1.1 y16.1.1.2 y16.1.2 v17)
 else none)
 else none)
 else none)
 else(let v18:=IntKind.i64.wrap (x6+(1:Int))
 f3 x0 x1 x4_0 x5_0 x5_1 x5_2 v18))
 else none)
 else(let v19:=IntKind.i64.wrap (x6+(1:Int))
 f3 x0 x1 x4_0 x5_0 x5_1 x5_2 v19))
 else none)
 else(some (((x5_0,x5_1),x5_2),()))
def e (f3:Dt40→Dt23→Bool→Bool→Dt43→Dt43→Int→Option (Dt47×Unit))(a0:Dt40)(a1:Dt23):Option (Dt47×Unit):=
 (r06_zero.F ()).bind fun y1=>
 f3 a0 a1 false y1.1.1.1 y1.1.1.2 y1.1.2 (0:Int)
def L3 (k:Nat)(x0:Dt40)(x1:Dt23)(x4_0:Bool)(x5_0:Bool)(x5_1:Dt43)(x5_2:Dt43)(x6:Int):Option (Dt47×Unit):=heads (spec.env cals T Tryz.f61) (Func.pts Tryz.f61) k 3 (m3 x0 x1 x4_0 x5_0 x5_1 x5_2 x6)
theorem L3_succ (k:Nat)(x0:Dt40)(x1:Dt23)(x4_0:Bool)(x5_0:Bool)(x5_1:Dt43)(x5_2:Dt43)(x6:Int):L3 (k+1) x0 x1 x4_0 x5_0 x5_1 x5_2 x6=b3 (L3 k) x0 x1 x4_0 x5_0 x5_1 x5_2 x6:=by kernel_rfl
theorem eval (k:Nat)(a0:Dt40)(a1:Dt23):evalF spec cals T Tryz.f61 k (a0,a1,())=e (L3 k) a0 a1:=by kernel_rfl
theorem of (k:Nat)(a0:Dt40)(a1:Dt23){y:Dt47×Unit}(h:e (L3 k) a0 a1=some y):F (a0,a1,())=some y:=limF_of k ((eval k a0 a1).trans h)
end r06_Value
namespace atoms_New
def spec:Spec:=⟨[],[(false,Kt22)],.own,fun j=>match j with|_=>[]⟩
def cals:Cals:=(Cals.cons 62 ratio_Whole.sig (Cals.base tabs))
def sig:Sig:=spec.sig cals T Tryz.f20
def F (x:Unit):Option (Dt22×Unit):=limF spec cals T Tryz.f20 x
theorem ck:CalsOk Tryz.prog cals:=(CalsOk.cons ratio_Whole.cal (CalsOk.base tabsOk))
theorem cal:CalOk Tryz.prog tabs 20 sig:=calOk_lim' tabOk ck mix Tryz.func20 (by kernel_rfl) (by kernel_rfl) (by kernel_rfl) (by kernel_rfl)
def e:Option (Dt22×Unit):=
 (ratio_Whole.F ((0:Int),())).bind fun y1=>
 let v2:=([(ByteArray.empty,(zt40,(((y1.1.1.1,y1.1.1.2),y1.1.2),false)))]:List Dt69)
 some (v2,())
theorem eval (k:Nat):evalF spec cals T Tryz.f20 k ()=e:=by kernel_rfl
theorem of (k:Nat){y:Dt22×Unit}(h:e=some y):F ()=some y:=limF_of k ((eval k).trans h)
end atoms_New
namespace atoms_put
def spec:Spec:=⟨[(false,Kt22),(false,.mp),(true,Kt69)],[(false,Kt22),(false,(.int .i64)),(false,(.int .i64))],.shared,fun j=>match j with|7=>[(5,.box 69 [.v true,.z 73 Kt73 true,.v true,.z 86 (.int .u32) true,.z 86 (.int .u32) true,.v true]),(9,.lf (.v true)),(10,.lf (.v true)),(11,.lf (.o 69 Kt69 true)),(37,.lf (.v true)),(38,.lf (.v true))]|_=>[]⟩
def cals:Cals:=(Cals.cons 66 atoms_key.sig (Cals.cons 117 atoms_own.sig (Cals.base tabs)))
def sig:Sig:=spec.sig cals T Tryz.f65
def F (x:Dt22×(List (ByteArray×Int))×Dt69×Unit):Option (Dt22×Int×Int×Unit):=limF spec cals T Tryz.f65 x
theorem ck:CalsOk Tryz.prog cals:=(CalsOk.cons atoms_key.cal (CalsOk.cons atoms_own.cal (CalsOk.base tabsOk)))
theorem cal:CalOk Tryz.prog tabs 65 sig:=calOk_lim' tabOk ck mix Tryz.func65 (by kernel_rfl) (by kernel_rfl) (by kernel_rfl) (by kernel_rfl)
def m7 (x5_0:ByteArray)(x5_1:Dt40)(x5_2:Bool)(x5_3:Dt43)(x5_4:Dt43)(x5_5:Bool)(x9:Int)(x10:Bool)(x11:Dt22)(x37:Int)(x38:Int):S:=⟨[(5,.box 0 0),(9,.one (.lf (.val true (.int .i64) x9))),(10,.one (.lf (.val true .bool x10))),(11,.one (.lf (.own 0))),(37,.one (.lf (.val true (.int .i64) x37))),(38,.one (.lf (.val true (.int .i64) x38)))],⟨[some ⟨69,Kt69,true,true,x11⟩],[some ⟨69,[.val true .str x5_0,.val true Kt40 x5_1,.val true .bool x5_2,.val true Kt43 x5_3,.val true Kt43 x5_4,.val true .bool x5_5]⟩]⟩⟩
def b7 (f7:ByteArray→Dt40→Bool→Dt43→Dt43→Bool→Int→Bool→Dt22→Int→Int→Option (Dt22×Int×Int×Unit))(x5_0:ByteArray)(x5_1:Dt40)(x5_2:Bool)(x5_3:Dt43)(x5_4:Dt43)(x5_5:Bool)(x9:Int)(x10:Bool)(x11:Dt22)(x37:Int)(x38:Int):Option (Dt22×Int×Int×Unit):=
 let v1:=decide (x38<x37)
 bif v1 then(bif decide (0≤x38)&&decide (x38<(List.length x11:Int))then(let v2:=(List.getD x11 (Int.toNat x38) zt69).1
 let v3:=((List.getD x11 (Int.toNat x38) zt69).2).1
 let v4:=(((((List.getD x11 (Int.toNat x38) zt69).2).2).1).1).1
 let v5:=(((((List.getD x11 (Int.toNat x38) zt69).2).2).1).1).2
 let v6:=((((List.getD x11 (Int.toNat x38) zt69).2).2).1).2
 let v7:=(((List.getD x11 (Int.toNat x38) zt69).2).2).2
 (atoms_own.F ((v2,(v3,(((v4,v5),v6),v7))),())).bind fun y8=>
 bif decide (0≤x38)&&decide (x38<(List.length x11:Int))then(let v9:=List.set x11 (Int.toNat x38) (y8.1.1,(y8.1.2.1,(((y8.1.2.2.1.1.1,y8.1.2.2.1.1.2),y8.1.2.2.1.2),y8.1.2.2.2)))
 let v10:=IntKind.i64.wrap (x38+(1:Int))
 f7 x5_0 x5_1 x5_2 x5_3 x5_4 x5_5 x9 x10 v9 x37 v10)
 else none)
 else none)
 else(let v11:=not x10
 bif v11 then((atoms_own.F ((x5_0,(x5_1,(((x5_2,x5_3),x5_4),x5_5))),())).bind fun y12=>
 let v13:=([(y12.1.1,(y12.1.2.1,(((y12.1.2.2.1.1.1,y12.1.2.2.1.1.2),y12.1.2.2.1.2),y12.1.2.2.2)))]:List Dt69)
 bif decide (List.length x11+List.length v13<1353245080339)then(let v14:=List.append x11 v13
 let v15:=(List.length v14:Int)
 some (v14,v15,(0:Int),()))
 else none)
 else(some (x11,x9,(0:Int),())))
def e (f7:ByteArray→Dt40→Bool→Dt43→Dt43→Bool→Int→Bool→Dt22→Int→Int→Option (Dt22×Int×Int×Unit))(a0:Dt22)(a1:(List (ByteArray×Int)))(a2:Dt69):Option (Dt22×Int×Int×Unit):=
 (atoms_key.F ((a2.1,(a2.2.1,(((a2.2.2.1.1.1,a2.2.2.1.1.2),a2.2.2.1.2),a2.2.2.2))),())).bind fun y1=>
 let v2:=mpFind y1.1 a1
 let v3:=not (Option.isSome v2)
 bif v3 then(let v4:=(List.length a0:Int)
 let v5:=(v4==(262144:Int))
 bif v5 then(some (zt22,(0:Int),(2:Int),()))
 else(let v6:=(List.length a0:Int)
 let v7:=(List.length a0:Int)
 let v8:=IntKind.i64.wrap (v7+(1:Int))
 bif decide (0≤v6)&&(decide (v6≤v8)&&(decide (Int.toNat v8*104≤281474976710656)&&Nat.blt 0 104))then(let v9:=List.replicate (Int.toNat v6) zt69
 let v10:=List.take (List.length v9) a0++List.drop (List.length a0) v9
 let v11:=((Nat.min (List.length a0) (List.length v9):Nat):Int)
 let v12:=(List.length v10:Int)
 f7 a2.1 a2.2.1 a2.2.2.1.1.1 a2.2.2.1.1.2 a2.2.2.1.2 a2.2.2.2 (Option.getD v2 (0:Int)) (Option.isSome v2) v10 v12 (0:Int))
 else none))
 else(let v13:=(List.length a0:Int)
 let v14:=(List.length a0:Int)
 let v15:=IntKind.i64.wrap (v14+(1:Int))
 bif decide (0≤v13)&&(decide (v13≤v15)&&(decide (Int.toNat v15*104≤281474976710656)&&Nat.blt 0 104))then(let v16:=List.replicate (Int.toNat v13) zt69
 let v17:=List.take (List.length v16) a0++List.drop (List.length a0) v16
 let v18:=((Nat.min (List.length a0) (List.length v16):Nat):Int)
 let v19:=(List.length v17:Int)
 f7 a2.1 a2.2.1 a2.2.2.1.1.1 a2.2.2.1.1.2 a2.2.2.1.2 a2.2.2.2 (Option.getD v2 (0:Int)) (Option.isSome v2) v17 v19 (0:Int))
 else none)
def L7 (k:Nat)(x5_0:ByteArray)(x5_1:Dt40)(x5_2:Bool)(x5_3:Dt43)(x5_4:Dt43)(x5_5:Bool)(x9:Int)(x10:Bool)(x11:Dt22)(x37:Int)(x38:Int):Option (Dt22×Int×Int×Unit):=heads (spec.env cals T Tryz.f65) (Func.pts Tryz.f65) k 7 (m7 x5_0 x5_1 x5_2 x5_3 x5_4 x5_5 x9 x10 x11 x37 x38)
theorem L7_succ (k:Nat)(x5_0:ByteArray)(x5_1:Dt40)(x5_2:Bool)(x5_3:Dt43)(x5_4:Dt43)(x5_5:Bool)(x9:Int)(x10:Bool)(x11:Dt22)(x37:Int)(x38:Int):L7 (k+1) x5_0 x5_1 x5_2 x5_3 x5_4 x5_5 x9 x10 x11 x37 x38=b7 (L7 k) x5_0 x5_1 x5_2 x5_3 x5_4 x5_5 x9 x10 x11 x37 x38:=by kernel_rfl
theorem eval (k:Nat)(a0:Dt22)(a1:(List (ByteArray×Int)))(a2:Dt69):evalF spec cals T Tryz.f65 k (a0,a1,a2,())=e (L7 k) a0 a1 a2:=by kernel_rfl
theorem of (k:Nat)(a0:Dt22)(a1:(List (ByteArray×Int)))(a2:Dt69){y:Dt22×Int×Int×Unit}(h:e (L7 k) a0 a1 a2=some y):F (a0,a1,a2,())=some y:=limF_of k ((eval k a0 a1 a2).trans h)
end atoms_put
namespace ratio_Div
def spec:Spec:=⟨[(true,Kt47),(true,Kt47)],[(true,Kt47),(false,(.int .i64))],.own,fun j=>match j with|_=>[]⟩
def cals:Cals:=(Cals.cons 115 ratio_Inv.sig (Cals.cons 105 ratio_Mul.sig (Cals.base tabs)))
def sig:Sig:=spec.sig cals T Tryz.f67
def F (x:Dt47×Dt47×Unit):Option (Dt47×Int×Unit):=limF spec cals T Tryz.f67 x
theorem ck:CalsOk Tryz.prog cals:=(CalsOk.cons ratio_Inv.cal (CalsOk.cons ratio_Mul.cal (CalsOk.base tabsOk)))
theorem cal:CalOk Tryz.prog tabs 67 sig:=calOk_lim' tabOk ck mix Tryz.func67 (by kernel_rfl) (by kernel_rfl) (by kernel_rfl) (by kernel_rfl)
def e (a0:Dt47)(a1:Dt47):Option (Dt47×Int×Unit):=
 (ratio_Inv.F (((a1.1.1,a1.1.2),a1.2),())).bind fun y1=>
 let v2:=(y1.2.1 != (0:Int))
 bif v2 then(some (zt47,y1.2.1,()))
 else((ratio_Mul.F (((a0.1.1,a0.1.2),a0.2),((y1.1.1.1,y1.1.1.2),y1.1.2),())).bind fun y3=>
 some (((y3.1.1.1,y3.1.1.2),y3.1.2),(0:Int),()))
theorem eval (k:Nat)(a0:Dt47)(a1:Dt47):evalF spec cals T Tryz.f67 k (a0,a1,())=e a0 a1:=by kernel_rfl
theorem of (k:Nat)(a0:Dt47)(a1:Dt47){y:Dt47×Int×Unit}(h:e a0 a1=some y):F (a0,a1,())=some y:=limF_of k ((eval k a0 a1).trans h)
end ratio_Div
namespace ratio_Neg
def spec:Spec:=⟨[(true,Kt47)],[(true,Kt47)],.own,fun j=>match j with|_=>[]⟩
def cals:Cals:=(Cals.cons 101 ratio_Norm.sig (Cals.cons 118 whole_Neg.sig (Cals.base tabs)))
def sig:Sig:=spec.sig cals T Tryz.f68
def F (x:Dt47×Unit):Option (Dt47×Unit):=limF spec cals T Tryz.f68 x
theorem ck:CalsOk Tryz.prog cals:=(CalsOk.cons ratio_Norm.cal (CalsOk.cons whole_Neg.cal (CalsOk.base tabsOk)))
theorem cal:CalOk Tryz.prog tabs 68 sig:=calOk_lim' tabOk ck mix Tryz.func68 (by kernel_rfl) (by kernel_rfl) (by kernel_rfl) (by kernel_rfl)
def e (a0:Dt47):Option (Dt47×Unit):=
 (ratio_Norm.F (((a0.1.1,a0.1.2),a0.2),())).bind fun y1=>
 (whole_Neg.F ((y1.1.1.1,y1.1.1.2),())).bind fun y2=>
 some (((y2.1.1,y2.1.2),y1.1.2),())
theorem eval (k:Nat)(a0:Dt47):evalF spec cals T Tryz.f68 k (a0,())=e a0:=by kernel_rfl
theorem of (k:Nat)(a0:Dt47){y:Dt47×Unit}(h:e a0=some y):F (a0,())=some y:=limF_of k ((eval k a0).trans h)
end ratio_Neg
namespace atoms_Below
def spec:Spec:=⟨[(false,Kt22),(true,Kt49),(false,.bool)],[(false,Kt22),(false,(.int .i64)),(false,(.int .i64))],.shared,fun j=>match j with|_=>[]⟩
def cals:Cals:=(Cals.cons 52 atoms_load.sig (Cals.cons 63 linear_Prime.sig (Cals.cons 64 ratio_Sign.sig (Cals.cons 66 atoms_key.sig (Cals.cons 65 atoms_put.sig (Cals.cons 68 ratio_Neg.sig (Cals.cons 67 ratio_Div.sig (Cals.base tabs))))))))
def sig:Sig:=spec.sig cals T Tryz.f21
def F (x:Dt22×Dt49×Bool×Unit):Option (Dt22×Int×Int×Unit):=limF spec cals T Tryz.f21 x
theorem ck:CalsOk Tryz.prog cals:=(CalsOk.cons atoms_load.cal (CalsOk.cons linear_Prime.cal (CalsOk.cons ratio_Sign.cal (CalsOk.cons atoms_key.cal (CalsOk.cons atoms_put.cal (CalsOk.cons ratio_Neg.cal (CalsOk.cons ratio_Div.cal (CalsOk.base tabsOk))))))))
theorem cal:CalOk Tryz.prog tabs 21 sig:=calOk_lim' tabOk ck mix Tryz.func21 (by kernel_rfl) (by kernel_rfl) (by kernel_rfl) (by kernel_rfl)
def e (a0:Dt22)(a1:Dt49)(a2:Bool):Option (Dt22×Int×Int×Unit):=
 (atoms_load.F (a0,())).bind fun y1=>
 let v2:=not y1.2.1
 bif v2 then(some (zt22,(0:Int),(170:Int),()))
 else((linear_Prime.F (a1.1,())).bind fun y3=>
 let v4:=(List.length y3.1:Int)
 let v5:=(v4==(0:Int))
 bif v5 then((ratio_Sign.F (((a1.2.1.1,a1.2.1.2),a1.2.2),())).bind fun y6=>
 let v7:=decide (y6.1<(0:Int))
 bif v7 then(bif decide (0≤(0:Int))&&decide ((0:Int)<(List.length a0:Int))then(let v8:=(List.getD a0 (Int.toNat (0:Int)) zt69).1
 let v9:=((List.getD a0 (Int.toNat (0:Int)) zt69).2).1
 let v10:=(((((List.getD a0 (Int.toNat (0:Int)) zt69).2).2).1).1).1
 let v11:=(((((List.getD a0 (Int.toNat (0:Int)) zt69).2).2).1).1).2
 let v12:=((((List.getD a0 (Int.toNat (0:Int)) zt69).2).2).1).2
 let v13:=(((List.getD a0 (Int.toNat (0:Int)) zt69).2).2).2
 (atoms_key.F ((v8,(v9,(((v10,v11),v12),v13))),())).bind fun y14=>
 let v15:=mpPut y14.1 (1:Int) ([]:List (ByteArray×Int))
 bif decide (0≤(0:Int))&&decide ((0:Int)<(List.length a0:Int))then(let v16:=(List.getD a0 (Int.toNat (0:Int)) zt69).1
 let v17:=((List.getD a0 (Int.toNat (0:Int)) zt69).2).1
 let v18:=(((((List.getD a0 (Int.toNat (0:Int)) zt69).2).2).1).1).1
 let v19:=(((((List.getD a0 (Int.toNat (0:Int)) zt69).2).2).1).1).2
 let v20:=((((List.getD a0 (Int.toNat (0:Int)) zt69).2).2).1).2
 let v21:=(((List.getD a0 (Int.toNat (0:Int)) zt69).2).2).2
 (atoms_put.F (a0,v15,(v16,(v17,(((v18,v19),v20),v21))),())).bind fun y22=>
 some (y22.1,(1:Int),(0:Int),()))
 else none)
 else none)
 else(let v23:=(y6.1==(0:Int))
 bif v23 then(let v24:=not a2
 bif v24 then(bif decide (0≤(0:Int))&&decide ((0:Int)<(List.length a0:Int))then(let v25:=(List.getD a0 (Int.toNat (0:Int)) zt69).1
 let v26:=((List.getD a0 (Int.toNat (0:Int)) zt69).2).1
 let v27:=(((((List.getD a0 (Int.toNat (0:Int)) zt69).2).2).1).1).1
 let v28:=(((((List.getD a0 (Int.toNat (0:Int)) zt69).2).2).1).1).2
 let v29:=((((List.getD a0 (Int.toNat (0:Int)) zt69).2).2).1).2
 let v30:=(((List.getD a0 (Int.toNat (0:Int)) zt69).2).2).2
 (atoms_key.F ((v25,(v26,(((v27,v28),v29),v30))),())).bind fun y31=>
 let v32:=mpPut y31.1 (1:Int) ([]:List (ByteArray×Int))
 bif decide (0≤(0:Int))&&decide ((0:Int)<(List.length a0:Int))then(let v33:=(List.getD a0 (Int.toNat (0:Int)) zt69).1
 let v34:=((List.getD a0 (Int.toNat (0:Int)) zt69).2).1
 let v35:=(((((List.getD a0 (Int.toNat (0:Int)) zt69).2).2).1).1).1
 let v36:=(((((List.getD a0 (Int.toNat (0:Int)) zt69).2).2).1).1).2
 let v37:=((((List.getD a0 (Int.toNat (0:Int)) zt69).2).2).1).2
 let v38:=(((List.getD a0 (Int.toNat (0:Int)) zt69).2).2).2
 (atoms_put.F (a0,v32,(v33,(v34,(((v35,v36),v37),v38))),())).bind fun y39=>
 some (y39.1,(1:Int),(0:Int),()))
 else none)
 else none)
 else(bif decide (0≤(0:Int))&&decide ((0:Int)<(List.length a0:Int))then(let v40:=(List.getD a0 (Int.toNat (0:Int)) zt69).1
 let v41:=((List.getD a0 (Int.toNat (0:Int)) zt69).2).1
 let v42:=(((((List.getD a0 (Int.toNat (0:Int)) zt69).2).2).1).1).1
 let v43:=(((((List.getD a0 (Int.toNat (0:Int)) zt69).2).2).1).1).2
 let v44:=((((List.getD a0 (Int.toNat (0:Int)) zt69).2).2).1).2
 let v45:=(((List.getD a0 (Int.toNat (0:Int)) zt69).2).2).2
 (atoms_key.F ((v40,(v41,(((v42,v43),v44),v45))),())).bind fun y46=>
 let v47:=mpPut y46.1 (1:Int) ([]:List (ByteArray×Int))
 bif decide (0≤(0:Int))&&decide ((0:Int)<(List.length a0:Int))then(let v48:=(List.getD a0 (Int.toNat (0:Int)) zt69).1
 let v49:=((List.getD a0 (Int.toNat (0:Int)) zt69).2).1
 let v50:=(((((List.getD a0 (Int.toNat (0:Int)) zt69).2).2).1).1).1
 let v51:=(((((List.getD a0 (Int.toNat (0:Int)) zt69).2).2).1).1).2
 let v52:=((((List.getD a0 (Int.toNat (0:Int)) zt69).2).2).1).2
 let v53:=(((List.getD a0 (Int.toNat (0:Int)) zt69).2).2).2
 (atoms_put.F (a0,v47,(v48,(v49,(((v50,v51),v52),v53))),())).bind fun y54=>
 some (y54.1,(-1:Int),(0:Int),()))
 else none)
 else none))
 else(bif decide (0≤(0:Int))&&decide ((0:Int)<(List.length a0:Int))then(let v55:=(List.getD a0 (Int.toNat (0:Int)) zt69).1
 let v56:=((List.getD a0 (Int.toNat (0:Int)) zt69).2).1
 let v57:=(((((List.getD a0 (Int.toNat (0:Int)) zt69).2).2).1).1).1
 let v58:=(((((List.getD a0 (Int.toNat (0:Int)) zt69).2).2).1).1).2
 let v59:=((((List.getD a0 (Int.toNat (0:Int)) zt69).2).2).1).2
 let v60:=(((List.getD a0 (Int.toNat (0:Int)) zt69).2).2).2
 (atoms_key.F ((v55,(v56,(((v57,v58),v59),v60))),())).bind fun y61=>
 let v62:=mpPut y61.1 (1:Int) ([]:List (ByteArray×Int))
 bif decide (0≤(0:Int))&&decide ((0:Int)<(List.length a0:Int))then(let v63:=(List.getD a0 (Int.toNat (0:Int)) zt69).1
 let v64:=((List.getD a0 (Int.toNat (0:Int)) zt69).2).1
 let v65:=(((((List.getD a0 (Int.toNat (0:Int)) zt69).2).2).1).1).1
 let v66:=(((((List.getD a0 (Int.toNat (0:Int)) zt69).2).2).1).1).2
 let v67:=((((List.getD a0 (Int.toNat (0:Int)) zt69).2).2).1).2
 let v68:=(((List.getD a0 (Int.toNat (0:Int)) zt69).2).2).2
 (atoms_put.F (a0,v62,(v63,(v64,(((v65,v66),v67),v68))),())).bind fun y69=>
 some (y69.1,(-1:Int),(0:Int),()))
 else none)
 else none)))
 else((ratio_Neg.F (((y3.2.1.1.1,y3.2.1.1.2),y3.2.1.2),())).bind fun y70=>
 (ratio_Div.F (((a1.2.1.1,a1.2.1.2),a1.2.2),((y70.1.1.1,y70.1.1.2),y70.1.2),())).bind fun y71=>
 (ratio_Sign.F (((y3.2.1.1.1,y3.2.1.1.2),y3.2.1.2),())).bind fun y72=>
 let v73:=decide (y72.1>(0:Int))
 let v74:=(a2==v73)
 (atoms_put.F (a0,y1.1,(ByteArray.empty,(y3.1,(((y71.1.1.1,y71.1.1.2),y71.1.2),v74))),())).bind fun y75=>
 let v76:=(y75.2.2.1 != (0:Int))
 bif v76 then(some (y75.1,y75.2.1,y75.2.2.1,()))
 else(bif v73 then(some (y75.1,y75.2.1,y75.2.2.1,()))
 else(let v77:=negI .i64 y75.2.1
 some (y75.1,v77,(0:Int),())))))
theorem eval (k:Nat)(a0:Dt22)(a1:Dt49)(a2:Bool):evalF spec cals T Tryz.f21 k (a0,a1,a2,())=e a0 a1 a2:=by kernel_rfl
theorem of (k:Nat)(a0:Dt22)(a1:Dt49)(a2:Bool){y:Dt22×Int×Int×Unit}(h:e a0 a1 a2=some y):F (a0,a1,a2,())=some y:=limF_of k ((eval k a0 a1 a2).trans h)
end atoms_Below
namespace w_lives
def spec:Spec:=⟨[],[(false,.bool)],.own,fun j=>match j with|_=>[]⟩
def cals:Cals:=(Cals.cons 20 atoms_New.sig (Cals.cons 47 r03_Whole.sig (Cals.cons 21 atoms_Below.sig (Cals.base tabs))))
def sig:Sig:=spec.sig cals T Tryz.f19
def F (x:Unit):Option (Bool×Unit):=limF spec cals T Tryz.f19 x
theorem ck:CalsOk Tryz.prog cals:=(CalsOk.cons atoms_New.cal (CalsOk.cons r03_Whole.cal (CalsOk.cons atoms_Below.cal (CalsOk.base tabsOk))))
theorem cal:CalOk Tryz.prog tabs 19 sig:=calOk_lim' tabOk ck mix Tryz.func19 (by kernel_rfl) (by kernel_rfl) (by kernel_rfl) (by kernel_rfl)
def e:Option (Bool×Unit):=
 (atoms_New.F ()).bind fun y1=>
 (r03_Whole.F ((-2:Int),())).bind fun y2=>
 let v3:=([((0:Int),((y2.1.1.1,y2.1.1.2),y2.1.2))]:List Dt73)
 (r03_Whole.F ((3:Int),())).bind fun y4=>
 (atoms_Below.F (y1.1,(v3,((y4.1.1.1,y4.1.1.2),y4.1.2)),true,())).bind fun y5=>
 let v6:=(y5.2.2.1==(0:Int))
 bif v6 then(let v7:=(y5.2.1==(-2:Int))
 bif v7 then(let v8:=(List.length y5.1:Int)
 let v9:=(v8==(2:Int))
 some (v9,()))
 else(some (false,())))
 else(some (false,()))
theorem eval (k:Nat):evalF spec cals T Tryz.f19 k ()=e:=by kernel_rfl
theorem of (k:Nat){y:Bool×Unit}(h:e=some y):F ()=some y:=limF_of k ((eval k).trans h)
end w_lives
namespace w_below
def spec:Spec:=⟨[(true,Kt49),(false,.bool),(false,Kt23)],[(false,.bool)],.own,fun j=>match j with|_=>[]⟩
def cals:Cals:=(Cals.cons 61 r06_Value.sig (Cals.cons 44 r03_Add.sig (Cals.cons 27 r03_Sign.sig (Cals.base tabs))))
def sig:Sig:=spec.sig cals T Tryz.f24
def F (x:Dt49×Bool×Dt23×Unit):Option (Bool×Unit):=limF spec cals T Tryz.f24 x
theorem ck:CalsOk Tryz.prog cals:=(CalsOk.cons r06_Value.cal (CalsOk.cons r03_Add.cal (CalsOk.cons r03_Sign.cal (CalsOk.base tabsOk))))
theorem cal:CalOk Tryz.prog tabs 24 sig:=calOk_lim' tabOk ck mix Tryz.func24 (by kernel_rfl) (by kernel_rfl) (by kernel_rfl) (by kernel_rfl)
def e (a0:Dt49)(a1:Bool)(a2:Dt23):Option (Bool×Unit):=
 (r06_Value.F (a0.1,a2,())).bind fun y1=>
 (r03_Add.F (((y1.1.1.1,y1.1.1.2),y1.1.2),((a0.2.1.1,a0.2.1.2),a0.2.2),())).bind fun y2=>
 (r03_Sign.F (((y2.1.1.1,y2.1.1.2),y2.1.2),())).bind fun y3=>
 let v4:=decide (y3.1<(0:Int))
 bif v4 then(some (true,()))
 else(let v5:=(y3.1==(0:Int))
 bif v5 then(let v6:=not a1
 some (v6,()))
 else(some (false,())))
theorem eval (k:Nat)(a0:Dt49)(a1:Bool)(a2:Dt23):evalF spec cals T Tryz.f24 k (a0,a1,a2,())=e a0 a1 a2:=by kernel_rfl
theorem of (k:Nat)(a0:Dt49)(a1:Bool)(a2:Dt23){y:Bool×Unit}(h:e a0 a1 a2=some y):F (a0,a1,a2,())=some y:=limF_of k ((eval k a0 a1 a2).trans h)
end w_below
namespace atoms_Implies
def spec:Spec:=⟨[(false,Kt22),(false,(.int .i64)),(false,(.int .i64))],[(false,.bool),(false,(.int .i64))],.own,fun j=>match j with|_=>[]⟩
def cals:Cals:=(Cals.cons 52 atoms_load.sig (Cals.cons 53 atoms_literal.sig (Cals.cons 87 atoms_sameForm.sig (Cals.cons 54 ratio_Cmp.sig (Cals.base tabs)))))
def sig:Sig:=spec.sig cals T Tryz.f40
def F (x:Dt22×Int×Int×Unit):Option (Bool×Int×Unit):=limF spec cals T Tryz.f40 x
theorem ck:CalsOk Tryz.prog cals:=(CalsOk.cons atoms_load.cal (CalsOk.cons atoms_literal.cal (CalsOk.cons atoms_sameForm.cal (CalsOk.cons ratio_Cmp.cal (CalsOk.base tabsOk)))))
theorem cal:CalOk Tryz.prog tabs 40 sig:=calOk_lim' tabOk ck mix Tryz.func40 (by kernel_rfl) (by kernel_rfl) (by kernel_rfl) (by kernel_rfl)
def e (a0:Dt22)(a1:Int)(a2:Int):Option (Bool×Int×Unit):=
 (atoms_load.F (a0,())).bind fun y1=>
 (atoms_literal.F (a0,a1,())).bind fun y2=>
 (atoms_literal.F (a0,a2,())).bind fun y3=>
 let v4:=not y1.2.1
 bif v4 then(some (false,(170:Int),()))
 else(let v5:=not y2.2.1
 bif v5 then(some (false,(170:Int),()))
 else(let v6:=not y3.2.1
 bif v6 then(some (false,(170:Int),()))
 else(let v7:=(a1==a2)
 bif v7 then(some (true,(0:Int),()))
 else(let v8:=(a2==(1:Int))
 bif v8 then(some (true,(0:Int),()))
 else(let v9:=(a1==(-1:Int))
 bif v9 then(some (true,(0:Int),()))
 else(let v10:=(List.length y2.1.2.1:Int)
 let v11:=(v10==(0:Int))
 bif v11 then(some (false,(0:Int),()))
 else((atoms_sameForm.F (y2.1.2.1,y3.1.2.1,())).bind fun y12=>
 let v13:=not y12.1
 bif v13 then(some (false,(0:Int),()))
 else(let v14:=decide (a1>(0:Int))
 let v15:=decide (a2>(0:Int))
 let v16:=(!(v14==v15))
 bif v16 then(some (false,(0:Int),()))
 else(let v17:=decide (a1<(0:Int))
 bif v17 then((ratio_Cmp.F (((y3.1.2.2.1.1.1,y3.1.2.2.1.1.2),y3.1.2.2.1.2),((y2.1.2.2.1.1.1,y2.1.2.2.1.1.2),y2.1.2.2.1.2),())).bind fun y18=>
 let v19:=decide (y18.1<(0:Int))
 bif v19 then(some (true,(0:Int),()))
 else(let v20:=(y18.1==(0:Int))
 bif v20 then(bif y3.1.2.2.2 then(some (true,(0:Int),()))
 else(let v21:=not y2.1.2.2.2
 some (v21,(0:Int),())))
 else(some (false,(0:Int),()))))
 else((ratio_Cmp.F (((y2.1.2.2.1.1.1,y2.1.2.2.1.1.2),y2.1.2.2.1.2),((y3.1.2.2.1.1.1,y3.1.2.2.1.1.2),y3.1.2.2.1.2),())).bind fun y22=>
 let v23:=decide (y22.1<(0:Int))
 bif v23 then(some (true,(0:Int),()))
 else(let v24:=(y22.1==(0:Int))
 bif v24 then(bif y2.1.2.2.2 then(some (true,(0:Int),()))
 else(let v25:=not y3.1.2.2.2
 some (v25,(0:Int),())))
 else(some (false,(0:Int),())))))))))))))
theorem eval (k:Nat)(a0:Dt22)(a1:Int)(a2:Int):evalF spec cals T Tryz.f40 k (a0,a1,a2,())=e a0 a1 a2:=by kernel_rfl
theorem of (k:Nat)(a0:Dt22)(a1:Int)(a2:Int){y:Bool×Int×Unit}(h:e a0 a1 a2=some y):F (a0,a1,a2,())=some y:=limF_of k ((eval k a0 a1 a2).trans h)
end atoms_Implies
namespace r03_Abs
def spec:Spec:=⟨[(true,Kt47)],[(true,Kt47)],.own,fun j=>match j with|_=>[]⟩
def cals:Cals:=(Cals.cons 27 r03_Sign.sig (Cals.cons 43 r03_Neg.sig (Cals.cons 77 r03_Norm.sig (Cals.base tabs))))
def sig:Sig:=spec.sig cals T Tryz.f46
def F (x:Dt47×Unit):Option (Dt47×Unit):=limF spec cals T Tryz.f46 x
theorem ck:CalsOk Tryz.prog cals:=(CalsOk.cons r03_Sign.cal (CalsOk.cons r03_Neg.cal (CalsOk.cons r03_Norm.cal (CalsOk.base tabsOk))))
theorem cal:CalOk Tryz.prog tabs 46 sig:=calOk_lim' tabOk ck mix Tryz.func46 (by kernel_rfl) (by kernel_rfl) (by kernel_rfl) (by kernel_rfl)
def e (a0:Dt47):Option (Dt47×Unit):=
 (r03_Sign.F (((a0.1.1,a0.1.2),a0.2),())).bind fun y1=>
 let v2:=decide (y1.1<(0:Int))
 bif v2 then((r03_Neg.F (((a0.1.1,a0.1.2),a0.2),())).bind fun y3=>
 some (((y3.1.1.1,y3.1.1.2),y3.1.2),()))
 else((r03_Norm.F (((a0.1.1,a0.1.2),a0.2),())).bind fun y4=>
 some (((y4.1.1.1,y4.1.1.2),y4.1.2),()))
theorem eval (k:Nat)(a0:Dt47):evalF spec cals T Tryz.f46 k (a0,())=e a0:=by kernel_rfl
theorem of (k:Nat)(a0:Dt47){y:Dt47×Unit}(h:e a0=some y):F (a0,())=some y:=limF_of k ((eval k a0).trans h)
end r03_Abs
namespace w_AtomsFollows
def spec:Spec:=⟨[(true,Kt83)],[(false,.bool)],.own,fun j=>match j with|23=>[(4,.box 47 [.v false,.z 86 (.int .u32) false,.z 86 (.int .u32) false]),(5,.box 47 [.v false,.z 86 (.int .u32) false,.z 86 (.int .u32) false]),(6,.box 81 [.v false,.v false,.v false,.v false]),(12,.lf (.v true)),(15,.lf (.o 47 Kt47 false)),(16,.lf (.v true)),(17,.lf (.v true)),(18,.lf (.v true))]|_=>[]⟩
def cals:Cals:=(Cals.cons 19 w_lives.sig (Cals.cons 20 atoms_New.sig (Cals.cons 42 m_Form.sig (Cals.cons 43 r03_Neg.sig (Cals.cons 21 atoms_Below.sig (Cals.cons 15 w_twin.sig (Cals.cons 40 atoms_Implies.sig (Cals.cons 44 r03_Add.sig (Cals.cons 29 r03_Mul.sig (Cals.cons 45 r03_Sub.sig (Cals.cons 46 r03_Abs.sig (Cals.cons 47 r03_Whole.sig (Cals.cons 48 r06_Norm.sig (Cals.cons 24 w_below.sig (Cals.base tabs)))))))))))))))
def sig:Sig:=spec.sig cals T Tryz.f12
def F (x:Dt83×Unit):Option (Bool×Unit):=limF spec cals T Tryz.f12 x
theorem ck:CalsOk Tryz.prog cals:=(CalsOk.cons w_lives.cal (CalsOk.cons atoms_New.cal (CalsOk.cons m_Form.cal (CalsOk.cons r03_Neg.cal (CalsOk.cons atoms_Below.cal (CalsOk.cons w_twin.cal (CalsOk.cons atoms_Implies.cal (CalsOk.cons r03_Add.cal (CalsOk.cons r03_Mul.cal (CalsOk.cons r03_Sub.cal (CalsOk.cons r03_Abs.cal (CalsOk.cons r03_Whole.cal (CalsOk.cons r06_Norm.cal (CalsOk.cons w_below.cal (CalsOk.base tabsOk)))))))))))))))
theorem cal:CalOk Tryz.prog tabs 12 sig:=calOk_lim' tabOk ck mix Tryz.func12 (by kernel_rfl) (by kernel_rfl) (by kernel_rfl) (by kernel_rfl)
def m23 (x4_0:Bool)(x4_1:Dt43)(x4_2:Dt43)(x5_0:Bool)(x5_1:Dt43)(x5_2:Dt43)(x6_0:Bool)(x6_1:Bool)(x6_2:Bool)(x6_3:Bool)(x12:Bool)(x15:Dt23)(x16:Bool)(x17:Bool)(x18:Int):S:=⟨[(4,.box 0 0),(5,.box 1 0),(6,.box 2 0),(12,.one (.lf (.val true .bool x12))),(15,.one (.lf (.own 0))),(16,.one (.lf (.val true .bool x16))),(17,.one (.lf (.val true .bool x17))),(18,.one (.lf (.val true (.int .i64) x18)))],⟨[some ⟨47,Kt47,false,true,x15⟩],[some ⟨47,[.val false .bool x4_0,.val false Kt43 x4_1,.val false Kt43 x4_2]⟩,some ⟨47,[.val false .bool x5_0,.val false Kt43 x5_1,.val false Kt43 x5_2]⟩,some ⟨81,[.val false .bool x6_0,.val false .bool x6_1,.val false .bool x6_2,.val false .bool x6_3]⟩]⟩⟩
def b23 (f23:Bool→Dt43→Dt43→Bool→Dt43→Dt43→Bool→Bool→Bool→Bool→Bool→Dt23→Bool→Bool→Int→Option (Bool×Unit))(x4_0:Bool)(x4_1:Dt43)(x4_2:Dt43)(x5_0:Bool)(x5_1:Dt43)(x5_2:Dt43)(x6_0:Bool)(x6_1:Bool)(x6_2:Bool)(x6_3:Bool)(x12:Bool)(x15:Dt23)(x16:Bool)(x17:Bool)(x18:Int):Option (Bool×Unit):=
 let v1:=(List.length x15:Int)
 let v2:=decide (x18<v1)
 bif v2 then(bif decide (0≤x18)&&decide (x18<(List.length x15:Int))then(let v3:=((List.getD x15 (Int.toNat x18) zt47).1).1
 let v4:=((List.getD x15 (Int.toNat x18) zt47).1).2
 let v5:=(List.getD x15 (Int.toNat x18) zt47).2
 bif x17 then((r03_Whole.F ((0:Int),())).bind fun y6=>
 (r03_Sub.F (((y6.1.1.1,y6.1.1.2),y6.1.2),((x4_0,x4_1),x4_2),())).bind fun y7=>
 (w_below.F ((zt40,((y7.1.1.1,y7.1.1.2),y7.1.2)),x6_0,zt23,())).bind fun y8=>
 let v9:=(!(y8.1==x6_2))
 (r03_Sub.F (((y6.1.1.1,y6.1.1.2),y6.1.2),((x5_0,x5_1),x5_2),())).bind fun y10=>
 (w_below.F ((zt40,((y10.1.1.1,y10.1.1.2),y10.1.2)),x6_1,zt23,())).bind fun y11=>
 let v12:=(!(y11.1==x6_3))
 bif v9 then(let v13:=not v12
 bif v13 then(let v14:=IntKind.i64.wrap (x18+(1:Int))
 f23 x4_0 x4_1 x4_2 x5_0 x5_1 x5_2 x6_0 x6_1 x6_2 x6_3 x12 x15 false x17 v14)
 else(let v15:=IntKind.i64.wrap (x18+(1:Int))
 f23 x4_0 x4_1 x4_2 x5_0 x5_1 x5_2 x6_0 x6_1 x6_2 x6_3 x12 x15 x16 x17 v15))
 else(let v16:=IntKind.i64.wrap (x18+(1:Int))
 f23 x4_0 x4_1 x4_2 x5_0 x5_1 x5_2 x6_0 x6_1 x6_2 x6_3 x12 x15 x16 x17 v16))
 else((r03_Sub.F (((v3,v4),v5),((x4_0,x4_1),x4_2),())).bind fun y17=>
 (w_below.F ((zt40,((y17.1.1.1,y17.1.1.2),y17.1.2)),x6_0,zt23,())).bind fun y18=>
 let v19:=(!(y18.1==x6_2))
 (r03_Sub.F (((v3,v4),v5),((x5_0,x5_1),x5_2),())).bind fun y20=>
 (w_below.F ((zt40,((y20.1.1.1,y20.1.1.2),y20.1.2)),x6_1,zt23,())).bind fun y21=>
 let v22:=(!(y21.1==x6_3))
 bif v19 then(let v23:=not v22
 bif v23 then(let v24:=IntKind.i64.wrap (x18+(1:Int))
 f23 x4_0 x4_1 x4_2 x5_0 x5_1 x5_2 x6_0 x6_1 x6_2 x6_3 x12 x15 false x17 v24)
 else(let v25:=IntKind.i64.wrap (x18+(1:Int))
 f23 x4_0 x4_1 x4_2 x5_0 x5_1 x5_2 x6_0 x6_1 x6_2 x6_3 x12 x15 x16 x17 v25))
 else(let v26:=IntKind.i64.wrap (x18+(1:Int))
 f23 x4_0 x4_1 x4_2 x5_0 x5_1 x5_2 x6_0 x6_1 x6_2 x6_3 x12 x15 x16 x17 v26)))
 else none)
 else(let v27:=(x12==x16)
 some (v27,()))
def e (f23:Bool→Dt43→Dt43→Bool→Dt43→Dt43→Bool→Bool→Bool→Bool→Bool→Dt23→Bool→Bool→Int→Option (Bool×Unit))(a0:Dt83):Option (Bool×Unit):=
 (w_lives.F ()).bind fun y1=>
 let v2:=not y1.1
 bif v2 then(some (false,()))
 else((atoms_New.F ()).bind fun y3=>
 (m_Form.F (a0.1,())).bind fun y4=>
 (r03_Neg.F (((a0.2.1.1.1,a0.2.1.1.2),a0.2.1.2),())).bind fun y5=>
 (atoms_Below.F (y3.1,(y4.1,((y5.1.1.1,y5.1.1.2),y5.1.2)),a0.2.2.2.1,())).bind fun y6=>
 let v7:=(y6.2.2.1 != (0:Int))
 bif v7 then(some (false,()))
 else((m_Form.F (a0.1,())).bind fun y8=>
 (r03_Neg.F (((a0.2.2.1.1.1,a0.2.2.1.1.2),a0.2.2.1.2),())).bind fun y9=>
 (atoms_Below.F (y6.1,(y8.1,((y9.1.1.1,y9.1.1.2),y9.1.2)),a0.2.2.2.2.1,())).bind fun y10=>
 let v11:=(y10.2.2.1 != (0:Int))
 bif v11 then(some (false,()))
 else(bif a0.2.2.2.2.2.1 then(let v12:=negI .i64 y6.2.1
 bif a0.2.2.2.2.2.2 then(let v13:=negI .i64 y10.2.1
 (w_twin.F (y10.1,())).bind fun y14=>
 (atoms_Implies.F (y14.1,v12,v13,())).bind fun y15=>
 let v16:=(y15.2.1 != (0:Int))
 bif v16 then(some (false,()))
 else(let v17:=([(1:Int)]:List Int)
 let v18:=([(2:Int)]:List Int)
 (r03_Add.F (((a0.2.1.1.1,a0.2.1.1.2),a0.2.1.2),((a0.2.2.1.1.1,a0.2.2.1.1.2),a0.2.2.1.2),())).bind fun y19=>
 (r03_Mul.F (((false,v17),v18),((y19.1.1.1,y19.1.1.2),y19.1.2),())).bind fun y20=>
 (r03_Sub.F (((a0.2.1.1.1,a0.2.1.1.2),a0.2.1.2),((a0.2.2.1.1.1,a0.2.2.1.1.2),a0.2.2.1.2),())).bind fun y21=>
 (r03_Abs.F (((y21.1.1.1,y21.1.1.2),y21.1.2),())).bind fun y22=>
 (r03_Sub.F (((a0.2.1.1.1,a0.2.1.1.2),a0.2.1.2),((y22.1.1.1,y22.1.1.2),y22.1.2),())).bind fun y23=>
 (r03_Whole.F ((1:Int),())).bind fun y24=>
 (r03_Sub.F (((y23.1.1.1,y23.1.1.2),y23.1.2),((y24.1.1.1,y24.1.1.2),y24.1.2),())).bind fun y25=>
 (r03_Sub.F (((a0.2.1.1.1,a0.2.1.1.2),a0.2.1.2),((a0.2.2.1.1.1,a0.2.2.1.1.2),a0.2.2.1.2),())).bind fun y26=>
 (r03_Abs.F (((y26.1.1.1,y26.1.1.2),y26.1.2),())).bind fun y27=>
 (r03_Add.F (((a0.2.1.1.1,a0.2.1.1.2),a0.2.1.2),((y27.1.1.1,y27.1.1.2),y27.1.2),())).bind fun y28=>
 (r03_Whole.F ((1:Int),())).bind fun y29=>
 (r03_Add.F (((y28.1.1.1,y28.1.1.2),y28.1.2),((y29.1.1.1,y29.1.1.2),y29.1.2),())).bind fun y30=>
 let v31:=([((a0.2.1.1.1,a0.2.1.1.2),a0.2.1.2),((a0.2.2.1.1.1,a0.2.2.1.1.2),a0.2.2.1.2),((y20.1.1.1,y20.1.1.2),y20.1.2),((y25.1.1.1,y25.1.1.2),y25.1.2),((y30.1.1.1,y30.1.1.2),y30.1.2)]:List Dt47)
 (r06_Norm.F (a0.1,())).bind fun y32=>
 let v33:=(List.length y32.1:Int)
 let v34:=(v33==(0:Int))
 f23 a0.2.1.1.1 a0.2.1.1.2 a0.2.1.2 a0.2.2.1.1.1 a0.2.2.1.1.2 a0.2.2.1.2 a0.2.2.2.1 a0.2.2.2.2.1 a0.2.2.2.2.2.1 a0.2.2.2.2.2.2 y15.1 v31 true v34 (0:Int)))
 else((w_twin.F (y10.1,())).bind fun y35=>
 (atoms_Implies.F (y35.1,v12,y10.2.1,())).bind fun y36=>
 let v37:=(y36.2.1 != (0:Int))
 bif v37 then(some (false,()))
 else(let v38:=([(1:Int)]:List Int)
 let v39:=([(2:Int)]:List Int)
 (r03_Add.F (((a0.2.1.1.1,a0.2.1.1.2),a0.2.1.2),((a0.2.2.1.1.1,a0.2.2.1.1.2),a0.2.2.1.2),())).bind fun y40=>
 (r03_Mul.F (((false,v38),v39),((y40.1.1.1,y40.1.1.2),y40.1.2),())).bind fun y41=>
 (r03_Sub.F (((a0.2.1.1.1,a0.2.1.1.2),a0.2.1.2),((a0.2.2.1.1.1,a0.2.2.1.1.2),a0.2.2.1.2),())).bind fun y42=>
 (r03_Abs.F (((y42.1.1.1,y42.1.1.2),y42.1.2),())).bind fun y43=>
 (r03_Sub.F (((a0.2.1.1.1,a0.2.1.1.2),a0.2.1.2),((y43.1.1.1,y43.1.1.2),y43.1.2),())).bind fun y44=>
 (r03_Whole.F ((1:Int),())).bind fun y45=>
 (r03_Sub.F (((y44.1.1.1,y44.1.1.2),y44.1.2),((y45.1.1.1,y45.1.1.2),y45.1.2),())).bind fun y46=>
 (r03_Sub.F (((a0.2.1.1.1,a0.2.1.1.2),a0.2.1.2),((a0.2.2.1.1.1,a0.2.2.1.1.2),a0.2.2.1.2),())).bind fun y47=>
 (r03_Abs.F (((y47.1.1.1,y47.1.1.2),y47.1.2),())).bind fun y48=>
 (r03_Add.F (((a0.2.1.1.1,a0.2.1.1.2),a0.2.1.2),((y48.1.1.1,y48.1.1.2),y48.1.2),())).bind fun y49=>
 (r03_Whole.F ((1:Int),())).bind fun y50=>
 (r03_Add.F (((y49.1.1.1,y49.1.1.2),y49.1.2),((y50.1.1.1,y50.1.1.2),y50.1.2),())).bind fun y51=>
 let v52:=([((a0.2.1.1.1,a0.2.1.1.2),a0.2.1.2),((a0.2.2.1.1.1,a0.2.2.1.1.2),a0.2.2.1.2),((y41.1.1.1,y41.1.1.2),y41.1.2),((y46.1.1.1,y46.1.1.2),y46.1.2),((y51.1.1.1,y51.1.1.2),y51.1.2)]:List Dt47)
 (r06_Norm.F (a0.1,())).bind fun y53=>
 let v54:=(List.length y53.1:Int)
 let v55:=(v54==(0:Int))
 f23 a0.2.1.1.1 a0.2.1.1.2 a0.2.1.2 a0.2.2.1.1.1 a0.2.2.1.1.2 a0.2.2.1.2 a0.2.2.2.1 a0.2.2.2.2.1 a0.2.2.2.2.2.1 a0.2.2.2.2.2.2 y36.1 v52 true v55 (0:Int))))
 else(bif a0.2.2.2.2.2.2 then(let v56:=negI .i64 y10.2.1
 (w_twin.F (y10.1,())).bind fun y57=>
 (atoms_Implies.F (y57.1,y6.2.1,v56,())).bind fun y58=>
 let v59:=(y58.2.1 != (0:Int))
 bif v59 then(some (false,()))
 else(let v60:=([(1:Int)]:List Int)
 let v61:=([(2:Int)]:List Int)
 (r03_Add.F (((a0.2.1.1.1,a0.2.1.1.2),a0.2.1.2),((a0.2.2.1.1.1,a0.2.2.1.1.2),a0.2.2.1.2),())).bind fun y62=>
 (r03_Mul.F (((false,v60),v61),((y62.1.1.1,y62.1.1.2),y62.1.2),())).bind fun y63=>
 (r03_Sub.F (((a0.2.1.1.1,a0.2.1.1.2),a0.2.1.2),((a0.2.2.1.1.1,a0.2.2.1.1.2),a0.2.2.1.2),())).bind fun y64=>
 (r03_Abs.F (((y64.1.1.1,y64.1.1.2),y64.1.2),())).bind fun y65=>
 (r03_Sub.F (((a0.2.1.1.1,a0.2.1.1.2),a0.2.1.2),((y65.1.1.1,y65.1.1.2),y65.1.2),())).bind fun y66=>
 (r03_Whole.F ((1:Int),())).bind fun y67=>
 (r03_Sub.F (((y66.1.1.1,y66.1.1.2),y66.1.2),((y67.1.1.1,y67.1.1.2),y67.1.2),())).bind fun y68=>
 (r03_Sub.F (((a0.2.1.1.1,a0.2.1.1.2),a0.2.1.2),((a0.2.2.1.1.1,a0.2.2.1.1.2),a0.2.2.1.2),())).bind fun y69=>
 (r03_Abs.F (((y69.1.1.1,y69.1.1.2),y69.1.2),())).bind fun y70=>
 (r03_Add.F (((a0.2.1.1.1,a0.2.1.1.2),a0.2.1.2),((y70.1.1.1,y70.1.1.2),y70.1.2),())).bind fun y71=>
 (r03_Whole.F ((1:Int),())).bind fun y72=>
 (r03_Add.F (((y71.1.1.1,y71.1.1.2),y71.1.2),((y72.1.1.1,y72.1.1.2),y72.1.2),())).bind fun y73=>
 let v74:=([((a0.2.1.1.1,a0.2.1.1.2),a0.2.1.2),((a0.2.2.1.1.1,a0.2.2.1.1.2),a0.2.2.1.2),((y63.1.1.1,y63.1.1.2),y63.1.2),((y68.1.1.1,y68.1.1.2),y68.1.2),((y73.1.1.1,y73.1.1.2),y73.1.2)]:List Dt47)
 (r06_Norm.F (a0.1,())).bind fun y75=>
 let v76:=(List.length y75.1:Int)
 let v77:=(v76==(0:Int))
 f23 a0.2.1.1.1 a0.2.1.1.2 a0.2.1.2 a0.2.2.1.1.1 a0.2.2.1.1.2 a0.2.2.1.2 a0.2.2.2.1 a0.2.2.2.2.1 a0.2.2.2.2.2.1 a0.2.2.2.2.2.2 y58.1 v74 true v77 (0:Int)))
 else((w_twin.F (y10.1,())).bind fun y78=>
 (atoms_Implies.F (y78.1,y6.2.1,y10.2.1,())).bind fun y79=>
 let v80:=(y79.2.1 != (0:Int))
 bif v80 then(some (false,()))
 else(let v81:=([(1:Int)]:List Int)
 let v82:=([(2:Int)]:List Int)
 (r03_Add.F (((a0.2.1.1.1,a0.2.1.1.2),a0.2.1.2),((a0.2.2.1.1.1,a0.2.2.1.1.2),a0.2.2.1.2),())).bind fun y83=>
 (r03_Mul.F (((false,v81),v82),((y83.1.1.1,y83.1.1.2),y83.1.2),())).bind fun y84=>
 (r03_Sub.F (((a0.2.1.1.1,a0.2.1.1.2),a0.2.1.2),((a0.2.2.1.1.1,a0.2.2.1.1.2),a0.2.2.1.2),())).bind fun y85=>
 (r03_Abs.F (((y85.1.1.1,y85.1.1.2),y85.1.2),())).bind fun y86=>
 (r03_Sub.F (((a0.2.1.1.1,a0.2.1.1.2),a0.2.1.2),((y86.1.1.1,y86.1.1.2),y86.1.2),())).bind fun y87=>
 (r03_Whole.F ((1:Int),())).bind fun y88=>
 (r03_Sub.F (((y87.1.1.1,y87.1.1.2),y87.1.2),((y88.1.1.1,y88.1.1.2),y88.1.2),())).bind fun y89=>
 (r03_Sub.F (((a0.2.1.1.1,a0.2.1.1.2),a0.2.1.2),((a0.2.2.1.1.1,a0.2.2.1.1.2),a0.2.2.1.2),())).bind fun y90=>
 (r03_Abs.F (((y90.1.1.1,y90.1.1.2),y90.1.2),())).bind fun y91=>
 (r03_Add.F (((a0.2.1.1.1,a0.2.1.1.2),a0.2.1.2),((y91.1.1.1,y91.1.1.2),y91.1.2),())).bind fun y92=>
 (r03_Whole.F ((1:Int),())).bind fun y93=>
 (r03_Add.F (((y92.1.1.1,y92.1.1.2),y92.1.2),((y93.1.1.1,y93.1.1.2),y93.1.2),())).bind fun y94=>
 let v95:=([((a0.2.1.1.1,a0.2.1.1.2),a0.2.1.2),((a0.2.2.1.1.1,a0.2.2.1.1.2),a0.2.2.1.2),((y84.1.1.1,y84.1.1.2),y84.1.2),((y89.1.1.1,y89.1.1.2),y89.1.2),((y94.1.1.1,y94.1.1.2),y94.1.2)]:List Dt47)
 (r06_Norm.F (a0.1,())).bind fun y96=>
 let v97:=(List.length y96.1:Int)
 let v98:=(v97==(0:Int))
 f23 a0.2.1.1.1 a0.2.1.1.2 a0.2.1.2 a0.2.2.1.1.1 a0.2.2.1.1.2 a0.2.2.1.2 a0.2.2.2.1 a0.2.2.2.2.1 a0.2.2.2.2.2.1 a0.2.2.2.2.2.2 y79.1 v95 true v98 (0:Int)))))))
def L23 (k:Nat)(x4_0:Bool)(x4_1:Dt43)(x4_2:Dt43)(x5_0:Bool)(x5_1:Dt43)(x5_2:Dt43)(x6_0:Bool)(x6_1:Bool)(x6_2:Bool)(x6_3:Bool)(x12:Bool)(x15:Dt23)(x16:Bool)(x17:Bool)(x18:Int):Option (Bool×Unit):=heads (spec.env cals T Tryz.f12) (Func.pts Tryz.f12) k 23 (m23 x4_0 x4_1 x4_2 x5_0 x5_1 x5_2 x6_0 x6_1 x6_2 x6_3 x12 x15 x16 x17 x18)
theorem L23_succ (k:Nat)(x4_0:Bool)(x4_1:Dt43)(x4_2:Dt43)(x5_0:Bool)(x5_1:Dt43)(x5_2:Dt43)(x6_0:Bool)(x6_1:Bool)(x6_2:Bool)(x6_3:Bool)(x12:Bool)(x15:Dt23)(x16:Bool)(x17:Bool)(x18:Int):L23 (k+1) x4_0 x4_1 x4_2 x5_0 x5_1 x5_2 x6_0 x6_1 x6_2 x6_3 x12 x15 x16 x17 x18=b23 (L23 k) x4_0 x4_1 x4_2 x5_0 x5_1 x5_2 x6_0 x6_1 x6_2 x6_3 x12 x15 x16 x17 x18:=by kernel_rfl
theorem eval (k:Nat)(a0:Dt83):evalF spec cals T Tryz.f12 k (a0,())=e (L23 k) a0:=by kernel_rfl
theorem of (k:Nat)(a0:Dt83){y:Bool×Unit}(h:e (L23 k) a0=some y):F (a0,())=some y:=limF_of k ((eval k a0).trans h)
end w_AtomsFollows
end
end Go.Fx.Tryz
