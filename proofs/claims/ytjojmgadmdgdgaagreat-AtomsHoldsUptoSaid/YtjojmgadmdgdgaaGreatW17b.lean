import Derived.Test.YtjojmgadmdgdgaaGreatW17a
namespace Go.Fx.Tryz
open Go Go.Proofs Go.Fx
set_option linter.unusedVariables false
set_option maxRecDepth 100000
noncomputable section
namespace w_bindings
def spec:Spec:=⟨[(false,Kt24)],[(false,Kt24)],.own,fun j=>match j with|3=>[(0,.lf (.z 103 Kt103 false)),(3,.lf (.o 103 Kt103 true)),(4,.lf (.v true))]|_=>[]⟩
def cals:Cals:=(Cals.cons 58 m_Rat.sig (Cals.base tabs))
def sig:Sig:=spec.sig cals T Tryz.f17
def F (x:Dt24×Unit):Option (Dt24×Unit):=limF spec cals T Tryz.f17 x
theorem ck:CalsOk Tryz.prog cals:=(CalsOk.cons m_Rat.cal (CalsOk.base tabsOk))
theorem cal:CalOk Tryz.prog tabs 17 sig:=calOk_lim' tabOk ck mix Tryz.func17 (by kernel_rfl) (by kernel_rfl) (by kernel_rfl) (by kernel_rfl)
def m3 (x0:Dt24)(x3:Dt24)(x4:Int):S:=⟨[(0,.one (.lf (.val false Kt24 x0))),(3,.one (.lf (.own 0))),(4,.one (.lf (.val true (.int .i64) x4)))],⟨[some ⟨103,Kt103,true,true,x3⟩],[]⟩⟩
def b3 (f3:Dt24→Dt24→Int→Option (Dt24×Unit))(x0:Dt24)(x3:Dt24)(x4:Int):Option (Dt24×Unit):=
 let v1:=(List.length x0:Int)
 let v2:=decide (x4<v1)
 bif v2 then(bif decide (0≤x4)&&decide (x4<(List.length x0:Int))then(let v3:=(List.getD x0 (Int.toNat x4) zt103).1
 bif decide (0≤x4)&&decide (x4<(List.length x0:Int))then(let v4:=((List.getD x0 (Int.toNat x4) zt103).2).1
 bif decide (0≤x4)&&decide (x4<(List.length x0:Int))then(let v5:=(((List.getD x0 (Int.toNat x4) zt103).2).2).1
 bif decide (0≤x4)&&decide (x4<(List.length x0:Int))then(let v6:=(((((List.getD x0 (Int.toNat x4) zt103).2).2).2).1).1
 let v7:=(((((List.getD x0 (Int.toNat x4) zt103).2).2).2).1).2
 let v8:=((((List.getD x0 (Int.toNat x4) zt103).2).2).2).2
 (m_Rat.F (((v6,v7),v8),())).bind fun y9=>
 bif decide (0≤x4)&&decide (x4<(List.length x3:Int))then(let v10:=List.set x3 (Int.toNat x4) (v3,(v4,(v5,((y9.1.1.1,y9.1.1.2),y9.1.2))))
 let v11:=IntKind.i64.wrap (x4+(1:Int))
 f3 x0 v10 v11)
 else none)
 else none)
 else none)
 else none)
 else none)
 else(some (x3,()))
def e (f3:Dt24→Dt24→Int→Option (Dt24×Unit))(a0:Dt24):Option (Dt24×Unit):=
 let v1:=(List.length a0:Int)
 bif decide (0≤v1)&&(decide (v1≤v1)&&(decide (Int.toNat v1*88≤281474976710656)&&Nat.blt 0 88))then(let v2:=List.replicate (Int.toNat v1) zt103
 f3 a0 v2 (0:Int))
 else none
def L3 (k:Nat)(x0:Dt24)(x3:Dt24)(x4:Int):Option (Dt24×Unit):=heads (spec.env cals T Tryz.f17) (Func.pts Tryz.f17) k 3 (m3 x0 x3 x4)
theorem L3_succ (k:Nat)(x0:Dt24)(x3:Dt24)(x4:Int):L3 (k+1) x0 x3 x4=b3 (L3 k) x0 x3 x4:=by kernel_rfl
theorem eval (k:Nat)(a0:Dt24):evalF spec cals T Tryz.f17 k (a0,())=e (L3 k) a0:=by kernel_rfl
theorem of (k:Nat)(a0:Dt24){y:Dt24×Unit}(h:e (L3 k) a0=some y):F (a0,())=some y:=limF_of k ((eval k a0).trans h)
end w_bindings
namespace r01_Same
def spec:Spec:=⟨[(false,Kt43),(false,Kt43)],[(false,.bool)],.own,fun j=>match j with|4=>[(0,.lf (.z 86 (.int .u32) false)),(1,.lf (.z 86 (.int .u32) false)),(5,.lf (.v true))]|_=>[]⟩
def cals:Cals:=(Cals.base tabs)
def sig:Sig:=spec.sig cals T Tryz.f142
def F (x:Dt43×Dt43×Unit):Option (Bool×Unit):=limF spec cals T Tryz.f142 x
theorem ck:CalsOk Tryz.prog cals:=(CalsOk.base tabsOk)
theorem cal:CalOk Tryz.prog tabs 142 sig:=calOk_lim' tabOk ck mix Tryz.func142 (by kernel_rfl) (by kernel_rfl) (by kernel_rfl) (by kernel_rfl)
def m4 (x0:Dt43)(x1:Dt43)(x5:Int):S:=⟨[(0,.one (.lf (.val false Kt43 x0))),(1,.one (.lf (.val false Kt43 x1))),(5,.one (.lf (.val true (.int .i64) x5)))],⟨[],[]⟩⟩
def b4 (f4:Dt43→Dt43→Int→Option (Bool×Unit))(x0:Dt43)(x1:Dt43)(x5:Int):Option (Bool×Unit):=
 let v1:=(List.length x0:Int)
 let v2:=decide (x5<v1)
 bif v2 then(bif decide (0≤x5)&&decide (x5<(List.length x0:Int))then(let v3:=List.getD x0 (Int.toNat x5) (0:Int)
 bif decide (0≤x5)&&decide (x5<(List.length x1:Int))then(let v4:=List.getD x1 (Int.toNat x5) (0:Int)
 let v5:=(v3 != v4)
 bif v5 then(some (false,()))
 else(let v6:=IntKind.i64.wrap (x5+(1:Int))
 f4 x0 x1 v6))
 else none)
 else none)
 else(some (true,()))
def e (f4:Dt43→Dt43→Int→Option (Bool×Unit))(a0:Dt43)(a1:Dt43):Option (Bool×Unit):=
 let v1:=(List.length a0:Int)
 let v2:=(List.length a1:Int)
 let v3:=(v1 != v2)
 bif v3 then(some (false,()))
 else(f4 a0 a1 (0:Int))
def L4 (k:Nat)(x0:Dt43)(x1:Dt43)(x5:Int):Option (Bool×Unit):=heads (spec.env cals T Tryz.f142) (Func.pts Tryz.f142) k 4 (m4 x0 x1 x5)
theorem L4_succ (k:Nat)(x0:Dt43)(x1:Dt43)(x5:Int):L4 (k+1) x0 x1 x5=b4 (L4 k) x0 x1 x5:=by kernel_rfl
theorem eval (k:Nat)(a0:Dt43)(a1:Dt43):evalF spec cals T Tryz.f142 k (a0,a1,())=e (L4 k) a0 a1:=by kernel_rfl
theorem of (k:Nat)(a0:Dt43)(a1:Dt43){y:Bool×Unit}(h:e (L4 k) a0 a1=some y):F (a0,a1,())=some y:=limF_of k ((eval k a0 a1).trans h)
end r01_Same
namespace r03_Same
def spec:Spec:=⟨[(true,Kt47),(true,Kt47)],[(false,.bool)],.own,fun j=>match j with|_=>[]⟩
def cals:Cals:=(Cals.cons 142 r01_Same.sig (Cals.base tabs))
def sig:Sig:=spec.sig cals T Tryz.f119
def F (x:Dt47×Dt47×Unit):Option (Bool×Unit):=limF spec cals T Tryz.f119 x
theorem ck:CalsOk Tryz.prog cals:=(CalsOk.cons r01_Same.cal (CalsOk.base tabsOk))
theorem cal:CalOk Tryz.prog tabs 119 sig:=calOk_lim' tabOk ck mix Tryz.func119 (by kernel_rfl) (by kernel_rfl) (by kernel_rfl) (by kernel_rfl)
def e (a0:Dt47)(a1:Dt47):Option (Bool×Unit):=
 let v1:=(a0.1.1==a1.1.1)
 bif v1 then((r01_Same.F (a0.1.2,a1.1.2,())).bind fun y2=>
 bif y2.1 then((r01_Same.F (a0.2,a1.2,())).bind fun y3=>
 some (y3.1,()))
 else(some (false,())))
 else(some (false,()))
theorem eval (k:Nat)(a0:Dt47)(a1:Dt47):evalF spec cals T Tryz.f119 k (a0,a1,())=e a0 a1:=by kernel_rfl
theorem of (k:Nat)(a0:Dt47)(a1:Dt47){y:Bool×Unit}(h:e a0 a1=some y):F (a0,a1,())=some y:=limF_of k ((eval k a0 a1).trans h)
end r03_Same
namespace r07_SameForm
def spec:Spec:=⟨[(false,Kt40),(false,Kt40)],[(false,.bool)],.own,fun j=>match j with|4=>[(0,.lf (.z 73 Kt73 false)),(1,.lf (.z 73 Kt73 false)),(5,.lf (.v true))]|_=>[]⟩
def cals:Cals:=(Cals.cons 119 r03_Same.sig (Cals.base tabs))
def sig:Sig:=spec.sig cals T Tryz.f88
def F (x:Dt40×Dt40×Unit):Option (Bool×Unit):=limF spec cals T Tryz.f88 x
theorem ck:CalsOk Tryz.prog cals:=(CalsOk.cons r03_Same.cal (CalsOk.base tabsOk))
theorem cal:CalOk Tryz.prog tabs 88 sig:=calOk_lim' tabOk ck mix Tryz.func88 (by kernel_rfl) (by kernel_rfl) (by kernel_rfl) (by kernel_rfl)
def m4 (x0:Dt40)(x1:Dt40)(x5:Int):S:=⟨[(0,.one (.lf (.val false Kt40 x0))),(1,.one (.lf (.val false Kt40 x1))),(5,.one (.lf (.val true (.int .i64) x5)))],⟨[],[]⟩⟩
def b4 (f4:Dt40→Dt40→Int→Option (Bool×Unit))(x0:Dt40)(x1:Dt40)(x5:Int):Option (Bool×Unit):=
 let v1:=(List.length x0:Int)
 let v2:=decide (x5<v1)
 bif v2 then(bif decide (0≤x5)&&decide (x5<(List.length x0:Int))then(let v3:=(List.getD x0 (Int.toNat x5) zt73).1
 bif decide (0≤x5)&&decide (x5<(List.length x1:Int))then(let v4:=(List.getD x1 (Int.toNat x5) zt73).1
 let v5:=(v3 != v4)
 bif v5 then(some (false,()))
 else(bif decide (0≤x5)&&decide (x5<(List.length x0:Int))then(let v6:=(((List.getD x0 (Int.toNat x5) zt73).2).1).1
 let v7:=(((List.getD x0 (Int.toNat x5) zt73).2).1).2
 let v8:=((List.getD x0 (Int.toNat x5) zt73).2).2
 bif decide (0≤x5)&&decide (x5<(List.length x1:Int))then(let v9:=(((List.getD x1 (Int.toNat x5) zt73).2).1).1
 let v10:=(((List.getD x1 (Int.toNat x5) zt73).2).1).2
 let v11:=((List.getD x1 (Int.toNat x5) zt73).2).2
 (r03_Same.F (((v6,v7),v8),((v9,v10),v11),())).bind fun y12=>
 let v13:=not y12.1
 bif v13 then(some (false,()))
 else(let v14:=IntKind.i64.wrap (x5+(1:Int))
 f4 x0 x1 v14))
 else none)
 else none))
 else none)
 else none)
 else(some (true,()))
def e (f4:Dt40→Dt40→Int→Option (Bool×Unit))(a0:Dt40)(a1:Dt40):Option (Bool×Unit):=
 let v1:=(List.length a0:Int)
 let v2:=(List.length a1:Int)
 let v3:=(v1 != v2)
 bif v3 then(some (false,()))
 else(f4 a0 a1 (0:Int))
def L4 (k:Nat)(x0:Dt40)(x1:Dt40)(x5:Int):Option (Bool×Unit):=heads (spec.env cals T Tryz.f88) (Func.pts Tryz.f88) k 4 (m4 x0 x1 x5)
theorem L4_succ (k:Nat)(x0:Dt40)(x1:Dt40)(x5:Int):L4 (k+1) x0 x1 x5=b4 (L4 k) x0 x1 x5:=by kernel_rfl
theorem eval (k:Nat)(a0:Dt40)(a1:Dt40):evalF spec cals T Tryz.f88 k (a0,a1,())=e (L4 k) a0 a1:=by kernel_rfl
theorem of (k:Nat)(a0:Dt40)(a1:Dt40){y:Bool×Unit}(h:e (L4 k) a0 a1=some y):F (a0,a1,())=some y:=limF_of k ((eval k a0 a1).trans h)
end r07_SameForm
namespace r17_Alike
def spec:Spec:=⟨[(true,Kt69),(true,Kt69)],[(false,.bool)],.own,fun j=>match j with|_=>[]⟩
def cals:Cals:=(Cals.cons 119 r03_Same.sig (Cals.cons 88 r07_SameForm.sig (Cals.base tabs)))
def sig:Sig:=spec.sig cals T Tryz.f69
def F (x:Dt69×Dt69×Unit):Option (Bool×Unit):=limF spec cals T Tryz.f69 x
theorem ck:CalsOk Tryz.prog cals:=(CalsOk.cons r03_Same.cal (CalsOk.cons r07_SameForm.cal (CalsOk.base tabsOk)))
theorem cal:CalOk Tryz.prog tabs 69 sig:=calOk_lim' tabOk ck mix Tryz.func69 (by kernel_rfl) (by kernel_rfl) (by kernel_rfl) (by kernel_rfl)
def e (a0:Dt69)(a1:Dt69):Option (Bool×Unit):=
 let v1:=(a0.1.toList==a1.1.toList)
 bif v1 then(let v2:=(a0.2.2.2==a1.2.2.2)
 bif v2 then((r03_Same.F (((a0.2.2.1.1.1,a0.2.2.1.1.2),a0.2.2.1.2),((a1.2.2.1.1.1,a1.2.2.1.1.2),a1.2.2.1.2),())).bind fun y3=>
 bif y3.1 then((r07_SameForm.F (a0.2.1,a1.2.1,())).bind fun y4=>
 some (y4.1,()))
 else(some (false,())))
 else(some (false,())))
 else(some (false,()))
theorem eval (k:Nat)(a0:Dt69)(a1:Dt69):evalF spec cals T Tryz.f69 k (a0,a1,())=e a0 a1:=by kernel_rfl
theorem of (k:Nat)(a0:Dt69)(a1:Dt69){y:Bool×Unit}(h:e a0 a1=some y):F (a0,a1,())=some y:=limF_of k ((eval k a0 a1).trans h)
end r17_Alike
namespace r01_Norm
def spec:Spec:=⟨[(false,Kt43)],[(false,Kt43)],.own,fun j=>match j with|2=>[(0,.lf (.z 86 (.int .u32) false)),(3,.lf (.v true))]|6=>[(0,.lf (.z 86 (.int .u32) false)),(3,.lf (.v true)),(4,.lf (.o 86 (.int .u32) true)),(5,.lf (.v true))]|_=>[]⟩
def cals:Cals:=(Cals.base tabs)
def sig:Sig:=spec.sig cals T Tryz.f125
def F (x:Dt43×Unit):Option (Dt43×Unit):=limF spec cals T Tryz.f125 x
theorem ck:CalsOk Tryz.prog cals:=(CalsOk.base tabsOk)
theorem cal:CalOk Tryz.prog tabs 125 sig:=calOk_lim' tabOk ck mix Tryz.func125 (by kernel_rfl) (by kernel_rfl) (by kernel_rfl) (by kernel_rfl)
def m2 (x0:Dt43)(x3:Int):S:=⟨[(0,.one (.lf (.val false Kt43 x0))),(3,.one (.lf (.val true (.int .i64) x3)))],⟨[],[]⟩⟩
def m6 (x0:Dt43)(x3:Int)(x4:Dt43)(x5:Int):S:=⟨[(0,.one (.lf (.val false Kt43 x0))),(3,.one (.lf (.val true (.int .i64) x3))),(4,.one (.lf (.own 0))),(5,.one (.lf (.val true (.int .i64) x5)))],⟨[some ⟨86,(.int .u32),true,true,x4⟩],[]⟩⟩
def b2 (f2:Dt43→Int→Option (Dt43×Unit))(f6:Dt43→Int→Dt43→Int→Option (Dt43×Unit))(x0:Dt43)(x3:Int):Option (Dt43×Unit):=
 let v1:=decide (x3>(0:Int))
 bif v1 then(let v2:=IntKind.i64.wrap (x3-(1:Int))
 bif decide (0≤v2)&&decide (v2<(List.length x0:Int))then(let v3:=List.getD x0 (Int.toNat v2) (0:Int)
 let v4:=(v3==(0:Int))
 bif v4 then(let v5:=IntKind.i64.wrap (x3-(1:Int))
 f2 x0 v5)
 else(bif decide (0≤x3)&&(decide (x3≤x3)&&(decide (Int.toNat x3*4≤281474976710656)&&Nat.blt 0 4))then(let v6:=List.replicate (Int.toNat x3) (0:Int)
 f6 x0 x3 v6 (0:Int))
 else none))
 else none)
 else(bif decide (0≤x3)&&(decide (x3≤x3)&&(decide (Int.toNat x3*4≤281474976710656)&&Nat.blt 0 4))then(let v7:=List.replicate (Int.toNat x3) (0:Int)
 f6 x0 x3 v7 (0:Int))
 else none)
def b6 (f2:Dt43→Int→Option (Dt43×Unit))(f6:Dt43→Int→Dt43→Int→Option (Dt43×Unit))(x0:Dt43)(x3:Int)(x4:Dt43)(x5:Int):Option (Dt43×Unit):=
 let v1:=decide (x5<x3)
 bif v1 then(bif decide (0≤x5)&&decide (x5<(List.length x0:Int))then(let v2:=List.getD x0 (Int.toNat x5) (0:Int)
 bif decide (0≤x5)&&decide (x5<(List.length x4:Int))then(let v3:=List.set x4 (Int.toNat x5) v2
 let v4:=IntKind.i64.wrap (x5+(1:Int))
 f6 x0 x3 v3 v4)
 else none)
 else none)
 else(some (x4,()))
def e (f2:Dt43→Int→Option (Dt43×Unit))(f6:Dt43→Int→Dt43→Int→Option (Dt43×Unit))(a0:Dt43):Option (Dt43×Unit):=
 let v1:=(List.length a0:Int)
 f2 a0 v1
def L2 (k:Nat)(x0:Dt43)(x3:Int):Option (Dt43×Unit):=heads (spec.env cals T Tryz.f125) (Func.pts Tryz.f125) k 2 (m2 x0 x3)
def L6 (k:Nat)(x0:Dt43)(x3:Int)(x4:Dt43)(x5:Int):Option (Dt43×Unit):=heads (spec.env cals T Tryz.f125) (Func.pts Tryz.f125) k 6 (m6 x0 x3 x4 x5)
theorem L2_succ (k:Nat)(x0:Dt43)(x3:Int):L2 (k+1) x0 x3=b2 (L2 k) (L6 k) x0 x3:=by kernel_rfl
theorem L6_succ (k:Nat)(x0:Dt43)(x3:Int)(x4:Dt43)(x5:Int):L6 (k+1) x0 x3 x4 x5=b6 (L2 k) (L6 k) x0 x3 x4 x5:=by kernel_rfl
theorem eval (k:Nat)(a0:Dt43):evalF spec cals T Tryz.f125 k (a0,())=e (L2 k) (L6 k) a0:=by kernel_rfl
theorem of (k:Nat)(a0:Dt43){y:Dt43×Unit}(h:e (L2 k) (L6 k) a0=some y):F (a0,())=some y:=limF_of k ((eval k a0).trans h)
end r01_Norm
namespace r01_at
def spec:Spec:=⟨[(false,Kt43),(false,(.int .i64))],[(false,(.int .u64))],.own,fun j=>match j with|_=>[]⟩
def cals:Cals:=(Cals.base tabs)
def sig:Sig:=spec.sig cals T Tryz.f163
def F (x:Dt43×Int×Unit):Option (Int×Unit):=limF spec cals T Tryz.f163 x
theorem ck:CalsOk Tryz.prog cals:=(CalsOk.base tabsOk)
theorem cal:CalOk Tryz.prog tabs 163 sig:=calOk_lim' tabOk ck mix Tryz.func163 (by kernel_rfl) (by kernel_rfl) (by kernel_rfl) (by kernel_rfl)
def e (a0:Dt43)(a1:Int):Option (Int×Unit):=
 let v1:=(List.length a0:Int)
 let v2:=decide (a1≥v1)
 bif v2 then(some ((0:Int),()))
 else(bif decide (0≤a1)&&decide (a1<(List.length a0:Int))then(let v3:=List.getD a0 (Int.toNat a1) (0:Int)
 let v4:=IntKind.u64.wrap v3
 some (v4,()))
 else none)
theorem eval (k:Nat)(a0:Dt43)(a1:Int):evalF spec cals T Tryz.f163 k (a0,a1,())=e a0 a1:=by kernel_rfl
theorem of (k:Nat)(a0:Dt43)(a1:Int){y:Int×Unit}(h:e a0 a1=some y):F (a0,a1,())=some y:=limF_of k ((eval k a0 a1).trans h)
end r01_at
namespace r01_Cmp
def spec:Spec:=⟨[(false,Kt43),(false,Kt43)],[(false,(.int .i64))],.own,fun j=>match j with|5=>[(0,.lf (.z 86 (.int .u32) false)),(1,.lf (.z 86 (.int .u32) false)),(6,.lf (.v true))]|_=>[]⟩
def cals:Cals:=(Cals.cons 163 r01_at.sig (Cals.base tabs))
def sig:Sig:=spec.sig cals T Tryz.f134
def F (x:Dt43×Dt43×Unit):Option (Int×Unit):=limF spec cals T Tryz.f134 x
theorem ck:CalsOk Tryz.prog cals:=(CalsOk.cons r01_at.cal (CalsOk.base tabsOk))
theorem cal:CalOk Tryz.prog tabs 134 sig:=calOk_lim' tabOk ck mix Tryz.func134 (by kernel_rfl) (by kernel_rfl) (by kernel_rfl) (by kernel_rfl)
def m5 (x0:Dt43)(x1:Dt43)(x6:Int):S:=⟨[(0,.one (.lf (.val false Kt43 x0))),(1,.one (.lf (.val false Kt43 x1))),(6,.one (.lf (.val true (.int .i64) x6)))],⟨[],[]⟩⟩
def b5 (f5:Dt43→Dt43→Int→Option (Int×Unit))(x0:Dt43)(x1:Dt43)(x6:Int):Option (Int×Unit):=
 let v1:=decide (x6≥(0:Int))
 bif v1 then((r01_at.F (x0,x6,())).bind fun y2=>
 (r01_at.F (x1,x6,())).bind fun y3=>
 let v4:=decide (y2.1<y3.1)
 bif v4 then(some ((-1:Int),()))
 else((r01_at.F (x0,x6,())).bind fun y5=>
 (r01_at.F (x1,x6,())).bind fun y6=>
 let v7:=decide (y5.1>y6.1)
 bif v7 then(some ((1:Int),()))
 else(let v8:=IntKind.i64.wrap (x6-(1:Int))
 f5 x0 x1 v8)))
 else(some ((0:Int),()))
def e (f5:Dt43→Dt43→Int→Option (Int×Unit))(a0:Dt43)(a1:Dt43):Option (Int×Unit):=
 let v1:=(List.length a0:Int)
 let v2:=(List.length a1:Int)
 let v3:=decide (v2>v1)
 bif v3 then(let v4:=(List.length a1:Int)
 let v5:=IntKind.i64.wrap (v4-(1:Int))
 f5 a0 a1 v5)
 else(let v6:=IntKind.i64.wrap (v1-(1:Int))
 f5 a0 a1 v6)
def L5 (k:Nat)(x0:Dt43)(x1:Dt43)(x6:Int):Option (Int×Unit):=heads (spec.env cals T Tryz.f134) (Func.pts Tryz.f134) k 5 (m5 x0 x1 x6)
theorem L5_succ (k:Nat)(x0:Dt43)(x1:Dt43)(x6:Int):L5 (k+1) x0 x1 x6=b5 (L5 k) x0 x1 x6:=by kernel_rfl
theorem eval (k:Nat)(a0:Dt43)(a1:Dt43):evalF spec cals T Tryz.f134 k (a0,a1,())=e (L5 k) a0 a1:=by kernel_rfl
theorem of (k:Nat)(a0:Dt43)(a1:Dt43){y:Int×Unit}(h:e (L5 k) a0 a1=some y):F (a0,a1,())=some y:=limF_of k ((eval k a0 a1).trans h)
end r01_Cmp
namespace r01_Sub
def spec:Spec:=⟨[(false,Kt43),(false,Kt43)],[(false,Kt43),(false,(.int .i64))],.own,fun j=>match j with|6=>[(0,.lf (.z 86 (.int .u32) false)),(1,.lf (.z 86 (.int .u32) false)),(6,.lf (.o 86 (.int .u32) true)),(7,.lf (.v true)),(8,.lf (.v true))]|_=>[]⟩
def cals:Cals:=(Cals.cons 134 r01_Cmp.sig (Cals.cons 163 r01_at.sig (Cals.cons 125 r01_Norm.sig (Cals.base tabs))))
def sig:Sig:=spec.sig cals T Tryz.f135
def F (x:Dt43×Dt43×Unit):Option (Dt43×Int×Unit):=limF spec cals T Tryz.f135 x
theorem ck:CalsOk Tryz.prog cals:=(CalsOk.cons r01_Cmp.cal (CalsOk.cons r01_at.cal (CalsOk.cons r01_Norm.cal (CalsOk.base tabsOk))))
theorem cal:CalOk Tryz.prog tabs 135 sig:=calOk_lim' tabOk ck mix Tryz.func135 (by kernel_rfl) (by kernel_rfl) (by kernel_rfl) (by kernel_rfl)
def m6 (x0:Dt43)(x1:Dt43)(x6:Dt43)(x7:Int)(x8:Int):S:=⟨[(0,.one (.lf (.val false Kt43 x0))),(1,.one (.lf (.val false Kt43 x1))),(6,.one (.lf (.own 0))),(7,.one (.lf (.val true (.int .u64) x7))),(8,.one (.lf (.val true (.int .i64) x8)))],⟨[some ⟨86,(.int .u32),true,true,x6⟩],[]⟩⟩
def b6 (f6:Dt43→Dt43→Dt43→Int→Int→Option (Dt43×Int×Unit))(x0:Dt43)(x1:Dt43)(x6:Dt43)(x7:Int)(x8:Int):Option (Dt43×Int×Unit):=
 let v1:=(List.length x0:Int)
 let v2:=decide (x8<v1)
 bif v2 then((r01_at.F (x0,x8,())).bind fun y3=>
 (r01_at.F (x1,x8,())).bind fun y4=>
 let v5:=IntKind.u64.wrap (y3.1-y4.1)
 let v6:=IntKind.u64.wrap (v5-x7)
 let v7:=IntKind.u32.wrap v6
 bif decide (0≤x8)&&decide (x8<(List.length x6:Int))then(let v8:=List.set x6 (Int.toNat x8) v7
 bif decide ((63:Int)<0)then none
 else(let v9:=shrI .u64 v6 (63:Int)
 let v10:=IntKind.i64.wrap (x8+(1:Int))
 f6 x0 x1 v8 v9 v10))
 else none)
 else((r01_Norm.F (x6,())).bind fun y11=>
 some (y11.1,(0:Int),()))
def e (f6:Dt43→Dt43→Dt43→Int→Int→Option (Dt43×Int×Unit))(a0:Dt43)(a1:Dt43):Option (Dt43×Int×Unit):=
 (r01_Cmp.F (a0,a1,())).bind fun y1=>
 let v2:=decide (y1.1<(0:Int))
 bif v2 then(some (zt43,(10:Int),()))
 else(let v3:=(List.length a0:Int)
 bif decide (0≤v3)&&(decide (v3≤v3)&&(decide (Int.toNat v3*4≤281474976710656)&&Nat.blt 0 4))then(let v4:=List.replicate (Int.toNat v3) (0:Int)
 f6 a0 a1 v4 (0:Int) (0:Int))
 else none)
def L6 (k:Nat)(x0:Dt43)(x1:Dt43)(x6:Dt43)(x7:Int)(x8:Int):Option (Dt43×Int×Unit):=heads (spec.env cals T Tryz.f135) (Func.pts Tryz.f135) k 6 (m6 x0 x1 x6 x7 x8)
theorem L6_succ (k:Nat)(x0:Dt43)(x1:Dt43)(x6:Dt43)(x7:Int)(x8:Int):L6 (k+1) x0 x1 x6 x7 x8=b6 (L6 k) x0 x1 x6 x7 x8:=by kernel_rfl
theorem eval (k:Nat)(a0:Dt43)(a1:Dt43):evalF spec cals T Tryz.f135 k (a0,a1,())=e (L6 k) a0 a1:=by kernel_rfl
theorem of (k:Nat)(a0:Dt43)(a1:Dt43){y:Dt43×Int×Unit}(h:e (L6 k) a0 a1=some y):F (a0,a1,())=some y:=limF_of k ((eval k a0 a1).trans h)
end r01_Sub
namespace r01_Bit
def spec:Spec:=⟨[(false,Kt43),(false,(.int .i64))],[(false,.bool)],.own,fun j=>match j with|_=>[]⟩
def cals:Cals:=(Cals.base tabs)
def sig:Sig:=spec.sig cals T Tryz.f158
def F (x:Dt43×Int×Unit):Option (Bool×Unit):=limF spec cals T Tryz.f158 x
theorem ck:CalsOk Tryz.prog cals:=(CalsOk.base tabsOk)
theorem cal:CalOk Tryz.prog tabs 158 sig:=calOk_lim' tabOk ck mix Tryz.func158 (by kernel_rfl) (by kernel_rfl) (by kernel_rfl) (by kernel_rfl)
def e (a0:Dt43)(a1:Int):Option (Bool×Unit):=
 let v1:=decide (a1≥(0:Int))
 bif v1 then(bif decide ((32:Int)=0)then none
 else(let v2:=IntKind.i64.wrap (Int.tdiv a1 (32:Int))
 let v3:=(List.length a0:Int)
 let v4:=decide (v2<v3)
 bif v4 then(bif decide ((32:Int)=0)then none
 else(let v5:=IntKind.i64.wrap (Int.tdiv a1 (32:Int))
 bif decide (0≤v5)&&decide (v5<(List.length a0:Int))then(let v6:=List.getD a0 (Int.toNat v5) (0:Int)
 bif decide ((32:Int)=0)then none
 else(let v7:=Int.tmod a1 (32:Int)
 let v8:=IntKind.u64.wrap v7
 bif decide (v8<0)then none
 else(let v9:=shrI .u32 v6 v8
 let v10:=bitsOp .and .u32 v9 (1:Int)
 let v11:=(v10==(1:Int))
 some (v11,()))))
 else none))
 else(some (false,()))))
 else(some (false,()))
theorem eval (k:Nat)(a0:Dt43)(a1:Int):evalF spec cals T Tryz.f158 k (a0,a1,())=e a0 a1:=by kernel_rfl
theorem of (k:Nat)(a0:Dt43)(a1:Int){y:Bool×Unit}(h:e a0 a1=some y):F (a0,a1,())=some y:=limF_of k ((eval k a0 a1).trans h)
end r01_Bit
namespace r01_Shift
def spec:Spec:=⟨[(false,Kt43),(false,(.int .i64))],[(false,Kt43),(false,(.int .i64))],.own,fun j=>match j with|15=>[(0,.lf (.z 86 (.int .u32) false)),(6,.lf (.v true)),(7,.lf (.o 86 (.int .u32) true)),(8,.lf (.v true)),(9,.lf (.v true)),(10,.lf (.v true))]|_=>[]⟩
def cals:Cals:=(Cals.cons 125 r01_Norm.sig (Cals.base tabs))
def sig:Sig:=spec.sig cals T Tryz.f159
def F (x:Dt43×Int×Unit):Option (Dt43×Int×Unit):=limF spec cals T Tryz.f159 x
theorem ck:CalsOk Tryz.prog cals:=(CalsOk.cons r01_Norm.cal (CalsOk.base tabsOk))
theorem cal:CalOk Tryz.prog tabs 159 sig:=calOk_lim' tabOk ck mix Tryz.func159 (by kernel_rfl) (by kernel_rfl) (by kernel_rfl) (by kernel_rfl)
def m15 (x0:Dt43)(x6:Int)(x7:Dt43)(x8:Int)(x9:Int)(x10:Int):S:=⟨[(0,.one (.lf (.val false Kt43 x0))),(6,.one (.lf (.val true (.int .i64) x6))),(7,.one (.lf (.own 0))),(8,.one (.lf (.val true (.int .i64) x8))),(9,.one (.lf (.val true (.int .i64) x9))),(10,.one (.lf (.val true (.int .i64) x10)))],⟨[some ⟨86,(.int .u32),true,true,x7⟩],[]⟩⟩
def b15 (f15:Dt43→Int→Dt43→Int→Int→Int→Option (Dt43×Int×Unit))(x0:Dt43)(x6:Int)(x7:Dt43)(x8:Int)(x9:Int)(x10:Int):Option (Dt43×Int×Unit):=
 let v1:=(List.length x0:Int)
 let v2:=decide (x10<v1)
 bif v2 then(bif decide (0≤x10)&&decide (x10<(List.length x0:Int))then(let v3:=List.getD x0 (Int.toNat x10) (0:Int)
 let v4:=IntKind.u64.wrap v3
 let v5:=IntKind.u64.wrap x9
 bif decide (v5<0)then none
 else(let v6:=shlI .u64 v4 v5
 let v7:=IntKind.i64.wrap (x10+x8)
 let v8:=decide (v7≥(0:Int))
 bif v8 then(let v9:=IntKind.i64.wrap (x10+x8)
 let v10:=decide (v9<x6)
 bif v10 then(let v11:=IntKind.i64.wrap (x10+x8)
 bif decide (0≤v11)&&decide (v11<(List.length x7:Int))then(let v12:=List.getD x7 (Int.toNat v11) (0:Int)
 let v13:=IntKind.u32.wrap v6
 let v14:=bitsOp .or .u32 v12 v13
 bif decide (0≤v11)&&decide (v11<(List.length x7:Int))then(let v15:=List.set x7 (Int.toNat v11) v14
 let v16:=IntKind.i64.wrap (x10+x8)
 let v17:=IntKind.i64.wrap (v16+(1:Int))
 let v18:=decide (v17≥(0:Int))
 bif v18 then(let v19:=IntKind.i64.wrap (x10+x8)
 let v20:=IntKind.i64.wrap (v19+(1:Int))
 let v21:=decide (v20<x6)
 bif v21 then(let v22:=IntKind.i64.wrap (x10+x8)
 let v23:=IntKind.i64.wrap (v22+(1:Int))
 bif decide (0≤v23)&&decide (v23<(List.length v15:Int))then(let v24:=List.getD v15 (Int.toNat v23) (0:Int)
 bif decide ((32:Int)<0)then none
 else(let v25:=shrI .u64 v6 (32:Int)
 let v26:=IntKind.u32.wrap v25
 let v27:=bitsOp .or .u32 v24 v26
 bif decide (0≤v23)&&decide (v23<(List.length v15:Int))then(let v28:=List.set v15 (Int.toNat v23) v27
 let v29:=IntKind.i64.wrap (x10+(1:Int))
 f15 x0 x6 v28 x8 x9 v29)
 else none))
 else none)
 else(let v30:=IntKind.i64.wrap (x10+(1:Int))
 f15 x0 x6 v15 x8 x9 v30))
 else(let v31:=IntKind.i64.wrap (x10+(1:Int))
 f15 x0 x6 v15 x8 x9 v31))
 else none)
 else none)
 else(let v32:=IntKind.i64.wrap (x10+x8)
 let v33:=IntKind.i64.wrap (v32+(1:Int))
 let v34:=decide (v33≥(0:Int))
 bif v34 then(let v35:=IntKind.i64.wrap (x10+x8)
 let v36:=IntKind.i64.wrap (v35+(1:Int))
 let v37:=decide (v36<x6)
 bif v37 then(let v38:=IntKind.i64.wrap (x10+x8)
 let v39:=IntKind.i64.wrap (v38+(1:Int))
 bif decide (0≤v39)&&decide (v39<(List.length x7:Int))then(let v40:=List.getD x7 (Int.toNat v39) (0:Int)
 bif decide ((32:Int)<0)then none
 else(let v41:=shrI .u64 v6 (32:Int)
 let v42:=IntKind.u32.wrap v41
 let v43:=bitsOp .or .u32 v40 v42
 bif decide (0≤v39)&&decide (v39<(List.length x7:Int))then(let v44:=List.set x7 (Int.toNat v39) v43
 let v45:=IntKind.i64.wrap (x10+(1:Int))
 f15 x0 x6 v44 x8 x9 v45)
 else none))
 else none)
 else(let v46:=IntKind.i64.wrap (x10+(1:Int))
 f15 x0 x6 x7 x8 x9 v46))
 else(let v47:=IntKind.i64.wrap (x10+(1:Int))
 f15 x0 x6 x7 x8 x9 v47)))
 else(let v48:=IntKind.i64.wrap (x10+x8)
 let v49:=IntKind.i64.wrap (v48+(1:Int))
 let v50:=decide (v49≥(0:Int))
 bif v50 then(let v51:=IntKind.i64.wrap (x10+x8)
 let v52:=IntKind.i64.wrap (v51+(1:Int))
 let v53:=decide (v52<x6)
 bif v53 then(let v54:=IntKind.i64.wrap (x10+x8)
 let v55:=IntKind.i64.wrap (v54+(1:Int))
 bif decide (0≤v55)&&decide (v55<(List.length x7:Int))then(let v56:=List.getD x7 (Int.toNat v55) (0:Int)
 bif decide ((32:Int)<0)then none
 else(let v57:=shrI .u64 v6 (32:Int)
 let v58:=IntKind.u32.wrap v57
 let v59:=bitsOp .or .u32 v56 v58
 bif decide (0≤v55)&&decide (v55<(List.length x7:Int))then(let v60:=List.set x7 (Int.toNat v55) v59
 let v61:=IntKind.i64.wrap (x10+(1:Int))
 f15 x0 x6 v60 x8 x9 v61)
 else none))
 else none)
 else(let v62:=IntKind.i64.wrap (x10+(1:Int))
 f15 x0 x6 x7 x8 x9 v62))
 else(let v63:=IntKind.i64.wrap (x10+(1:Int))
 f15 x0 x6 x7 x8 x9 v63))))
 else none)
 else((r01_Norm.F (x7,())).bind fun y64=>
 some (y64.1,(0:Int),()))
def e (f15:Dt43→Int→Dt43→Int→Int→Int→Option (Dt43×Int×Unit))(a0:Dt43)(a1:Int):Option (Dt43×Int×Unit):=
 let v1:=decide (a1<(-1048576:Int))
 bif v1 then(some (zt43,(12:Int),()))
 else(let v2:=decide (a1>(1048576:Int))
 bif v2 then(some (zt43,(12:Int),()))
 else((r01_Norm.F (a0,())).bind fun y3=>
 let v4:=(List.length y3.1:Int)
 let v5:=(v4==(0:Int))
 bif v5 then(let v6:=zt43
 some (v6,(0:Int),()))
 else(let v7:=(List.length a0:Int)
 let v8:=decide (a1>(0:Int))
 bif v8 then(bif decide ((32:Int)=0)then none
 else(let v9:=IntKind.i64.wrap (Int.tdiv a1 (32:Int))
 let v10:=IntKind.i64.wrap (v9+(1:Int))
 let v11:=IntKind.i64.wrap (v7+v10)
 bif decide (0≤v11)&&(decide (v11≤v11)&&(decide (Int.toNat v11*4≤281474976710656)&&Nat.blt 0 4))then(let v12:=List.replicate (Int.toNat v11) (0:Int)
 bif decide ((32:Int)=0)then none
 else(let v13:=IntKind.i64.wrap (Int.tdiv a1 (32:Int))
 bif decide ((32:Int)=0)then none
 else(let v14:=Int.tmod a1 (32:Int)
 let v15:=decide (v14<(0:Int))
 bif v15 then(let v16:=IntKind.i64.wrap (v13-(1:Int))
 let v17:=IntKind.i64.wrap (v14+(32:Int))
 f15 a0 v11 v12 v16 v17 (0:Int))
 else(f15 a0 v11 v12 v13 v14 (0:Int)))))
 else none))
 else(bif decide (0≤v7)&&(decide (v7≤v7)&&(decide (Int.toNat v7*4≤281474976710656)&&Nat.blt 0 4))then(let v18:=List.replicate (Int.toNat v7) (0:Int)
 bif decide ((32:Int)=0)then none
 else(let v19:=IntKind.i64.wrap (Int.tdiv a1 (32:Int))
 bif decide ((32:Int)=0)then none
 else(let v20:=Int.tmod a1 (32:Int)
 let v21:=decide (v20<(0:Int))
 bif v21 then(let v22:=IntKind.i64.wrap (v19-(1:Int))
 let v23:=IntKind.i64.wrap (v20+(32:Int))
 f15 a0 v7 v18 v22 v23 (0:Int))
 else(f15 a0 v7 v18 v19 v20 (0:Int)))))
 else none))))
def L15 (k:Nat)(x0:Dt43)(x6:Int)(x7:Dt43)(x8:Int)(x9:Int)(x10:Int):Option (Dt43×Int×Unit):=heads (spec.env cals T Tryz.f159) (Func.pts Tryz.f159) k 15 (m15 x0 x6 x7 x8 x9 x10)
theorem L15_succ (k:Nat)(x0:Dt43)(x6:Int)(x7:Dt43)(x8:Int)(x9:Int)(x10:Int):L15 (k+1) x0 x6 x7 x8 x9 x10=b15 (L15 k) x0 x6 x7 x8 x9 x10:=by kernel_rfl
theorem eval (k:Nat)(a0:Dt43)(a1:Int):evalF spec cals T Tryz.f159 k (a0,a1,())=e (L15 k) a0 a1:=by kernel_rfl
theorem of (k:Nat)(a0:Dt43)(a1:Int){y:Dt43×Int×Unit}(h:e (L15 k) a0 a1=some y):F (a0,a1,())=some y:=limF_of k ((eval k a0 a1).trans h)
end r01_Shift
namespace r01_twice
def spec:Spec:=⟨[(false,Kt43),(false,.bool)],[(false,Kt43)],.own,fun j=>match j with|6=>[(0,.lf (.z 86 (.int .u32) false)),(5,.lf (.o 86 (.int .u32) true)),(6,.lf (.v true)),(7,.lf (.v true))]|_=>[]⟩
def cals:Cals:=(Cals.cons 125 r01_Norm.sig (Cals.base tabs))
def sig:Sig:=spec.sig cals T Tryz.f160
def F (x:Dt43×Bool×Unit):Option (Dt43×Unit):=limF spec cals T Tryz.f160 x
theorem ck:CalsOk Tryz.prog cals:=(CalsOk.cons r01_Norm.cal (CalsOk.base tabsOk))
theorem cal:CalOk Tryz.prog tabs 160 sig:=calOk_lim' tabOk ck mix Tryz.func160 (by kernel_rfl) (by kernel_rfl) (by kernel_rfl) (by kernel_rfl)
def m6 (x0:Dt43)(x5:Dt43)(x6:Int)(x7:Int):S:=⟨[(0,.one (.lf (.val false Kt43 x0))),(5,.one (.lf (.own 0))),(6,.one (.lf (.val true (.int .u32) x6))),(7,.one (.lf (.val true (.int .i64) x7)))],⟨[some ⟨86,(.int .u32),true,true,x5⟩],[]⟩⟩
def b6 (f6:Dt43→Dt43→Int→Int→Option (Dt43×Unit))(x0:Dt43)(x5:Dt43)(x6:Int)(x7:Int):Option (Dt43×Unit):=
 let v1:=(List.length x0:Int)
 let v2:=decide (x7<v1)
 bif v2 then(bif decide (0≤x7)&&decide (x7<(List.length x0:Int))then(let v3:=List.getD x0 (Int.toNat x7) (0:Int)
 bif decide ((1:Int)<0)then none
 else(let v4:=shlI .u32 v3 (1:Int)
 let v5:=bitsOp .or .u32 v4 x6
 bif decide (0≤x7)&&decide (x7<(List.length x5:Int))then(let v6:=List.set x5 (Int.toNat x7) v5
 bif decide (0≤x7)&&decide (x7<(List.length x0:Int))then(let v7:=List.getD x0 (Int.toNat x7) (0:Int)
 bif decide ((31:Int)<0)then none
 else(let v8:=shrI .u32 v7 (31:Int)
 let v9:=IntKind.i64.wrap (x7+(1:Int))
 f6 x0 v6 v8 v9))
 else none)
 else none))
 else none)
 else(let v10:=(List.length x0:Int)
 bif decide (0≤v10)&&decide (v10<(List.length x5:Int))then(let v11:=List.set x5 (Int.toNat v10) x6
 (r01_Norm.F (v11,())).bind fun y12=>
 some (y12.1,()))
 else none)
def e (f6:Dt43→Dt43→Int→Int→Option (Dt43×Unit))(a0:Dt43)(a1:Bool):Option (Dt43×Unit):=
 let v1:=(List.length a0:Int)
 let v2:=IntKind.i64.wrap (v1+(1:Int))
 bif decide (0≤v2)&&(decide (v2≤v2)&&(decide (Int.toNat v2*4≤281474976710656)&&Nat.blt 0 4))then(let v3:=List.replicate (Int.toNat v2) (0:Int)
 bif a1 then(f6 a0 v3 (1:Int) (0:Int))
 else(f6 a0 v3 (0:Int) (0:Int)))
 else none
def L6 (k:Nat)(x0:Dt43)(x5:Dt43)(x6:Int)(x7:Int):Option (Dt43×Unit):=heads (spec.env cals T Tryz.f160) (Func.pts Tryz.f160) k 6 (m6 x0 x5 x6 x7)
theorem L6_succ (k:Nat)(x0:Dt43)(x5:Dt43)(x6:Int)(x7:Int):L6 (k+1) x0 x5 x6 x7=b6 (L6 k) x0 x5 x6 x7:=by kernel_rfl
theorem eval (k:Nat)(a0:Dt43)(a1:Bool):evalF spec cals T Tryz.f160 k (a0,a1,())=e (L6 k) a0 a1:=by kernel_rfl
theorem of (k:Nat)(a0:Dt43)(a1:Bool){y:Dt43×Unit}(h:e (L6 k) a0 a1=some y):F (a0,a1,())=some y:=limF_of k ((eval k a0 a1).trans h)
end r01_twice
namespace r01_Gcd
def spec:Spec:=⟨[(false,Kt43),(false,Kt43)],[(false,Kt43)],.own,fun j=>match j with|11=>[(0,.lf (.o 86 (.int .u32) true)),(1,.lf (.o 86 (.int .u32) true)),(6,.lf (.v true))]|15=>[(0,.lf (.o 86 (.int .u32) true)),(1,.lf (.o 86 (.int .u32) true)),(6,.lf (.v true))]|16=>[(0,.lf (.o 86 (.int .u32) true)),(1,.lf (.o 86 (.int .u32) true)),(6,.lf (.v true))]|18=>[(0,.lf (.o 86 (.int .u32) true)),(1,.lf (.o 86 (.int .u32) true)),(6,.lf (.v true))]|24=>[(0,.lf (.o 86 (.int .u32) true)),(6,.lf (.v true)),(7,.lf (.v true))]|_=>[]⟩
def cals:Cals:=(Cals.cons 125 r01_Norm.sig (Cals.cons 134 r01_Cmp.sig (Cals.cons 158 r01_Bit.sig (Cals.cons 159 r01_Shift.sig (Cals.cons 135 r01_Sub.sig (Cals.cons 160 r01_twice.sig (Cals.base tabs)))))))
def sig:Sig:=spec.sig cals T Tryz.f122
def F (x:Dt43×Dt43×Unit):Option (Dt43×Unit):=limF spec cals T Tryz.f122 x
theorem ck:CalsOk Tryz.prog cals:=(CalsOk.cons r01_Norm.cal (CalsOk.cons r01_Cmp.cal (CalsOk.cons r01_Bit.cal (CalsOk.cons r01_Shift.cal (CalsOk.cons r01_Sub.cal (CalsOk.cons r01_twice.cal (CalsOk.base tabsOk)))))))
theorem cal:CalOk Tryz.prog tabs 122 sig:=calOk_lim' tabOk ck mix Tryz.func122 (by kernel_rfl) (by kernel_rfl) (by kernel_rfl) (by kernel_rfl)
def m11 (x0:Dt43)(x1:Dt43)(x6:Int):S:=⟨[(0,.one (.lf (.own 0))),(1,.one (.lf (.own 1))),(6,.one (.lf (.val true (.int .i64) x6)))],⟨[some ⟨86,(.int .u32),true,true,x0⟩,some ⟨86,(.int .u32),true,true,x1⟩],[]⟩⟩
def m15 (x0:Dt43)(x1:Dt43)(x6:Int):S:=⟨[(0,.one (.lf (.own 0))),(1,.one (.lf (.own 1))),(6,.one (.lf (.val true (.int .i64) x6)))],⟨[some ⟨86,(.int .u32),true,true,x0⟩,some ⟨86,(.int .u32),true,true,x1⟩],[]⟩⟩
def m16 (x0:Dt43)(x1:Dt43)(x6:Int):S:=⟨[(0,.one (.lf (.own 0))),(1,.one (.lf (.own 1))),(6,.one (.lf (.val true (.int .i64) x6)))],⟨[some ⟨86,(.int .u32),true,true,x0⟩,some ⟨86,(.int .u32),true,true,x1⟩],[]⟩⟩
def m18 (x0:Dt43)(x1:Dt43)(x6:Int):S:=⟨[(0,.one (.lf (.own 0))),(1,.one (.lf (.own 1))),(6,.one (.lf (.val true (.int .i64) x6)))],⟨[some ⟨86,(.int .u32),true,true,x0⟩,some ⟨86,(.int .u32),true,true,x1⟩],[]⟩⟩
def m24 (x0:Dt43)(x6:Int)(x7:Int):S:=⟨[(0,.one (.lf (.own 0))),(6,.one (.lf (.val true (.int .i64) x6))),(7,.one (.lf (.val true (.int .i64) x7)))],⟨[some ⟨86,(.int .u32),true,true,x0⟩],[]⟩⟩
def b11 (f11:Dt43→Dt43→Int→Option (Dt43×Unit))(f15:Dt43→Dt43→Int→Option (Dt43×Unit))(f16:Dt43→Dt43→Int→Option (Dt43×Unit))(f18:Dt43→Dt43→Int→Option (Dt43×Unit))(f24:Dt43→Int→Int→Option (Dt43×Unit))(x0:Dt43)(x1:Dt43)(x6:Int):Option (Dt43×Unit):=
 (r01_Bit.F (x0,(0:Int),())).bind fun y1=>
 let v2:=not y1.1
 bif v2 then((r01_Bit.F (x1,(0:Int),())).bind fun y3=>
 let v4:=not y3.1
 bif v4 then((r01_Shift.F (x0,(-1:Int),())).bind fun y5=>
 (r01_Shift.F (x1,(-1:Int),())).bind fun y6=>
 let v7:=IntKind.i64.wrap (x6+(1:Int))
 f11 y5.1 y6.1 v7)
 else(f15 x0 x1 x6))
 else(f15 x0 x1 x6)
def b15 (f11:Dt43→Dt43→Int→Option (Dt43×Unit))(f15:Dt43→Dt43→Int→Option (Dt43×Unit))(f16:Dt43→Dt43→Int→Option (Dt43×Unit))(f18:Dt43→Dt43→Int→Option (Dt43×Unit))(f24:Dt43→Int→Int→Option (Dt43×Unit))(x0:Dt43)(x1:Dt43)(x6:Int):Option (Dt43×Unit):=
 let v1:=(List.length x1:Int)
 let v2:=decide (v1>(0:Int))
 bif v2 then(f16 x0 x1 x6)
 else(f24 x0 x6 (0:Int))
def b16 (f11:Dt43→Dt43→Int→Option (Dt43×Unit))(f15:Dt43→Dt43→Int→Option (Dt43×Unit))(f16:Dt43→Dt43→Int→Option (Dt43×Unit))(f18:Dt43→Dt43→Int→Option (Dt43×Unit))(f24:Dt43→Int→Int→Option (Dt43×Unit))(x0:Dt43)(x1:Dt43)(x6:Int):Option (Dt43×Unit):=
 (r01_Bit.F (x0,(0:Int),())).bind fun y1=>
 let v2:=not y1.1
 bif v2 then((r01_Shift.F (x0,(-1:Int),())).bind fun y3=>
 f16 y3.1 x1 x6)
 else(f18 x0 x1 x6)
def b18 (f11:Dt43→Dt43→Int→Option (Dt43×Unit))(f15:Dt43→Dt43→Int→Option (Dt43×Unit))(f16:Dt43→Dt43→Int→Option (Dt43×Unit))(f18:Dt43→Dt43→Int→Option (Dt43×Unit))(f24:Dt43→Int→Int→Option (Dt43×Unit))(x0:Dt43)(x1:Dt43)(x6:Int):Option (Dt43×Unit):=
 (r01_Bit.F (x1,(0:Int),())).bind fun y1=>
 let v2:=not y1.1
 bif v2 then((r01_Shift.F (x1,(-1:Int),())).bind fun y3=>
 f18 x0 y3.1 x6)
 else((r01_Cmp.F (x0,x1,())).bind fun y4=>
 let v5:=decide (y4.1>(0:Int))
 bif v5 then((r01_Sub.F (x0,x1,())).bind fun y6=>
 f15 x1 y6.1 x6)
 else((r01_Sub.F (x1,x0,())).bind fun y7=>
 f15 x0 y7.1 x6))
def b24 (f11:Dt43→Dt43→Int→Option (Dt43×Unit))(f15:Dt43→Dt43→Int→Option (Dt43×Unit))(f16:Dt43→Dt43→Int→Option (Dt43×Unit))(f18:Dt43→Dt43→Int→Option (Dt43×Unit))(f24:Dt43→Int→Int→Option (Dt43×Unit))(x0:Dt43)(x6:Int)(x7:Int):Option (Dt43×Unit):=
 let v1:=decide (x7<x6)
 bif v1 then((r01_twice.F (x0,false,())).bind fun y2=>
 let v3:=IntKind.i64.wrap (x7+(1:Int))
 f24 y2.1 x6 v3)
 else(some (x0,()))
def e (f11:Dt43→Dt43→Int→Option (Dt43×Unit))(f15:Dt43→Dt43→Int→Option (Dt43×Unit))(f16:Dt43→Dt43→Int→Option (Dt43×Unit))(f18:Dt43→Dt43→Int→Option (Dt43×Unit))(f24:Dt43→Int→Int→Option (Dt43×Unit))(a0:Dt43)(a1:Dt43):Option (Dt43×Unit):=
 (r01_Norm.F (a0,())).bind fun y1=>
 (r01_Norm.F (a1,())).bind fun y2=>
 let v3:=(List.length y1.1:Int)
 let v4:=(v3==(0:Int))
 bif v4 then(some (y2.1,()))
 else(let v5:=(List.length y2.1:Int)
 let v6:=(v5==(0:Int))
 bif v6 then(some (y1.1,()))
 else(let v7:=([(1:Int)]:List Int)
 (r01_Cmp.F (y1.1,v7,())).bind fun y8=>
 let v9:=(y8.1==(0:Int))
 bif v9 then(some (v7,()))
 else((r01_Cmp.F (y2.1,v7,())).bind fun y10=>
 let v11:=(y10.1==(0:Int))
 bif v11 then(some (v7,()))
 else(f11 y1.1 y2.1 (0:Int)))))
def L11 (k:Nat)(x0:Dt43)(x1:Dt43)(x6:Int):Option (Dt43×Unit):=heads (spec.env cals T Tryz.f122) (Func.pts Tryz.f122) k 11 (m11 x0 x1 x6)
def L15 (k:Nat)(x0:Dt43)(x1:Dt43)(x6:Int):Option (Dt43×Unit):=heads (spec.env cals T Tryz.f122) (Func.pts Tryz.f122) k 15 (m15 x0 x1 x6)
def L16 (k:Nat)(x0:Dt43)(x1:Dt43)(x6:Int):Option (Dt43×Unit):=heads (spec.env cals T Tryz.f122) (Func.pts Tryz.f122) k 16 (m16 x0 x1 x6)
def L18 (k:Nat)(x0:Dt43)(x1:Dt43)(x6:Int):Option (Dt43×Unit):=heads (spec.env cals T Tryz.f122) (Func.pts Tryz.f122) k 18 (m18 x0 x1 x6)
def L24 (k:Nat)(x0:Dt43)(x6:Int)(x7:Int):Option (Dt43×Unit):=heads (spec.env cals T Tryz.f122) (Func.pts Tryz.f122) k 24 (m24 x0 x6 x7)
theorem L11_succ (k:Nat)(x0:Dt43)(x1:Dt43)(x6:Int):L11 (k+1) x0 x1 x6=b11 (L11 k) (L15 k) (L16 k) (L18 k) (L24 k) x0 x1 x6:=by kernel_rfl
theorem L15_succ (k:Nat)(x0:Dt43)(x1:Dt43)(x6:Int):L15 (k+1) x0 x1 x6=b15 (L11 k) (L15 k) (L16 k) (L18 k) (L24 k) x0 x1 x6:=by kernel_rfl
theorem L16_succ (k:Nat)(x0:Dt43)(x1:Dt43)(x6:Int):L16 (k+1) x0 x1 x6=b16 (L11 k) (L15 k) (L16 k) (L18 k) (L24 k) x0 x1 x6:=by kernel_rfl
theorem L18_succ (k:Nat)(x0:Dt43)(x1:Dt43)(x6:Int):L18 (k+1) x0 x1 x6=b18 (L11 k) (L15 k) (L16 k) (L18 k) (L24 k) x0 x1 x6:=by kernel_rfl
theorem L24_succ (k:Nat)(x0:Dt43)(x6:Int)(x7:Int):L24 (k+1) x0 x6 x7=b24 (L11 k) (L15 k) (L16 k) (L18 k) (L24 k) x0 x6 x7:=by kernel_rfl
theorem eval (k:Nat)(a0:Dt43)(a1:Dt43):evalF spec cals T Tryz.f122 k (a0,a1,())=e (L11 k) (L15 k) (L16 k) (L18 k) (L24 k) a0 a1:=by kernel_rfl
theorem of (k:Nat)(a0:Dt43)(a1:Dt43){y:Dt43×Unit}(h:e (L11 k) (L15 k) (L16 k) (L18 k) (L24 k) a0 a1=some y):F (a0,a1,())=some y:=limF_of k ((eval k a0 a1).trans h)
end r01_Gcd
namespace r02_made
def spec:Spec:=⟨[(false,.bool),(false,Kt43)],[(true,Kt45)],.own,fun j=>match j with|_=>[]⟩
def cals:Cals:=(Cals.cons 125 r01_Norm.sig (Cals.base tabs))
def sig:Sig:=spec.sig cals T Tryz.f127
def F (x:Bool×Dt43×Unit):Option (Dt45×Unit):=limF spec cals T Tryz.f127 x
theorem ck:CalsOk Tryz.prog cals:=(CalsOk.cons r01_Norm.cal (CalsOk.base tabsOk))
theorem cal:CalOk Tryz.prog tabs 127 sig:=calOk_lim' tabOk ck mix Tryz.func127 (by kernel_rfl) (by kernel_rfl) (by kernel_rfl) (by kernel_rfl)
def e (a0:Bool)(a1:Dt43):Option (Dt45×Unit):=
 (r01_Norm.F (a1,())).bind fun y1=>
 bif a0 then(let v2:=(List.length y1.1:Int)
 let v3:=decide (v2>(0:Int))
 some ((v3,y1.1),()))
 else(some ((false,y1.1),()))
theorem eval (k:Nat)(a0:Bool)(a1:Dt43):evalF spec cals T Tryz.f127 k (a0,a1,())=e a0 a1:=by kernel_rfl
theorem of (k:Nat)(a0:Bool)(a1:Dt43){y:Dt45×Unit}(h:e a0 a1=some y):F (a0,a1,())=some y:=limF_of k ((eval k a0 a1).trans h)
end r02_made
namespace r02_Norm
def spec:Spec:=⟨[(true,Kt45)],[(true,Kt45)],.own,fun j=>match j with|_=>[]⟩
def cals:Cals:=(Cals.cons 127 r02_made.sig (Cals.base tabs))
def sig:Sig:=spec.sig cals T Tryz.f124
def F (x:Dt45×Unit):Option (Dt45×Unit):=limF spec cals T Tryz.f124 x
theorem ck:CalsOk Tryz.prog cals:=(CalsOk.cons r02_made.cal (CalsOk.base tabsOk))
theorem cal:CalOk Tryz.prog tabs 124 sig:=calOk_lim' tabOk ck mix Tryz.func124 (by kernel_rfl) (by kernel_rfl) (by kernel_rfl) (by kernel_rfl)
def e (a0:Dt45):Option (Dt45×Unit):=
 (r02_made.F (a0.1,a0.2,())).bind fun y1=>
 some ((y1.1.1,y1.1.2),())
theorem eval (k:Nat)(a0:Dt45):evalF spec cals T Tryz.f124 k (a0,())=e a0:=by kernel_rfl
theorem of (k:Nat)(a0:Dt45){y:Dt45×Unit}(h:e a0=some y):F (a0,())=some y:=limF_of k ((eval k a0).trans h)
end r02_Norm
namespace r01_Div
def spec:Spec:=⟨[(false,Kt43),(false,Kt43)],[(false,Kt43),(false,Kt43),(false,(.int .i64))],.own,fun j=>match j with|11=>[(0,.lf (.z 86 (.int .u32) true)),(1,.lf (.o 86 (.int .u32) true)),(7,.lf (.o 86 (.int .u32) true)),(9,.lf (.o 86 (.int .u32) true)),(10,.lf (.v true))]|_=>[]⟩
def cals:Cals:=(Cals.cons 125 r01_Norm.sig (Cals.cons 158 r01_Bit.sig (Cals.cons 160 r01_twice.sig (Cals.cons 134 r01_Cmp.sig (Cals.cons 135 r01_Sub.sig (Cals.base tabs))))))
def sig:Sig:=spec.sig cals T Tryz.f126
def F (x:Dt43×Dt43×Unit):Option (Dt43×Dt43×Int×Unit):=limF spec cals T Tryz.f126 x
theorem ck:CalsOk Tryz.prog cals:=(CalsOk.cons r01_Norm.cal (CalsOk.cons r01_Bit.cal (CalsOk.cons r01_twice.cal (CalsOk.cons r01_Cmp.cal (CalsOk.cons r01_Sub.cal (CalsOk.base tabsOk))))))
theorem cal:CalOk Tryz.prog tabs 126 sig:=calOk_lim' tabOk ck mix Tryz.func126 (by kernel_rfl) (by kernel_rfl) (by kernel_rfl) (by kernel_rfl)
def m11 (x0:Dt43)(x1:Dt43)(x7:Dt43)(x9:Dt43)(x10:Int):S:=⟨[(0,.one (.lf (.val true Kt43 x0))),(1,.one (.lf (.own 0))),(7,.one (.lf (.own 1))),(9,.one (.lf (.own 2))),(10,.one (.lf (.val true (.int .i64) x10)))],⟨[some ⟨86,(.int .u32),true,true,x1⟩,some ⟨86,(.int .u32),true,true,x7⟩,some ⟨86,(.int .u32),true,true,x9⟩],[]⟩⟩
def b11 (f11:Dt43→Dt43→Dt43→Dt43→Int→Option (Dt43×Dt43×Int×Unit))(x0:Dt43)(x1:Dt43)(x7:Dt43)(x9:Dt43)(x10:Int):Option (Dt43×Dt43×Int×Unit):=
 let v1:=decide (x10≥(0:Int))
 bif v1 then((r01_Bit.F (x0,x10,())).bind fun y2=>
 (r01_twice.F (x9,y2.1,())).bind fun y3=>
 (r01_Cmp.F (y3.1,x1,())).bind fun y4=>
 let v5:=decide (y4.1≥(0:Int))
 bif v5 then((r01_Sub.F (y3.1,x1,())).bind fun y6=>
 bif decide ((32:Int)=0)then none
 else(let v7:=IntKind.i64.wrap (Int.tdiv x10 (32:Int))
 bif decide (0≤v7)&&decide (v7<(List.length x7:Int))then(let v8:=List.getD x7 (Int.toNat v7) (0:Int)
 bif decide ((32:Int)=0)then none
 else(let v9:=Int.tmod x10 (32:Int)
 let v10:=IntKind.u64.wrap v9
 bif decide (v10<0)then none
 else(let v11:=shlI .u32 (1:Int) v10
 let v12:=bitsOp .or .u32 v8 v11
 bif decide (0≤v7)&&decide (v7<(List.length x7:Int))then(let v13:=List.set x7 (Int.toNat v7) v12
 let v14:=IntKind.i64.wrap (x10-(1:Int))
 f11 x0 x1 v13 y6.1 v14)
 else none)))
 else none))
 else(let v15:=IntKind.i64.wrap (x10-(1:Int))
 f11 x0 x1 x7 y3.1 v15))
 else((r01_Norm.F (x7,())).bind fun y16=>
 some (y16.1,x9,(0:Int),()))
def e (f11:Dt43→Dt43→Dt43→Dt43→Int→Option (Dt43×Dt43×Int×Unit))(a0:Dt43)(a1:Dt43):Option (Dt43×Dt43×Int×Unit):=
 (r01_Norm.F (a1,())).bind fun y1=>
 let v2:=(List.length y1.1:Int)
 let v3:=(v2==(0:Int))
 bif v3 then(some (zt43,zt43,(11:Int),()))
 else((r01_Norm.F (a0,())).bind fun y4=>
 let v5:=(List.length y4.1:Int)
 bif decide (0≤v5)&&(decide (v5≤v5)&&(decide (Int.toNat v5*4≤281474976710656)&&Nat.blt 0 4))then(let v6:=List.replicate (Int.toNat v5) (0:Int)
 let v7:=(List.length y1.1:Int)
 let v8:=IntKind.i64.wrap (v7-(1:Int))
 let v9:=(List.length y4.1:Int)
 let v10:=decide (v8>v9)
 bif v10 then(let v11:=(List.length y4.1:Int)
 let v12:=(List.length y4.1:Int)
 let v13:=IntKind.i64.wrap (v12-v11)
 bif decide (0≤v13)&&decide (v13≤(List.length y4.1:Int))then(let v14:=List.drop (Int.toNat v13) y4.1
 (r01_Norm.F (v14,())).bind fun y15=>
 let v16:=(List.length y4.1:Int)
 let v17:=IntKind.i64.wrap (v16-v11)
 let v18:=IntKind.i64.wrap ((32:Int)*v17)
 let v19:=IntKind.i64.wrap (v18-(1:Int))
 f11 y4.1 y1.1 v6 y15.1 v19)
 else none)
 else(let v20:=(List.length y4.1:Int)
 let v21:=IntKind.i64.wrap (v20-v8)
 bif decide (0≤v21)&&decide (v21≤(List.length y4.1:Int))then(let v22:=List.drop (Int.toNat v21) y4.1
 (r01_Norm.F (v22,())).bind fun y23=>
 let v24:=(List.length y4.1:Int)
 let v25:=IntKind.i64.wrap (v24-v8)
 let v26:=IntKind.i64.wrap ((32:Int)*v25)
 let v27:=IntKind.i64.wrap (v26-(1:Int))
 f11 y4.1 y1.1 v6 y23.1 v27)
 else none))
 else none)
def L11 (k:Nat)(x0:Dt43)(x1:Dt43)(x7:Dt43)(x9:Dt43)(x10:Int):Option (Dt43×Dt43×Int×Unit):=heads (spec.env cals T Tryz.f126) (Func.pts Tryz.f126) k 11 (m11 x0 x1 x7 x9 x10)
theorem L11_succ (k:Nat)(x0:Dt43)(x1:Dt43)(x7:Dt43)(x9:Dt43)(x10:Int):L11 (k+1) x0 x1 x7 x9 x10=b11 (L11 k) x0 x1 x7 x9 x10:=by kernel_rfl
theorem eval (k:Nat)(a0:Dt43)(a1:Dt43):evalF spec cals T Tryz.f126 k (a0,a1,())=e (L11 k) a0 a1:=by kernel_rfl
theorem of (k:Nat)(a0:Dt43)(a1:Dt43){y:Dt43×Dt43×Int×Unit}(h:e (L11 k) a0 a1=some y):F (a0,a1,())=some y:=limF_of k ((eval k a0 a1).trans h)
end r01_Div
namespace r03_Norm
def spec:Spec:=⟨[(true,Kt47)],[(true,Kt47)],.own,fun j=>match j with|_=>[]⟩
def cals:Cals:=(Cals.cons 124 r02_Norm.sig (Cals.cons 125 r01_Norm.sig (Cals.cons 122 r01_Gcd.sig (Cals.cons 126 r01_Div.sig (Cals.base tabs)))))
def sig:Sig:=spec.sig cals T Tryz.f77
def F (x:Dt47×Unit):Option (Dt47×Unit):=limF spec cals T Tryz.f77 x
theorem ck:CalsOk Tryz.prog cals:=(CalsOk.cons r02_Norm.cal (CalsOk.cons r01_Norm.cal (CalsOk.cons r01_Gcd.cal (CalsOk.cons r01_Div.cal (CalsOk.base tabsOk)))))
theorem cal:CalOk Tryz.prog tabs 77 sig:=calOk_lim' tabOk ck mix Tryz.func77 (by kernel_rfl) (by kernel_rfl) (by kernel_rfl) (by kernel_rfl)
def e (a0:Dt47):Option (Dt47×Unit):=
 (r02_Norm.F ((a0.1.1,a0.1.2),())).bind fun y1=>
 (r01_Norm.F (a0.2,())).bind fun y2=>
 let v3:=(List.length y2.1:Int)
 let v4:=(v3==(0:Int))
 bif v4 then(let v5:=([(1:Int)]:List Int)
 some ((zt45,v5),()))
 else(let v6:=(List.length y1.1.2:Int)
 let v7:=(v6==(0:Int))
 bif v7 then(let v8:=([(1:Int)]:List Int)
 some ((zt45,v8),()))
 else((r01_Gcd.F (y1.1.2,y2.1,())).bind fun y9=>
 (r01_Div.F (y1.1.2,y9.1,())).bind fun y10=>
 (r01_Div.F (y2.1,y9.1,())).bind fun y11=>
 some (((y1.1.1,y10.1),y11.1),())))
theorem eval (k:Nat)(a0:Dt47):evalF spec cals T Tryz.f77 k (a0,())=e a0:=by kernel_rfl
theorem of (k:Nat)(a0:Dt47){y:Dt47×Unit}(h:e a0=some y):F (a0,())=some y:=limF_of k ((eval k a0).trans h)
end r03_Norm
namespace r01_Of
def spec:Spec:=⟨[(false,(.int .u64))],[(false,Kt43)],.own,fun j=>match j with|_=>[]⟩
def cals:Cals:=(Cals.cons 125 r01_Norm.sig (Cals.base tabs))
def sig:Sig:=spec.sig cals T Tryz.f136
def F (x:Int×Unit):Option (Dt43×Unit):=limF spec cals T Tryz.f136 x
theorem ck:CalsOk Tryz.prog cals:=(CalsOk.cons r01_Norm.cal (CalsOk.base tabsOk))
theorem cal:CalOk Tryz.prog tabs 136 sig:=calOk_lim' tabOk ck mix Tryz.func136 (by kernel_rfl) (by kernel_rfl) (by kernel_rfl) (by kernel_rfl)
def e (a0:Int):Option (Dt43×Unit):=
 let v1:=IntKind.u32.wrap a0
 bif decide ((32:Int)<0)then none
 else(let v2:=shrI .u64 a0 (32:Int)
 let v3:=IntKind.u32.wrap v2
 let v4:=([v1,v3]:List Int)
 (r01_Norm.F (v4,())).bind fun y5=>
 some (y5.1,()))
theorem eval (k:Nat)(a0:Int):evalF spec cals T Tryz.f136 k (a0,())=e a0:=by kernel_rfl
theorem of (k:Nat)(a0:Int){y:Dt43×Unit}(h:e a0=some y):F (a0,())=some y:=limF_of k ((eval k a0).trans h)
end r01_Of
namespace r02_Of
def spec:Spec:=⟨[(false,(.int .i64))],[(true,Kt45)],.own,fun j=>match j with|_=>[]⟩
def cals:Cals:=(Cals.cons 136 r01_Of.sig (Cals.cons 127 r02_made.sig (Cals.base tabs)))
def sig:Sig:=spec.sig cals T Tryz.f92
def F (x:Int×Unit):Option (Dt45×Unit):=limF spec cals T Tryz.f92 x
theorem ck:CalsOk Tryz.prog cals:=(CalsOk.cons r01_Of.cal (CalsOk.cons r02_made.cal (CalsOk.base tabsOk)))
theorem cal:CalOk Tryz.prog tabs 92 sig:=calOk_lim' tabOk ck mix Tryz.func92 (by kernel_rfl) (by kernel_rfl) (by kernel_rfl) (by kernel_rfl)
def e (a0:Int):Option (Dt45×Unit):=
 let v1:=decide (a0<(0:Int))
 bif v1 then(let v2:=IntKind.u64.wrap a0
 let v3:=IntKind.u64.wrap ((0:Int)-v2)
 (r01_Of.F (v3,())).bind fun y4=>
 (r02_made.F (true,y4.1,())).bind fun y5=>
 some ((y5.1.1,y5.1.2),()))
 else(let v6:=IntKind.u64.wrap a0
 (r01_Of.F (v6,())).bind fun y7=>
 (r02_made.F (false,y7.1,())).bind fun y8=>
 some ((y8.1.1,y8.1.2),()))
theorem eval (k:Nat)(a0:Int):evalF spec cals T Tryz.f92 k (a0,())=e a0:=by kernel_rfl
theorem of (k:Nat)(a0:Int){y:Dt45×Unit}(h:e a0=some y):F (a0,())=some y:=limF_of k ((eval k a0).trans h)
end r02_Of
namespace r03_Whole
def spec:Spec:=⟨[(false,(.int .i64))],[(true,Kt47)],.own,fun j=>match j with|_=>[]⟩
def cals:Cals:=(Cals.cons 92 r02_Of.sig (Cals.cons 77 r03_Norm.sig (Cals.base tabs)))
def sig:Sig:=spec.sig cals T Tryz.f47
def F (x:Int×Unit):Option (Dt47×Unit):=limF spec cals T Tryz.f47 x
theorem ck:CalsOk Tryz.prog cals:=(CalsOk.cons r02_Of.cal (CalsOk.cons r03_Norm.cal (CalsOk.base tabsOk)))
theorem cal:CalOk Tryz.prog tabs 47 sig:=calOk_lim' tabOk ck mix Tryz.func47 (by kernel_rfl) (by kernel_rfl) (by kernel_rfl) (by kernel_rfl)
def e (a0:Int):Option (Dt47×Unit):=
 (r02_Of.F (a0,())).bind fun y1=>
 let v2:=([(1:Int)]:List Int)
 (r03_Norm.F (((y1.1.1,y1.1.2),v2),())).bind fun y3=>
 some (((y3.1.1.1,y3.1.1.2),y3.1.2),())
theorem eval (k:Nat)(a0:Int):evalF spec cals T Tryz.f47 k (a0,())=e a0:=by kernel_rfl
theorem of (k:Nat)(a0:Int){y:Dt47×Unit}(h:e a0=some y):F (a0,())=some y:=limF_of k ((eval k a0).trans h)
end r03_Whole
namespace r17_zero
def spec:Spec:=⟨[],[(true,Kt47)],.own,fun j=>match j with|_=>[]⟩
def cals:Cals:=(Cals.cons 47 r03_Whole.sig (Cals.base tabs))
def sig:Sig:=spec.sig cals T Tryz.f83
def F (x:Unit):Option (Dt47×Unit):=limF spec cals T Tryz.f83 x
theorem ck:CalsOk Tryz.prog cals:=(CalsOk.cons r03_Whole.cal (CalsOk.base tabsOk))
theorem cal:CalOk Tryz.prog tabs 83 sig:=calOk_lim' tabOk ck mix Tryz.func83 (by kernel_rfl) (by kernel_rfl) (by kernel_rfl) (by kernel_rfl)
def e:Option (Dt47×Unit):=
 (r03_Whole.F ((0:Int),())).bind fun y1=>
 some (((y1.1.1.1,y1.1.1.2),y1.1.2),())
theorem eval (k:Nat):evalF spec cals T Tryz.f83 k ()=e:=by kernel_rfl
theorem of (k:Nat){y:Dt47×Unit}(h:e=some y):F ()=some y:=limF_of k ((eval k).trans h)
end r17_zero
namespace r17_truth
def spec:Spec:=⟨[(true,Kt69)],[(false,.bool)],.own,fun j=>match j with|_=>[]⟩
def cals:Cals:=(Cals.cons 83 r17_zero.sig (Cals.cons 119 r03_Same.sig (Cals.base tabs)))
def sig:Sig:=spec.sig cals T Tryz.f84
def F (x:Dt69×Unit):Option (Bool×Unit):=limF spec cals T Tryz.f84 x
theorem ck:CalsOk Tryz.prog cals:=(CalsOk.cons r17_zero.cal (CalsOk.cons r03_Same.cal (CalsOk.base tabsOk)))
theorem cal:CalOk Tryz.prog tabs 84 sig:=calOk_lim' tabOk ck mix Tryz.func84 (by kernel_rfl) (by kernel_rfl) (by kernel_rfl) (by kernel_rfl)
def e (a0:Dt69):Option (Bool×Unit):=
 let v1:=(a0.1.toList==(⟨#[]⟩:ByteArray).toList)
 bif v1 then(let v2:=(List.length a0.2.1:Int)
 let v3:=(v2==(0:Int))
 bif v3 then(let v4:=not a0.2.2.2
 bif v4 then((r17_zero.F ()).bind fun y5=>
 (r03_Same.F (((a0.2.2.1.1.1,a0.2.2.1.1.2),a0.2.2.1.2),((y5.1.1.1,y5.1.1.2),y5.1.2),())).bind fun y6=>
 some (y6.1,()))
 else(some (false,())))
 else(some (false,())))
 else(some (false,()))
theorem eval (k:Nat)(a0:Dt69):evalF spec cals T Tryz.f84 k (a0,())=e a0:=by kernel_rfl
theorem of (k:Nat)(a0:Dt69){y:Bool×Unit}(h:e a0=some y):F (a0,())=some y:=limF_of k ((eval k a0).trans h)
end r17_truth
namespace r17_constant
def spec:Spec:=⟨[(true,Kt69)],[(false,.bool)],.own,fun j=>match j with|_=>[]⟩
def cals:Cals:=(Cals.cons 83 r17_zero.sig (Cals.cons 119 r03_Same.sig (Cals.base tabs)))
def sig:Sig:=spec.sig cals T Tryz.f85
def F (x:Dt69×Unit):Option (Bool×Unit):=limF spec cals T Tryz.f85 x
theorem ck:CalsOk Tryz.prog cals:=(CalsOk.cons r17_zero.cal (CalsOk.cons r03_Same.cal (CalsOk.base tabsOk)))
theorem cal:CalOk Tryz.prog tabs 85 sig:=calOk_lim' tabOk ck mix Tryz.func85 (by kernel_rfl) (by kernel_rfl) (by kernel_rfl) (by kernel_rfl)
def e (a0:Dt69):Option (Bool×Unit):=
 let v1:=(!(a0.1.toList==(⟨#[]⟩:ByteArray).toList))
 bif v1 then(let v2:=(List.length a0.2.1:Int)
 let v3:=(v2==(0:Int))
 bif v3 then(let v4:=not a0.2.2.2
 bif v4 then((r17_zero.F ()).bind fun y5=>
 (r03_Same.F (((a0.2.2.1.1.1,a0.2.2.1.1.2),a0.2.2.1.2),((y5.1.1.1,y5.1.1.2),y5.1.2),())).bind fun y6=>
 some (y6.1,()))
 else(some (false,())))
 else(some (false,())))
 else(some (false,()))
theorem eval (k:Nat)(a0:Dt69):evalF spec cals T Tryz.f85 k (a0,())=e a0:=by kernel_rfl
theorem of (k:Nat)(a0:Dt69){y:Bool×Unit}(h:e a0=some y):F (a0,())=some y:=limF_of k ((eval k a0).trans h)
end r17_constant
namespace r02_Sign
def spec:Spec:=⟨[(true,Kt45)],[(false,(.int .i64))],.own,fun j=>match j with|_=>[]⟩
def cals:Cals:=(Cals.cons 124 r02_Norm.sig (Cals.base tabs))
def sig:Sig:=spec.sig cals T Tryz.f76
def F (x:Dt45×Unit):Option (Int×Unit):=limF spec cals T Tryz.f76 x
theorem ck:CalsOk Tryz.prog cals:=(CalsOk.cons r02_Norm.cal (CalsOk.base tabsOk))
theorem cal:CalOk Tryz.prog tabs 76 sig:=calOk_lim' tabOk ck mix Tryz.func76 (by kernel_rfl) (by kernel_rfl) (by kernel_rfl) (by kernel_rfl)
def e (a0:Dt45):Option (Int×Unit):=
 (r02_Norm.F ((a0.1,a0.2),())).bind fun y1=>
 bif y1.1.1 then(some ((-1:Int),()))
 else(let v2:=(List.length y1.1.2:Int)
 let v3:=decide (v2>(0:Int))
 bif v3 then(some ((1:Int),()))
 else(some ((0:Int),())))
theorem eval (k:Nat)(a0:Dt45):evalF spec cals T Tryz.f76 k (a0,())=e a0:=by kernel_rfl
theorem of (k:Nat)(a0:Dt45){y:Int×Unit}(h:e a0=some y):F (a0,())=some y:=limF_of k ((eval k a0).trans h)
end r02_Sign
namespace r03_Sign
def spec:Spec:=⟨[(true,Kt47)],[(false,(.int .i64))],.own,fun j=>match j with|_=>[]⟩
def cals:Cals:=(Cals.cons 77 r03_Norm.sig (Cals.cons 76 r02_Sign.sig (Cals.base tabs)))
def sig:Sig:=spec.sig cals T Tryz.f27
def F (x:Dt47×Unit):Option (Int×Unit):=limF spec cals T Tryz.f27 x
theorem ck:CalsOk Tryz.prog cals:=(CalsOk.cons r03_Norm.cal (CalsOk.cons r02_Sign.cal (CalsOk.base tabsOk)))
theorem cal:CalOk Tryz.prog tabs 27 sig:=calOk_lim' tabOk ck mix Tryz.func27 (by kernel_rfl) (by kernel_rfl) (by kernel_rfl) (by kernel_rfl)
def e (a0:Dt47):Option (Int×Unit):=
 (r03_Norm.F (((a0.1.1,a0.1.2),a0.2),())).bind fun y1=>
 (r02_Sign.F ((y1.1.1.1,y1.1.1.2),())).bind fun y2=>
 some (y2.1,())
theorem eval (k:Nat)(a0:Dt47):evalF spec cals T Tryz.f27 k (a0,())=e a0:=by kernel_rfl
theorem of (k:Nat)(a0:Dt47){y:Int×Unit}(h:e a0=some y):F (a0,())=some y:=limF_of k ((eval k a0).trans h)
end r03_Sign
namespace r01_Mul
def spec:Spec:=⟨[(false,Kt43),(false,Kt43)],[(false,Kt43)],.own,fun j=>match j with|3=>[(0,.lf (.z 86 (.int .u32) false)),(1,.lf (.z 86 (.int .u32) false)),(5,.lf (.o 86 (.int .u32) true)),(6,.lf (.v true))]|7=>[(0,.lf (.z 86 (.int .u32) false)),(1,.lf (.z 86 (.int .u32) false)),(5,.lf (.o 86 (.int .u32) true)),(6,.lf (.v true)),(7,.lf (.v true)),(8,.lf (.v true))]|_=>[]⟩
def cals:Cals:=(Cals.cons 125 r01_Norm.sig (Cals.base tabs))
def sig:Sig:=spec.sig cals T Tryz.f79
def F (x:Dt43×Dt43×Unit):Option (Dt43×Unit):=limF spec cals T Tryz.f79 x
theorem ck:CalsOk Tryz.prog cals:=(CalsOk.cons r01_Norm.cal (CalsOk.base tabsOk))
theorem cal:CalOk Tryz.prog tabs 79 sig:=calOk_lim' tabOk ck mix Tryz.func79 (by kernel_rfl) (by kernel_rfl) (by kernel_rfl) (by kernel_rfl)
def m3 (x0:Dt43)(x1:Dt43)(x5:Dt43)(x6:Int):S:=⟨[(0,.one (.lf (.val false Kt43 x0))),(1,.one (.lf (.val false Kt43 x1))),(5,.one (.lf (.own 0))),(6,.one (.lf (.val true (.int .i64) x6)))],⟨[some ⟨86,(.int .u32),true,true,x5⟩],[]⟩⟩
def m7 (x0:Dt43)(x1:Dt43)(x5:Dt43)(x6:Int)(x7:Int)(x8:Int):S:=⟨[(0,.one (.lf (.val false Kt43 x0))),(1,.one (.lf (.val false Kt43 x1))),(5,.one (.lf (.own 0))),(6,.one (.lf (.val true (.int .i64) x6))),(7,.one (.lf (.val true (.int .u64) x7))),(8,.one (.lf (.val true (.int .i64) x8)))],⟨[some ⟨86,(.int .u32),true,true,x5⟩],[]⟩⟩
def b3 (f3:Dt43→Dt43→Dt43→Int→Option (Dt43×Unit))(f7:Dt43→Dt43→Dt43→Int→Int→Int→Option (Dt43×Unit))(x0:Dt43)(x1:Dt43)(x5:Dt43)(x6:Int):Option (Dt43×Unit):=
 let v1:=(List.length x0:Int)
 let v2:=decide (x6<v1)
 bif v2 then(f7 x0 x1 x5 x6 (0:Int) (0:Int))
 else((r01_Norm.F (x5,())).bind fun y3=>
 some (y3.1,()))
def b7 (f3:Dt43→Dt43→Dt43→Int→Option (Dt43×Unit))(f7:Dt43→Dt43→Dt43→Int→Int→Int→Option (Dt43×Unit))(x0:Dt43)(x1:Dt43)(x5:Dt43)(x6:Int)(x7:Int)(x8:Int):Option (Dt43×Unit):=
 let v1:=(List.length x1:Int)
 let v2:=decide (x8<v1)
 bif v2 then(bif decide (0≤x6)&&decide (x6<(List.length x0:Int))then(let v3:=List.getD x0 (Int.toNat x6) (0:Int)
 let v4:=IntKind.u64.wrap v3
 bif decide (0≤x8)&&decide (x8<(List.length x1:Int))then(let v5:=List.getD x1 (Int.toNat x8) (0:Int)
 let v6:=IntKind.u64.wrap v5
 let v7:=IntKind.u64.wrap (v4*v6)
 let v8:=IntKind.i64.wrap (x6+x8)
 bif decide (0≤v8)&&decide (v8<(List.length x5:Int))then(let v9:=List.getD x5 (Int.toNat v8) (0:Int)
 let v10:=IntKind.u64.wrap v9
 let v11:=IntKind.u64.wrap (v7+v10)
 let v12:=IntKind.u64.wrap (v11+x7)
 let v13:=IntKind.i64.wrap (x6+x8)
 let v14:=IntKind.u32.wrap v12
 bif decide (0≤v13)&&decide (v13<(List.length x5:Int))then(let v15:=List.set x5 (Int.toNat v13) v14
 bif decide ((32:Int)<0)then none
 else(let v16:=shrI .u64 v12 (32:Int)
 let v17:=IntKind.i64.wrap (x8+(1:Int))
 f7 x0 x1 v15 x6 v16 v17))
 else none)
 else none)
 else none)
 else none)
 else(let v18:=(List.length x1:Int)
 let v19:=IntKind.i64.wrap (x6+v18)
 let v20:=IntKind.u32.wrap x7
 bif decide (0≤v19)&&decide (v19<(List.length x5:Int))then(let v21:=List.set x5 (Int.toNat v19) v20
 let v22:=IntKind.i64.wrap (x6+(1:Int))
 f3 x0 x1 v21 v22)
 else none)
def e (f3:Dt43→Dt43→Dt43→Int→Option (Dt43×Unit))(f7:Dt43→Dt43→Dt43→Int→Int→Int→Option (Dt43×Unit))(a0:Dt43)(a1:Dt43):Option (Dt43×Unit):=
 let v1:=(List.length a0:Int)
 let v2:=(List.length a1:Int)
 let v3:=IntKind.i64.wrap (v1+v2)
 bif decide (0≤v3)&&(decide (v3≤v3)&&(decide (Int.toNat v3*4≤281474976710656)&&Nat.blt 0 4))then(let v4:=List.replicate (Int.toNat v3) (0:Int)
 f3 a0 a1 v4 (0:Int))
 else none
def L3 (k:Nat)(x0:Dt43)(x1:Dt43)(x5:Dt43)(x6:Int):Option (Dt43×Unit):=heads (spec.env cals T Tryz.f79) (Func.pts Tryz.f79) k 3 (m3 x0 x1 x5 x6)
def L7 (k:Nat)(x0:Dt43)(x1:Dt43)(x5:Dt43)(x6:Int)(x7:Int)(x8:Int):Option (Dt43×Unit):=heads (spec.env cals T Tryz.f79) (Func.pts Tryz.f79) k 7 (m7 x0 x1 x5 x6 x7 x8)
theorem L3_succ (k:Nat)(x0:Dt43)(x1:Dt43)(x5:Dt43)(x6:Int):L3 (k+1) x0 x1 x5 x6=b3 (L3 k) (L7 k) x0 x1 x5 x6:=by kernel_rfl
theorem L7_succ (k:Nat)(x0:Dt43)(x1:Dt43)(x5:Dt43)(x6:Int)(x7:Int)(x8:Int):L7 (k+1) x0 x1 x5 x6 x7 x8=b7 (L3 k) (L7 k) x0 x1 x5 x6 x7 x8:=by kernel_rfl
theorem eval (k:Nat)(a0:Dt43)(a1:Dt43):evalF spec cals T Tryz.f79 k (a0,a1,())=e (L3 k) (L7 k) a0 a1:=by kernel_rfl
theorem of (k:Nat)(a0:Dt43)(a1:Dt43){y:Dt43×Unit}(h:e (L3 k) (L7 k) a0 a1=some y):F (a0,a1,())=some y:=limF_of k ((eval k a0 a1).trans h)
end r01_Mul
namespace r02_Mul
def spec:Spec:=⟨[(true,Kt45),(true,Kt45)],[(true,Kt45)],.own,fun j=>match j with|_=>[]⟩
def cals:Cals:=(Cals.cons 79 r01_Mul.sig (Cals.cons 127 r02_made.sig (Cals.base tabs)))
def sig:Sig:=spec.sig cals T Tryz.f78
def F (x:Dt45×Dt45×Unit):Option (Dt45×Unit):=limF spec cals T Tryz.f78 x
theorem ck:CalsOk Tryz.prog cals:=(CalsOk.cons r01_Mul.cal (CalsOk.cons r02_made.cal (CalsOk.base tabsOk)))
theorem cal:CalOk Tryz.prog tabs 78 sig:=calOk_lim' tabOk ck mix Tryz.func78 (by kernel_rfl) (by kernel_rfl) (by kernel_rfl) (by kernel_rfl)
def e (a0:Dt45)(a1:Dt45):Option (Dt45×Unit):=
 let v1:=(!(a0.1==a1.1))
 (r01_Mul.F (a0.2,a1.2,())).bind fun y2=>
 (r02_made.F (v1,y2.1,())).bind fun y3=>
 some ((y3.1.1,y3.1.2),())
theorem eval (k:Nat)(a0:Dt45)(a1:Dt45):evalF spec cals T Tryz.f78 k (a0,a1,())=e a0 a1:=by kernel_rfl
theorem of (k:Nat)(a0:Dt45)(a1:Dt45){y:Dt45×Unit}(h:e a0 a1=some y):F (a0,a1,())=some y:=limF_of k ((eval k a0 a1).trans h)
end r02_Mul
namespace r03_Mul
def spec:Spec:=⟨[(true,Kt47),(true,Kt47)],[(true,Kt47)],.own,fun j=>match j with|_=>[]⟩
def cals:Cals:=(Cals.cons 77 r03_Norm.sig (Cals.cons 78 r02_Mul.sig (Cals.cons 79 r01_Mul.sig (Cals.base tabs))))
def sig:Sig:=spec.sig cals T Tryz.f29
def F (x:Dt47×Dt47×Unit):Option (Dt47×Unit):=limF spec cals T Tryz.f29 x
theorem ck:CalsOk Tryz.prog cals:=(CalsOk.cons r03_Norm.cal (CalsOk.cons r02_Mul.cal (CalsOk.cons r01_Mul.cal (CalsOk.base tabsOk))))
theorem cal:CalOk Tryz.prog tabs 29 sig:=calOk_lim' tabOk ck mix Tryz.func29 (by kernel_rfl) (by kernel_rfl) (by kernel_rfl) (by kernel_rfl)
def e (a0:Dt47)(a1:Dt47):Option (Dt47×Unit):=
 (r03_Norm.F (((a0.1.1,a0.1.2),a0.2),())).bind fun y1=>
 (r03_Norm.F (((a1.1.1,a1.1.2),a1.2),())).bind fun y2=>
 (r02_Mul.F ((y1.1.1.1,y1.1.1.2),(y2.1.1.1,y2.1.1.2),())).bind fun y3=>
 (r01_Mul.F (y1.1.2,y2.1.2,())).bind fun y4=>
 (r03_Norm.F (((y3.1.1,y3.1.2),y4.1),())).bind fun y5=>
 some (((y5.1.1.1,y5.1.1.2),y5.1.2),())
theorem eval (k:Nat)(a0:Dt47)(a1:Dt47):evalF spec cals T Tryz.f29 k (a0,a1,())=e a0 a1:=by kernel_rfl
theorem of (k:Nat)(a0:Dt47)(a1:Dt47){y:Dt47×Unit}(h:e a0 a1=some y):F (a0,a1,())=some y:=limF_of k ((eval k a0 a1).trans h)
end r03_Mul
namespace r06_sorted
def spec:Spec:=⟨[(false,Kt37)],[(false,Kt37)],.own,fun j=>match j with|3=>[(0,.lf (.z 3 (.int .i64) false)),(3,.lf (.o 3 (.int .i64) true)),(4,.lf (.v true))]|6=>[(0,.lf (.z 3 (.int .i64) false)),(3,.lf (.o 3 (.int .i64) true)),(4,.lf (.v true)),(5,.lf (.v true))]|11=>[(0,.lf (.z 3 (.int .i64) false)),(3,.lf (.o 3 (.int .i64) true)),(4,.lf (.v true)),(5,.lf (.v true)),(6,.lf (.v true))]|_=>[]⟩
def cals:Cals:=(Cals.base tabs)
def sig:Sig:=spec.sig cals T Tryz.f137
def F (x:Dt43×Unit):Option (Dt43×Unit):=limF spec cals T Tryz.f137 x
theorem ck:CalsOk Tryz.prog cals:=(CalsOk.base tabsOk)
theorem cal:CalOk Tryz.prog tabs 137 sig:=calOk_lim' tabOk ck mix Tryz.func137 (by kernel_rfl) (by kernel_rfl) (by kernel_rfl) (by kernel_rfl)
def m3 (x0:Dt43)(x3:Dt43)(x4:Int):S:=⟨[(0,.one (.lf (.val false Kt37 x0))),(3,.one (.lf (.own 0))),(4,.one (.lf (.val true (.int .i64) x4)))],⟨[some ⟨3,(.int .i64),true,true,x3⟩],[]⟩⟩
def m6 (x0:Dt43)(x3:Dt43)(x4:Int)(x5:Int):S:=⟨[(0,.one (.lf (.val false Kt37 x0))),(3,.one (.lf (.own 0))),(4,.one (.lf (.val true (.int .i64) x4))),(5,.one (.lf (.val true (.int .i64) x5)))],⟨[some ⟨3,(.int .i64),true,true,x3⟩],[]⟩⟩
def m11 (x0:Dt43)(x3:Dt43)(x4:Int)(x5:Int)(x6:Int):S:=⟨[(0,.one (.lf (.val false Kt37 x0))),(3,.one (.lf (.own 0))),(4,.one (.lf (.val true (.int .i64) x4))),(5,.one (.lf (.val true (.int .i64) x5))),(6,.one (.lf (.val true (.int .i64) x6)))],⟨[some ⟨3,(.int .i64),true,true,x3⟩],[]⟩⟩
def b3 (f3:Dt43→Dt43→Int→Option (Dt43×Unit))(f6:Dt43→Dt43→Int→Int→Option (Dt43×Unit))(f11:Dt43→Dt43→Int→Int→Int→Option (Dt43×Unit))(x0:Dt43)(x3:Dt43)(x4:Int):Option (Dt43×Unit):=
 let v1:=(List.length x0:Int)
 let v2:=decide (x4<v1)
 bif v2 then(f6 x0 x3 x4 (0:Int))
 else(some (x3,()))
def b6 (f3:Dt43→Dt43→Int→Option (Dt43×Unit))(f6:Dt43→Dt43→Int→Int→Option (Dt43×Unit))(f11:Dt43→Dt43→Int→Int→Int→Option (Dt43×Unit))(x0:Dt43)(x3:Dt43)(x4:Int)(x5:Int):Option (Dt43×Unit):=
 let v1:=(List.length x3:Int)
 let v2:=decide (x5<v1)
 bif v2 then(bif decide (0≤x5)&&decide (x5<(List.length x3:Int))then(let v3:=List.getD x3 (Int.toNat x5) (0:Int)
 bif decide (0≤x4)&&decide (x4<(List.length x0:Int))then(let v4:=List.getD x0 (Int.toNat x4) (0:Int)
 let v5:=decide (v3<v4)
 bif v5 then(let v6:=IntKind.i64.wrap (x5+(1:Int))
 f6 x0 x3 x4 v6)
 else(let v7:=(List.length x3:Int)
 let v8:=decide (x5<v7)
 bif v8 then(bif decide (0≤x5)&&decide (x5<(List.length x3:Int))then(let v9:=List.getD x3 (Int.toNat x5) (0:Int)
 bif decide (0≤x4)&&decide (x4<(List.length x0:Int))then(let v10:=List.getD x0 (Int.toNat x4) (0:Int)
 let v11:=(v9==v10)
 bif v11 then(let v12:=IntKind.i64.wrap (x4+(1:Int))
 f3 x0 x3 v12)
 else(let v13:=([(0:Int)]:List Int)
 bif decide (List.length x3+List.length v13<17592186044416)then(let v14:=List.append x3 v13
 let v15:=(List.length v14:Int)
 let v16:=IntKind.i64.wrap (v15-(1:Int))
 f11 x0 v14 x4 x5 v16)
 else none))
 else none)
 else none)
 else(let v17:=([(0:Int)]:List Int)
 bif decide (List.length x3+List.length v17<17592186044416)then(let v18:=List.append x3 v17
 let v19:=(List.length v18:Int)
 let v20:=IntKind.i64.wrap (v19-(1:Int))
 f11 x0 v18 x4 x5 v20)
 else none)))
 else none)
 else none)
 else(let v21:=(List.length x3:Int)
 let v22:=decide (x5<v21)
 bif v22 then(bif decide (0≤x5)&&decide (x5<(List.length x3:Int))then(let v23:=List.getD x3 (Int.toNat x5) (0:Int)
 bif decide (0≤x4)&&decide (x4<(List.length x0:Int))then(let v24:=List.getD x0 (Int.toNat x4) (0:Int)
 let v25:=(v23==v24)
 bif v25 then(let v26:=IntKind.i64.wrap (x4+(1:Int))
 f3 x0 x3 v26)
 else(let v27:=([(0:Int)]:List Int)
 bif decide (List.length x3+List.length v27<17592186044416)then(let v28:=List.append x3 v27
 let v29:=(List.length v28:Int)
 let v30:=IntKind.i64.wrap (v29-(1:Int))
 f11 x0 v28 x4 x5 v30)
 else none))
 else none)
 else none)
 else(let v31:=([(0:Int)]:List Int)
 bif decide (List.length x3+List.length v31<17592186044416)then(let v32:=List.append x3 v31
 let v33:=(List.length v32:Int)
 let v34:=IntKind.i64.wrap (v33-(1:Int))
 f11 x0 v32 x4 x5 v34)
 else none))
def b11 (f3:Dt43→Dt43→Int→Option (Dt43×Unit))(f6:Dt43→Dt43→Int→Int→Option (Dt43×Unit))(f11:Dt43→Dt43→Int→Int→Int→Option (Dt43×Unit))(x0:Dt43)(x3:Dt43)(x4:Int)(x5:Int)(x6:Int):Option (Dt43×Unit):=
 let v1:=decide (x6>x5)
 bif v1 then(let v2:=IntKind.i64.wrap (x6-(1:Int))
 bif decide (0≤v2)&&decide (v2<(List.length x3:Int))then(let v3:=List.getD x3 (Int.toNat v2) (0:Int)
 bif decide (0≤x6)&&decide (x6<(List.length x3:Int))then(let v4:=List.set x3 (Int.toNat x6) v3
 let v5:=IntKind.i64.wrap (x6-(1:Int))
 f11 x0 v4 x4 x5 v5)
 else none)
 else none)
 else(bif decide (0≤x4)&&decide (x4<(List.length x0:Int))then(let v6:=List.getD x0 (Int.toNat x4) (0:Int)
 bif decide (0≤x5)&&decide (x5<(List.length x3:Int))then(let v7:=List.set x3 (Int.toNat x5) v6
 let v8:=IntKind.i64.wrap (x4+(1:Int))
 f3 x0 v7 v8)
 else none)
 else none)
def e (f3:Dt43→Dt43→Int→Option (Dt43×Unit))(f6:Dt43→Dt43→Int→Int→Option (Dt43×Unit))(f11:Dt43→Dt43→Int→Int→Int→Option (Dt43×Unit))(a0:Dt43):Option (Dt43×Unit):=
 f3 a0 zt43 (0:Int)
def L3 (k:Nat)(x0:Dt43)(x3:Dt43)(x4:Int):Option (Dt43×Unit):=heads (spec.env cals T Tryz.f137) (Func.pts Tryz.f137) k 3 (m3 x0 x3 x4)
def L6 (k:Nat)(x0:Dt43)(x3:Dt43)(x4:Int)(x5:Int):Option (Dt43×Unit):=heads (spec.env cals T Tryz.f137) (Func.pts Tryz.f137) k 6 (m6 x0 x3 x4 x5)
def L11 (k:Nat)(x0:Dt43)(x3:Dt43)(x4:Int)(x5:Int)(x6:Int):Option (Dt43×Unit):=heads (spec.env cals T Tryz.f137) (Func.pts Tryz.f137) k 11 (m11 x0 x3 x4 x5 x6)
theorem L3_succ (k:Nat)(x0:Dt43)(x3:Dt43)(x4:Int):L3 (k+1) x0 x3 x4=b3 (L3 k) (L6 k) (L11 k) x0 x3 x4:=by kernel_rfl
theorem L6_succ (k:Nat)(x0:Dt43)(x3:Dt43)(x4:Int)(x5:Int):L6 (k+1) x0 x3 x4 x5=b6 (L3 k) (L6 k) (L11 k) x0 x3 x4 x5:=by kernel_rfl
theorem L11_succ (k:Nat)(x0:Dt43)(x3:Dt43)(x4:Int)(x5:Int)(x6:Int):L11 (k+1) x0 x3 x4 x5 x6=b11 (L3 k) (L6 k) (L11 k) x0 x3 x4 x5 x6:=by kernel_rfl
theorem eval (k:Nat)(a0:Dt43):evalF spec cals T Tryz.f137 k (a0,())=e (L3 k) (L6 k) (L11 k) a0:=by kernel_rfl
theorem of (k:Nat)(a0:Dt43){y:Dt43×Unit}(h:e (L3 k) (L6 k) (L11 k) a0=some y):F (a0,())=some y:=limF_of k ((eval k a0).trans h)
end r06_sorted
namespace r06_all
def spec:Spec:=⟨[(false,Kt40),(false,Kt40)],[(false,Kt37)],.own,fun j=>match j with|3=>[(0,.lf (.z 73 Kt73 false)),(1,.lf (.z 73 Kt73 false)),(5,.lf (.o 3 (.int .i64) true)),(6,.lf (.v true))]|7=>[(1,.lf (.z 73 Kt73 false)),(5,.lf (.o 3 (.int .i64) true)),(7,.lf (.v true))]|_=>[]⟩
def cals:Cals:=(Cals.cons 137 r06_sorted.sig (Cals.base tabs))
def sig:Sig:=spec.sig cals T Tryz.f93
def F (x:Dt40×Dt40×Unit):Option (Dt43×Unit):=limF spec cals T Tryz.f93 x
theorem ck:CalsOk Tryz.prog cals:=(CalsOk.cons r06_sorted.cal (CalsOk.base tabsOk))
theorem cal:CalOk Tryz.prog tabs 93 sig:=calOk_lim' tabOk ck mix Tryz.func93 (by kernel_rfl) (by kernel_rfl) (by kernel_rfl) (by kernel_rfl)
def m3 (x0:Dt40)(x1:Dt40)(x5:Dt43)(x6:Int):S:=⟨[(0,.one (.lf (.val false Kt40 x0))),(1,.one (.lf (.val false Kt40 x1))),(5,.one (.lf (.own 0))),(6,.one (.lf (.val true (.int .i64) x6)))],⟨[some ⟨3,(.int .i64),true,true,x5⟩],[]⟩⟩
def m7 (x1:Dt40)(x5:Dt43)(x7:Int):S:=⟨[(1,.one (.lf (.val false Kt40 x1))),(5,.one (.lf (.own 0))),(7,.one (.lf (.val true (.int .i64) x7)))],⟨[some ⟨3,(.int .i64),true,true,x5⟩],[]⟩⟩
def b3 (f3:Dt40→Dt40→Dt43→Int→Option (Dt43×Unit))(f7:Dt40→Dt43→Int→Option (Dt43×Unit))(x0:Dt40)(x1:Dt40)(x5:Dt43)(x6:Int):Option (Dt43×Unit):=
 let v1:=(List.length x0:Int)
 let v2:=decide (x6<v1)
 bif v2 then(bif decide (0≤x6)&&decide (x6<(List.length x0:Int))then(let v3:=(List.getD x0 (Int.toNat x6) zt73).1
 let v4:=([v3]:List Int)
 bif decide (List.length x5+List.length v4<17592186044416)then(let v5:=List.append x5 v4
 let v6:=IntKind.i64.wrap (x6+(1:Int))
 f3 x0 x1 v5 v6)
 else none)
 else none)
 else(f7 x1 x5 (0:Int))
def b7 (f3:Dt40→Dt40→Dt43→Int→Option (Dt43×Unit))(f7:Dt40→Dt43→Int→Option (Dt43×Unit))(x1:Dt40)(x5:Dt43)(x7:Int):Option (Dt43×Unit):=
 let v1:=(List.length x1:Int)
 let v2:=decide (x7<v1)
 bif v2 then(bif decide (0≤x7)&&decide (x7<(List.length x1:Int))then(let v3:=(List.getD x1 (Int.toNat x7) zt73).1
 let v4:=([v3]:List Int)
 bif decide (List.length x5+List.length v4<17592186044416)then(let v5:=List.append x5 v4
 let v6:=IntKind.i64.wrap (x7+(1:Int))
 f7 x1 v5 v6)
 else none)
 else none)
 else((r06_sorted.F (x5,())).bind fun y7=>
 some (y7.1,()))
def e (f3:Dt40→Dt40→Dt43→Int→Option (Dt43×Unit))(f7:Dt40→Dt43→Int→Option (Dt43×Unit))(a0:Dt40)(a1:Dt40):Option (Dt43×Unit):=
 f3 a0 a1 zt43 (0:Int)
def L3 (k:Nat)(x0:Dt40)(x1:Dt40)(x5:Dt43)(x6:Int):Option (Dt43×Unit):=heads (spec.env cals T Tryz.f93) (Func.pts Tryz.f93) k 3 (m3 x0 x1 x5 x6)
def L7 (k:Nat)(x1:Dt40)(x5:Dt43)(x7:Int):Option (Dt43×Unit):=heads (spec.env cals T Tryz.f93) (Func.pts Tryz.f93) k 7 (m7 x1 x5 x7)
theorem L3_succ (k:Nat)(x0:Dt40)(x1:Dt40)(x5:Dt43)(x6:Int):L3 (k+1) x0 x1 x5 x6=b3 (L3 k) (L7 k) x0 x1 x5 x6:=by kernel_rfl
theorem L7_succ (k:Nat)(x1:Dt40)(x5:Dt43)(x7:Int):L7 (k+1) x1 x5 x7=b7 (L3 k) (L7 k) x1 x5 x7:=by kernel_rfl
theorem eval (k:Nat)(a0:Dt40)(a1:Dt40):evalF spec cals T Tryz.f93 k (a0,a1,())=e (L3 k) (L7 k) a0 a1:=by kernel_rfl
theorem of (k:Nat)(a0:Dt40)(a1:Dt40){y:Dt43×Unit}(h:e (L3 k) (L7 k) a0 a1=some y):F (a0,a1,())=some y:=limF_of k ((eval k a0 a1).trans h)
end r06_all
namespace r01_Add
def spec:Spec:=⟨[(false,Kt43),(false,Kt43)],[(false,Kt43)],.own,fun j=>match j with|7=>[(0,.lf (.z 86 (.int .u32) false)),(1,.lf (.z 86 (.int .u32) false)),(5,.lf (.v true)),(6,.lf (.o 86 (.int .u32) true)),(7,.lf (.v true)),(8,.lf (.v true))]|_=>[]⟩
def cals:Cals:=(Cals.cons 163 r01_at.sig (Cals.cons 125 r01_Norm.sig (Cals.base tabs)))
def sig:Sig:=spec.sig cals T Tryz.f133
def F (x:Dt43×Dt43×Unit):Option (Dt43×Unit):=limF spec cals T Tryz.f133 x
theorem ck:CalsOk Tryz.prog cals:=(CalsOk.cons r01_at.cal (CalsOk.cons r01_Norm.cal (CalsOk.base tabsOk)))
theorem cal:CalOk Tryz.prog tabs 133 sig:=calOk_lim' tabOk ck mix Tryz.func133 (by kernel_rfl) (by kernel_rfl) (by kernel_rfl) (by kernel_rfl)
def m7 (x0:Dt43)(x1:Dt43)(x5:Int)(x6:Dt43)(x7:Int)(x8:Int):S:=⟨[(0,.one (.lf (.val false Kt43 x0))),(1,.one (.lf (.val false Kt43 x1))),(5,.one (.lf (.val true (.int .i64) x5))),(6,.one (.lf (.own 0))),(7,.one (.lf (.val true (.int .u64) x7))),(8,.one (.lf (.val true (.int .i64) x8)))],⟨[some ⟨86,(.int .u32),true,true,x6⟩],[]⟩⟩
def b7 (f7:Dt43→Dt43→Int→Dt43→Int→Int→Option (Dt43×Unit))(x0:Dt43)(x1:Dt43)(x5:Int)(x6:Dt43)(x7:Int)(x8:Int):Option (Dt43×Unit):=
 let v1:=decide (x8≤x5)
 bif v1 then((r01_at.F (x0,x8,())).bind fun y2=>
 (r01_at.F (x1,x8,())).bind fun y3=>
 let v4:=IntKind.u64.wrap (y2.1+y3.1)
 let v5:=IntKind.u64.wrap (v4+x7)
 let v6:=IntKind.u32.wrap v5
 bif decide (0≤x8)&&decide (x8<(List.length x6:Int))then(let v7:=List.set x6 (Int.toNat x8) v6
 bif decide ((32:Int)<0)then none
 else(let v8:=shrI .u64 v5 (32:Int)
 let v9:=IntKind.i64.wrap (x8+(1:Int))
 f7 x0 x1 x5 v7 v8 v9))
 else none)
 else((r01_Norm.F (x6,())).bind fun y10=>
 some (y10.1,()))
def e (f7:Dt43→Dt43→Int→Dt43→Int→Int→Option (Dt43×Unit))(a0:Dt43)(a1:Dt43):Option (Dt43×Unit):=
 let v1:=(List.length a0:Int)
 let v2:=(List.length a1:Int)
 let v3:=decide (v2>v1)
 bif v3 then(let v4:=(List.length a1:Int)
 let v5:=IntKind.i64.wrap (v4+(1:Int))
 bif decide (0≤v5)&&(decide (v5≤v5)&&(decide (Int.toNat v5*4≤281474976710656)&&Nat.blt 0 4))then(let v6:=List.replicate (Int.toNat v5) (0:Int)
 f7 a0 a1 v4 v6 (0:Int) (0:Int))
 else none)
 else(let v7:=IntKind.i64.wrap (v1+(1:Int))
 bif decide (0≤v7)&&(decide (v7≤v7)&&(decide (Int.toNat v7*4≤281474976710656)&&Nat.blt 0 4))then(let v8:=List.replicate (Int.toNat v7) (0:Int)
 f7 a0 a1 v1 v8 (0:Int) (0:Int))
 else none)
def L7 (k:Nat)(x0:Dt43)(x1:Dt43)(x5:Int)(x6:Dt43)(x7:Int)(x8:Int):Option (Dt43×Unit):=heads (spec.env cals T Tryz.f133) (Func.pts Tryz.f133) k 7 (m7 x0 x1 x5 x6 x7 x8)
theorem L7_succ (k:Nat)(x0:Dt43)(x1:Dt43)(x5:Int)(x6:Dt43)(x7:Int)(x8:Int):L7 (k+1) x0 x1 x5 x6 x7 x8=b7 (L7 k) x0 x1 x5 x6 x7 x8:=by kernel_rfl
theorem eval (k:Nat)(a0:Dt43)(a1:Dt43):evalF spec cals T Tryz.f133 k (a0,a1,())=e (L7 k) a0 a1:=by kernel_rfl
theorem of (k:Nat)(a0:Dt43)(a1:Dt43){y:Dt43×Unit}(h:e (L7 k) a0 a1=some y):F (a0,a1,())=some y:=limF_of k ((eval k a0 a1).trans h)
end r01_Add
namespace r02_Add
def spec:Spec:=⟨[(true,Kt45),(true,Kt45)],[(true,Kt45)],.own,fun j=>match j with|_=>[]⟩
def cals:Cals:=(Cals.cons 133 r01_Add.sig (Cals.cons 127 r02_made.sig (Cals.cons 134 r01_Cmp.sig (Cals.cons 135 r01_Sub.sig (Cals.base tabs)))))
def sig:Sig:=spec.sig cals T Tryz.f90
def F (x:Dt45×Dt45×Unit):Option (Dt45×Unit):=limF spec cals T Tryz.f90 x
theorem ck:CalsOk Tryz.prog cals:=(CalsOk.cons r01_Add.cal (CalsOk.cons r02_made.cal (CalsOk.cons r01_Cmp.cal (CalsOk.cons r01_Sub.cal (CalsOk.base tabsOk)))))
theorem cal:CalOk Tryz.prog tabs 90 sig:=calOk_lim' tabOk ck mix Tryz.func90 (by kernel_rfl) (by kernel_rfl) (by kernel_rfl) (by kernel_rfl)
def e (a0:Dt45)(a1:Dt45):Option (Dt45×Unit):=
 let v1:=(a0.1==a1.1)
 bif v1 then((r01_Add.F (a0.2,a1.2,())).bind fun y2=>
 (r02_made.F (a0.1,y2.1,())).bind fun y3=>
 some ((y3.1.1,y3.1.2),()))
 else((r01_Cmp.F (a0.2,a1.2,())).bind fun y4=>
 let v5:=decide (y4.1≥(0:Int))
 bif v5 then((r01_Sub.F (a0.2,a1.2,())).bind fun y6=>
 (r02_made.F (a0.1,y6.1,())).bind fun y7=>
 some ((y7.1.1,y7.1.2),()))
 else((r01_Sub.F (a1.2,a0.2,())).bind fun y8=>
 (r02_made.F (a1.1,y8.1,())).bind fun y9=>
 some ((y9.1.1,y9.1.2),())))
theorem eval (k:Nat)(a0:Dt45)(a1:Dt45):evalF spec cals T Tryz.f90 k (a0,a1,())=e a0 a1:=by kernel_rfl
theorem of (k:Nat)(a0:Dt45)(a1:Dt45){y:Dt45×Unit}(h:e a0 a1=some y):F (a0,a1,())=some y:=limF_of k ((eval k a0 a1).trans h)
end r02_Add
namespace r03_positive
def spec:Spec:=⟨[(false,Kt43)],[(true,Kt45)],.shared,fun j=>match j with|_=>[]⟩
def cals:Cals:=(Cals.base tabs)
def sig:Sig:=spec.sig cals T Tryz.f91
def F (x:Dt43×Unit):Option (Dt45×Unit):=limF spec cals T Tryz.f91 x
theorem ck:CalsOk Tryz.prog cals:=(CalsOk.base tabsOk)
theorem cal:CalOk Tryz.prog tabs 91 sig:=calOk_lim' tabOk ck mix Tryz.func91 (by kernel_rfl) (by kernel_rfl) (by kernel_rfl) (by kernel_rfl)
def e (a0:Dt43):Option (Dt45×Unit):=
 some ((false,a0),())
theorem eval (k:Nat)(a0:Dt43):evalF spec cals T Tryz.f91 k (a0,())=e a0:=by kernel_rfl
theorem of (k:Nat)(a0:Dt43){y:Dt45×Unit}(h:e a0=some y):F (a0,())=some y:=limF_of k ((eval k a0).trans h)
end r03_positive
namespace r03_Add
def spec:Spec:=⟨[(true,Kt47),(true,Kt47)],[(true,Kt47)],.own,fun j=>match j with|_=>[]⟩
def cals:Cals:=(Cals.cons 77 r03_Norm.sig (Cals.cons 91 r03_positive.sig (Cals.cons 78 r02_Mul.sig (Cals.cons 90 r02_Add.sig (Cals.cons 79 r01_Mul.sig (Cals.base tabs))))))
def sig:Sig:=spec.sig cals T Tryz.f44
def F (x:Dt47×Dt47×Unit):Option (Dt47×Unit):=limF spec cals T Tryz.f44 x
theorem ck:CalsOk Tryz.prog cals:=(CalsOk.cons r03_Norm.cal (CalsOk.cons r03_positive.cal (CalsOk.cons r02_Mul.cal (CalsOk.cons r02_Add.cal (CalsOk.cons r01_Mul.cal (CalsOk.base tabsOk))))))
theorem cal:CalOk Tryz.prog tabs 44 sig:=calOk_lim' tabOk ck mix Tryz.func44 (by kernel_rfl) (by kernel_rfl) (by kernel_rfl) (by kernel_rfl)
def e (a0:Dt47)(a1:Dt47):Option (Dt47×Unit):=
 (r03_Norm.F (((a0.1.1,a0.1.2),a0.2),())).bind fun y1=>
 (r03_Norm.F (((a1.1.1,a1.1.2),a1.2),())).bind fun y2=>
 (r03_positive.F (y2.1.2,())).bind fun y3=>
 (r02_Mul.F ((y1.1.1.1,y1.1.1.2),(y3.1.1,y3.1.2),())).bind fun y4=>
 (r03_positive.F (y1.1.2,())).bind fun y5=>
 (r02_Mul.F ((y2.1.1.1,y2.1.1.2),(y5.1.1,y5.1.2),())).bind fun y6=>
 (r02_Add.F ((y4.1.1,y4.1.2),(y6.1.1,y6.1.2),())).bind fun y7=>
 (r01_Mul.F (y1.1.2,y2.1.2,())).bind fun y8=>
 (r03_Norm.F (((y7.1.1,y7.1.2),y8.1),())).bind fun y9=>
 some (((y9.1.1.1,y9.1.1.2),y9.1.2),())
theorem eval (k:Nat)(a0:Dt47)(a1:Dt47):evalF spec cals T Tryz.f44 k (a0,a1,())=e a0 a1:=by kernel_rfl
theorem of (k:Nat)(a0:Dt47)(a1:Dt47){y:Dt47×Unit}(h:e a0 a1=some y):F (a0,a1,())=some y:=limF_of k ((eval k a0 a1).trans h)
end r03_Add
namespace r06_zero
def spec:Spec:=⟨[],[(true,Kt47)],.own,fun j=>match j with|_=>[]⟩
def cals:Cals:=(Cals.cons 47 r03_Whole.sig (Cals.base tabs))
def sig:Sig:=spec.sig cals T Tryz.f108
def F (x:Unit):Option (Dt47×Unit):=limF spec cals T Tryz.f108 x
theorem ck:CalsOk Tryz.prog cals:=(CalsOk.cons r03_Whole.cal (CalsOk.base tabsOk))
theorem cal:CalOk Tryz.prog tabs 108 sig:=calOk_lim' tabOk ck mix Tryz.func108 (by kernel_rfl) (by kernel_rfl) (by kernel_rfl) (by kernel_rfl)
def e:Option (Dt47×Unit):=
 (r03_Whole.F ((0:Int),())).bind fun y1=>
 some (((y1.1.1.1,y1.1.1.2),y1.1.2),())
theorem eval (k:Nat):evalF spec cals T Tryz.f108 k ()=e:=by kernel_rfl
theorem of (k:Nat){y:Dt47×Unit}(h:e=some y):F ()=some y:=limF_of k ((eval k).trans h)
end r06_zero
namespace r06_Coef
def spec:Spec:=⟨[(false,Kt40),(false,(.int .i64))],[(true,Kt47)],.own,fun j=>match j with|3=>[(0,.lf (.z 73 Kt73 false)),(1,.lf (.v false)),(4,.box 47 [.v true,.v true,.v true]),(5,.box 47 [.v true,.o 86 (.int .u32) true,.o 86 (.int .u32) true]),(6,.lf (.v true))]|_=>[]⟩
def cals:Cals:=(Cals.cons 108 r06_zero.sig (Cals.cons 44 r03_Add.sig (Cals.base tabs)))
def sig:Sig:=spec.sig cals T Tryz.f94
def F (x:Dt40×Int×Unit):Option (Dt47×Unit):=limF spec cals T Tryz.f94 x
theorem ck:CalsOk Tryz.prog cals:=(CalsOk.cons r06_zero.cal (CalsOk.cons r03_Add.cal (CalsOk.base tabsOk)))
theorem cal:CalOk Tryz.prog tabs 94 sig:=calOk_lim' tabOk ck mix Tryz.func94 (by kernel_rfl) (by kernel_rfl) (by kernel_rfl) (by kernel_rfl)
def m3 (x0:Dt40)(x1:Int)(x4_0:Bool)(x5_0:Bool)(x5_1:Dt43)(x5_2:Dt43)(x6:Int):S:=⟨[(0,.one (.lf (.val false Kt40 x0))),(1,.one (.lf (.val false (.int .i64) x1))),(4,.box 0 0),(5,.box 1 0),(6,.one (.lf (.val true (.int .i64) x6)))],⟨[some ⟨86,(.int .u32),true,true,x5_1⟩,some ⟨86,(.int .u32),true,true,x5_2⟩],[some ⟨47,[.val true .bool x4_0,.nil,.nil]⟩,some ⟨47,[.val true .bool x5_0,.own 0,.own 1]⟩]⟩⟩
def b3 (f3:Dt40→Int→Bool→Bool→Dt43→Dt43→Int→Option (Dt47×Unit))(x0:Dt40)(x1:Int)(x4_0:Bool)(x5_0:Bool)(x5_1:Dt43)(x5_2:Dt43)(x6:Int):Option (Dt47×Unit):=
 let v1:=(List.length x0:Int)
 let v2:=decide (x6<v1)
 bif v2 then(bif decide (0≤x6)&&decide (x6<(List.length x0:Int))then(let v3:=(List.getD x0 (Int.toNat x6) zt73).1
 let v4:=(v3==x1)
 bif v4 then(bif decide (0≤x6)&&decide (x6<(List.length x0:Int))then(let v5:=(((List.getD x0 (Int.toNat x6) zt73).2).1).1
 let v6:=(((List.getD x0 (Int.toNat x6) zt73).2).1).2
 let v7:=((List.getD x0 (Int.toNat x6) zt73).2).2
 (r03_Add.F (((x5_0,x5_1),x5_2),((v5,v6),v7),())).bind fun y8=>
 let v9:=IntKind.i64.wrap (x6+(1:Int))
 f3 x0 x1 x4_0 y8.1.1.1 y8.1.1.2 y8.1.2 v9)
 else none)
 else(let v10:=IntKind.i64.wrap (x6+(1:Int))
 f3 x0 x1 x4_0 x5_0 x5_1 x5_2 v10))
 else none)
 else(some (((x5_0,x5_1),x5_2),()))
def e (f3:Dt40→Int→Bool→Bool→Dt43→Dt43→Int→Option (Dt47×Unit))(a0:Dt40)(a1:Int):Option (Dt47×Unit):=
 (r06_zero.F ()).bind fun y1=>
 f3 a0 a1 false y1.1.1.1 y1.1.1.2 y1.1.2 (0:Int)
def L3 (k:Nat)(x0:Dt40)(x1:Int)(x4_0:Bool)(x5_0:Bool)(x5_1:Dt43)(x5_2:Dt43)(x6:Int):Option (Dt47×Unit):=heads (spec.env cals T Tryz.f94) (Func.pts Tryz.f94) k 3 (m3 x0 x1 x4_0 x5_0 x5_1 x5_2 x6)
theorem L3_succ (k:Nat)(x0:Dt40)(x1:Int)(x4_0:Bool)(x5_0:Bool)(x5_1:Dt43)(x5_2:Dt43)(x6:Int):L3 (k+1) x0 x1 x4_0 x5_0 x5_1 x5_2 x6=b3 (L3 k) x0 x1 x4_0 x5_0 x5_1 x5_2 x6:=by kernel_rfl
theorem eval (k:Nat)(a0:Dt40)(a1:Int):evalF spec cals T Tryz.f94 k (a0,a1,())=e (L3 k) a0 a1:=by kernel_rfl
theorem of (k:Nat)(a0:Dt40)(a1:Int){y:Dt47×Unit}(h:e (L3 k) a0 a1=some y):F (a0,a1,())=some y:=limF_of k ((eval k a0 a1).trans h)
end r06_Coef
namespace r06_Norm
def spec:Spec:=⟨[(false,Kt40)],[(false,Kt40)],.own,fun j=>match j with|4=>[(0,.lf (.z 73 Kt73 false)),(3,.lf (.o 73 Kt73 true)),(4,.lf (.o 3 (.int .i64) true)),(5,.lf (.v true))]|_=>[]⟩
def cals:Cals:=(Cals.cons 93 r06_all.sig (Cals.cons 94 r06_Coef.sig (Cals.cons 27 r03_Sign.sig (Cals.base tabs))))
def sig:Sig:=spec.sig cals T Tryz.f48
def F (x:Dt40×Unit):Option (Dt40×Unit):=limF spec cals T Tryz.f48 x
theorem ck:CalsOk Tryz.prog cals:=(CalsOk.cons r06_all.cal (CalsOk.cons r06_Coef.cal (CalsOk.cons r03_Sign.cal (CalsOk.base tabsOk))))
theorem cal:CalOk Tryz.prog tabs 48 sig:=calOk_lim' tabOk ck mix Tryz.func48 (by kernel_rfl) (by kernel_rfl) (by kernel_rfl) (by kernel_rfl)
def m4 (x0:Dt40)(x3:Dt40)(x4:Dt43)(x5:Int):S:=⟨[(0,.one (.lf (.val false Kt40 x0))),(3,.one (.lf (.own 0))),(4,.one (.lf (.own 1))),(5,.one (.lf (.val true (.int .i64) x5)))],⟨[some ⟨73,Kt73,true,true,x3⟩,some ⟨3,(.int .i64),true,true,x4⟩],[]⟩⟩
def b4 (f4:Dt40→Dt40→Dt43→Int→Option (Dt40×Unit))(x0:Dt40)(x3:Dt40)(x4:Dt43)(x5:Int):Option (Dt40×Unit):=
 let v1:=(List.length x4:Int)
 let v2:=decide (x5<v1)
 bif v2 then(bif decide (0≤x5)&&decide (x5<(List.length x4:Int))then(let v3:=List.getD x4 (Int.toNat x5) (0:Int)
 (r06_Coef.F (x0,v3,())).bind fun y4=>
 (r03_Sign.F (((y4.1.1.1,y4.1.1.2),y4.1.2),())).bind fun y5=>
 let v6:=(y5.1 != (0:Int))
 bif v6 then(bif decide (0≤x5)&&decide (x5<(List.length x4:Int))then(let v7:=List.getD x4 (Int.toNat x5) (0:Int)
 let v8:=([(v7,((y4.1.1.1,y4.1.1.2),y4.1.2))]:List Dt73)
 bif decide (List.length x3+List.length v8<2199023255552)then(let v9:=List.append x3 v8
 let v10:=IntKind.i64.wrap (x5+(1:Int))
 f4 x0 v9 x4 v10)
 else none)
 else none)
 else(let v11:=IntKind.i64.wrap (x5+(1:Int))
 f4 x0 x3 x4 v11))
 else none)
 else(some (x3,()))
def e (f4:Dt40→Dt40→Dt43→Int→Option (Dt40×Unit))(a0:Dt40):Option (Dt40×Unit):=
 (r06_all.F (a0,zt40,())).bind fun y1=>
 f4 a0 zt40 y1.1 (0:Int)
def L4 (k:Nat)(x0:Dt40)(x3:Dt40)(x4:Dt43)(x5:Int):Option (Dt40×Unit):=heads (spec.env cals T Tryz.f48) (Func.pts Tryz.f48) k 4 (m4 x0 x3 x4 x5)
theorem L4_succ (k:Nat)(x0:Dt40)(x3:Dt40)(x4:Dt43)(x5:Int):L4 (k+1) x0 x3 x4 x5=b4 (L4 k) x0 x3 x4 x5:=by kernel_rfl
theorem eval (k:Nat)(a0:Dt40):evalF spec cals T Tryz.f48 k (a0,())=e (L4 k) a0:=by kernel_rfl
theorem of (k:Nat)(a0:Dt40){y:Dt40×Unit}(h:e (L4 k) a0=some y):F (a0,())=some y:=limF_of k ((eval k a0).trans h)
end r06_Norm
namespace r06_Scale
def spec:Spec:=⟨[(true,Kt47),(false,Kt40)],[(false,Kt40)],.own,fun j=>match j with|3=>[(1,.lf (.z 73 Kt73 false)),(2,.box 47 [.v false,.z 86 (.int .u32) false,.z 86 (.int .u32) false]),(5,.lf (.o 73 Kt73 true)),(6,.lf (.v true))]|_=>[]⟩
def cals:Cals:=(Cals.cons 29 r03_Mul.sig (Cals.cons 48 r06_Norm.sig (Cals.base tabs)))
def sig:Sig:=spec.sig cals T Tryz.f28
def F (x:Dt47×Dt40×Unit):Option (Dt40×Unit):=limF spec cals T Tryz.f28 x
theorem ck:CalsOk Tryz.prog cals:=(CalsOk.cons r03_Mul.cal (CalsOk.cons r06_Norm.cal (CalsOk.base tabsOk)))
theorem cal:CalOk Tryz.prog tabs 28 sig:=calOk_lim' tabOk ck mix Tryz.func28 (by kernel_rfl) (by kernel_rfl) (by kernel_rfl) (by kernel_rfl)
def m3 (x1:Dt40)(x2_0:Bool)(x2_1:Dt43)(x2_2:Dt43)(x5:Dt40)(x6:Int):S:=⟨[(1,.one (.lf (.val false Kt40 x1))),(2,.box 0 0),(5,.one (.lf (.own 0))),(6,.one (.lf (.val true (.int .i64) x6)))],⟨[some ⟨73,Kt73,true,true,x5⟩],[some ⟨47,[.val false .bool x2_0,.val false Kt43 x2_1,.val false Kt43 x2_2]⟩]⟩⟩
def b3 (f3:Dt40→Bool→Dt43→Dt43→Dt40→Int→Option (Dt40×Unit))(x1:Dt40)(x2_0:Bool)(x2_1:Dt43)(x2_2:Dt43)(x5:Dt40)(x6:Int):Option (Dt40×Unit):=
 let v1:=(List.length x1:Int)
 let v2:=decide (x6<v1)
 bif v2 then(bif decide (0≤x6)&&decide (x6<(List.length x1:Int))then(let v3:=(List.getD x1 (Int.toNat x6) zt73).1
 bif decide (0≤x6)&&decide (x6<(List.length x1:Int))then(let v4:=(((List.getD x1 (Int.toNat x6) zt73).2).1).1
 let v5:=(((List.getD x1 (Int.toNat x6) zt73).2).1).2
 let v6:=((List.getD x1 (Int.toNat x6) zt73).2).2
 (r03_Mul.F (((x2_0,x2_1),x2_2),((v4,v5),v6),())).bind fun y7=>
 let v8:=([(v3,((y7.1.1.1,y7.1.1.2),y7.1.2))]:List Dt73)
 bif decide (List.length x5+List.length v8<2199023255552)then(let v9:=List.append x5 v8
 let v10:=IntKind.i64.wrap (x6+(1:Int))
 f3 x1 x2_0 x2_1 x2_2 v9 v10)
 else none)
 else none)
 else none)
 else((r06_Norm.F (x5,())).bind fun y11=>
 some (y11.1,()))
def e (f3:Dt40→Bool→Dt43→Dt43→Dt40→Int→Option (Dt40×Unit))(a0:Dt47)(a1:Dt40):Option (Dt40×Unit):=
 f3 a1 a0.1.1 a0.1.2 a0.2 zt40 (0:Int)
def L3 (k:Nat)(x1:Dt40)(x2_0:Bool)(x2_1:Dt43)(x2_2:Dt43)(x5:Dt40)(x6:Int):Option (Dt40×Unit):=heads (spec.env cals T Tryz.f28) (Func.pts Tryz.f28) k 3 (m3 x1 x2_0 x2_1 x2_2 x5 x6)
theorem L3_succ (k:Nat)(x1:Dt40)(x2_0:Bool)(x2_1:Dt43)(x2_2:Dt43)(x5:Dt40)(x6:Int):L3 (k+1) x1 x2_0 x2_1 x2_2 x5 x6=b3 (L3 k) x1 x2_0 x2_1 x2_2 x5 x6:=by kernel_rfl
theorem eval (k:Nat)(a0:Dt47)(a1:Dt40):evalF spec cals T Tryz.f28 k (a0,a1,())=e (L3 k) a0 a1:=by kernel_rfl
theorem of (k:Nat)(a0:Dt47)(a1:Dt40){y:Dt40×Unit}(h:e (L3 k) a0 a1=some y):F (a0,a1,())=some y:=limF_of k ((eval k a0 a1).trans h)
end r06_Scale
namespace r02_Gcd
def spec:Spec:=⟨[(true,Kt45),(true,Kt45)],[(false,Kt43)],.own,fun j=>match j with|3=>[(5,.lf (.o 86 (.int .u32) true)),(6,.lf (.o 86 (.int .u32) true))]|_=>[]⟩
def cals:Cals:=(Cals.cons 125 r01_Norm.sig (Cals.cons 126 r01_Div.sig (Cals.base tabs)))
def sig:Sig:=spec.sig cals T Tryz.f157
def F (x:Dt45×Dt45×Unit):Option (Dt43×Unit):=limF spec cals T Tryz.f157 x
theorem ck:CalsOk Tryz.prog cals:=(CalsOk.cons r01_Norm.cal (CalsOk.cons r01_Div.cal (CalsOk.base tabsOk)))
theorem cal:CalOk Tryz.prog tabs 157 sig:=calOk_lim' tabOk ck mix Tryz.func157 (by kernel_rfl) (by kernel_rfl) (by kernel_rfl) (by kernel_rfl)
def m3 (x5:Dt43)(x6:Dt43):S:=⟨[(5,.one (.lf (.own 0))),(6,.one (.lf (.own 1)))],⟨[some ⟨86,(.int .u32),true,true,x5⟩,some ⟨86,(.int .u32),true,true,x6⟩],[]⟩⟩
def b3 (f3:Dt43→Dt43→Option (Dt43×Unit))(x5:Dt43)(x6:Dt43):Option (Dt43×Unit):=
 let v1:=(List.length x6:Int)
 let v2:=decide (v1>(0:Int))
 bif v2 then((r01_Div.F (x5,x6,())).bind fun y3=>
 (r01_Norm.F (y3.2.1,())).bind fun y4=>
 f3 x6 y4.1)
 else(some (x5,()))
def e (f3:Dt43→Dt43→Option (Dt43×Unit))(a0:Dt45)(a1:Dt45):Option (Dt43×Unit):=
 (r01_Norm.F (a0.2,())).bind fun y1=>
 (r01_Norm.F (a1.2,())).bind fun y2=>
 f3 y1.1 y2.1
def L3 (k:Nat)(x5:Dt43)(x6:Dt43):Option (Dt43×Unit):=heads (spec.env cals T Tryz.f157) (Func.pts Tryz.f157) k 3 (m3 x5 x6)
theorem L3_succ (k:Nat)(x5:Dt43)(x6:Dt43):L3 (k+1) x5 x6=b3 (L3 k) x5 x6:=by kernel_rfl
theorem eval (k:Nat)(a0:Dt45)(a1:Dt45):evalF spec cals T Tryz.f157 k (a0,a1,())=e (L3 k) a0 a1:=by kernel_rfl
theorem of (k:Nat)(a0:Dt45)(a1:Dt45){y:Dt43×Unit}(h:e (L3 k) a0 a1=some y):F (a0,a1,())=some y:=limF_of k ((eval k a0 a1).trans h)
end r02_Gcd
namespace r02_Lcm
def spec:Spec:=⟨[(true,Kt45),(true,Kt45)],[(false,Kt43)],.own,fun j=>match j with|_=>[]⟩
def cals:Cals:=(Cals.cons 157 r02_Gcd.sig (Cals.cons 126 r01_Div.sig (Cals.cons 79 r01_Mul.sig (Cals.cons 125 r01_Norm.sig (Cals.base tabs)))))
def sig:Sig:=spec.sig cals T Tryz.f121
def F (x:Dt45×Dt45×Unit):Option (Dt43×Unit):=limF spec cals T Tryz.f121 x
theorem ck:CalsOk Tryz.prog cals:=(CalsOk.cons r02_Gcd.cal (CalsOk.cons r01_Div.cal (CalsOk.cons r01_Mul.cal (CalsOk.cons r01_Norm.cal (CalsOk.base tabsOk)))))
theorem cal:CalOk Tryz.prog tabs 121 sig:=calOk_lim' tabOk ck mix Tryz.func121 (by kernel_rfl) (by kernel_rfl) (by kernel_rfl) (by kernel_rfl)
def e (a0:Dt45)(a1:Dt45):Option (Dt43×Unit):=
 (r02_Gcd.F ((a0.1,a0.2),(a1.1,a1.2),())).bind fun y1=>
 let v2:=(List.length y1.1:Int)
 let v3:=(v2==(0:Int))
 bif v3 then(some (zt43,()))
 else((r01_Div.F (a0.2,y1.1,())).bind fun y4=>
 (r01_Mul.F (y4.1,a1.2,())).bind fun y5=>
 (r01_Norm.F (y5.1,())).bind fun y6=>
 some (y6.1,()))
theorem eval (k:Nat)(a0:Dt45)(a1:Dt45):evalF spec cals T Tryz.f121 k (a0,a1,())=e a0 a1:=by kernel_rfl
theorem of (k:Nat)(a0:Dt45)(a1:Dt45){y:Dt43×Unit}(h:e a0 a1=some y):F (a0,a1,())=some y:=limF_of k ((eval k a0 a1).trans h)
end r02_Lcm
namespace r03_Of
def spec:Spec:=⟨[(true,Kt45),(true,Kt45)],[(true,Kt47),(false,(.int .i64))],.own,fun j=>match j with|_=>[]⟩
def cals:Cals:=(Cals.cons 124 r02_Norm.sig (Cals.cons 77 r03_Norm.sig (Cals.base tabs)))
def sig:Sig:=spec.sig cals T Tryz.f161
def F (x:Dt45×Dt45×Unit):Option (Dt47×Int×Unit):=limF spec cals T Tryz.f161 x
theorem ck:CalsOk Tryz.prog cals:=(CalsOk.cons r02_Norm.cal (CalsOk.cons r03_Norm.cal (CalsOk.base tabsOk)))
theorem cal:CalOk Tryz.prog tabs 161 sig:=calOk_lim' tabOk ck mix Tryz.func161 (by kernel_rfl) (by kernel_rfl) (by kernel_rfl) (by kernel_rfl)
def e (a0:Dt45)(a1:Dt45):Option (Dt47×Int×Unit):=
 (r02_Norm.F ((a0.1,a0.2),())).bind fun y1=>
 (r02_Norm.F ((a1.1,a1.2),())).bind fun y2=>
 let v3:=(List.length y2.1.2:Int)
 let v4:=(v3==(0:Int))
 bif v4 then(some (zt47,(11:Int),()))
 else(let v5:=(!(y1.1.1==y2.1.1))
 (r03_Norm.F (((v5,y1.1.2),y2.1.2),())).bind fun y6=>
 some (((y6.1.1.1,y6.1.1.2),y6.1.2),(0:Int),()))
theorem eval (k:Nat)(a0:Dt45)(a1:Dt45):evalF spec cals T Tryz.f161 k (a0,a1,())=e a0 a1:=by kernel_rfl
theorem of (k:Nat)(a0:Dt45)(a1:Dt45){y:Dt47×Int×Unit}(h:e a0 a1=some y):F (a0,a1,())=some y:=limF_of k ((eval k a0 a1).trans h)
end r03_Of
namespace r03_Inv
def spec:Spec:=⟨[(true,Kt47)],[(true,Kt47),(false,(.int .i64))],.own,fun j=>match j with|_=>[]⟩
def cals:Cals:=(Cals.cons 77 r03_Norm.sig (Cals.cons 91 r03_positive.sig (Cals.cons 161 r03_Of.sig (Cals.base tabs))))
def sig:Sig:=spec.sig cals T Tryz.f123
def F (x:Dt47×Unit):Option (Dt47×Int×Unit):=limF spec cals T Tryz.f123 x
theorem ck:CalsOk Tryz.prog cals:=(CalsOk.cons r03_Norm.cal (CalsOk.cons r03_positive.cal (CalsOk.cons r03_Of.cal (CalsOk.base tabsOk))))
theorem cal:CalOk Tryz.prog tabs 123 sig:=calOk_lim' tabOk ck mix Tryz.func123 (by kernel_rfl) (by kernel_rfl) (by kernel_rfl) (by kernel_rfl)
def e (a0:Dt47):Option (Dt47×Int×Unit):=
 (r03_Norm.F (((a0.1.1,a0.1.2),a0.2),())).bind fun y1=>
 (r03_positive.F (y1.1.2,())).bind fun y2=>
 (r03_Of.F ((y2.1.1,y2.1.2),(y1.1.1.1,y1.1.1.2),())).bind fun y3=>
 some (((y3.1.1.1,y3.1.1.2),y3.1.2),y3.2.1,())
theorem eval (k:Nat)(a0:Dt47):evalF spec cals T Tryz.f123 k (a0,())=e a0:=by kernel_rfl
theorem of (k:Nat)(a0:Dt47){y:Dt47×Int×Unit}(h:e a0=some y):F (a0,())=some y:=limF_of k ((eval k a0).trans h)
end r03_Inv
namespace r06_Prime
def spec:Spec:=⟨[(false,Kt40)],[(false,Kt40),(true,Kt47)],.own,fun j=>match j with|6=>[(3,.box 47 [.v true,.v true,.v true]),(4,.lf (.o 73 Kt73 true)),(5,.lf (.o 86 (.int .u32) true)),(6,.lf (.v true))]|11=>[(3,.box 47 [.v true,.v true,.v true]),(4,.lf (.o 73 Kt73 true)),(5,.lf (.o 86 (.int .u32) true)),(7,.lf (.o 86 (.int .u32) true)),(8,.lf (.v true))]|_=>[]⟩
def cals:Cals:=(Cals.cons 48 r06_Norm.sig (Cals.cons 47 r03_Whole.sig (Cals.cons 121 r02_Lcm.sig (Cals.cons 29 r03_Mul.sig (Cals.cons 122 r01_Gcd.sig (Cals.cons 27 r03_Sign.sig (Cals.cons 77 r03_Norm.sig (Cals.cons 123 r03_Inv.sig (Cals.cons 28 r06_Scale.sig (Cals.base tabs))))))))))
def sig:Sig:=spec.sig cals T Tryz.f72
def F (x:Dt40×Unit):Option (Dt40×Dt47×Unit):=limF spec cals T Tryz.f72 x
theorem ck:CalsOk Tryz.prog cals:=(CalsOk.cons r06_Norm.cal (CalsOk.cons r03_Whole.cal (CalsOk.cons r02_Lcm.cal (CalsOk.cons r03_Mul.cal (CalsOk.cons r01_Gcd.cal (CalsOk.cons r03_Sign.cal (CalsOk.cons r03_Norm.cal (CalsOk.cons r03_Inv.cal (CalsOk.cons r06_Scale.cal (CalsOk.base tabsOk))))))))))
theorem cal:CalOk Tryz.prog tabs 72 sig:=calOk_lim' tabOk ck mix Tryz.func72 (by kernel_rfl) (by kernel_rfl) (by kernel_rfl) (by kernel_rfl)
def m6 (x3_0:Bool)(x4:Dt40)(x5:Dt43)(x6:Int):S:=⟨[(3,.box 0 0),(4,.one (.lf (.own 0))),(5,.one (.lf (.own 1))),(6,.one (.lf (.val true (.int .i64) x6)))],⟨[some ⟨73,Kt73,true,true,x4⟩,some ⟨86,(.int .u32),true,true,x5⟩],[some ⟨47,[.val true .bool x3_0,.nil,.nil]⟩]⟩⟩
def m11 (x3_0:Bool)(x4:Dt40)(x5:Dt43)(x7:Dt43)(x8:Int):S:=⟨[(3,.box 0 0),(4,.one (.lf (.own 0))),(5,.one (.lf (.own 1))),(7,.one (.lf (.own 2))),(8,.one (.lf (.val true (.int .i64) x8)))],⟨[some ⟨73,Kt73,true,true,x4⟩,some ⟨86,(.int .u32),true,true,x5⟩,some ⟨86,(.int .u32),true,true,x7⟩],[some ⟨47,[.val true .bool x3_0,.nil,.nil]⟩]⟩⟩
def b6 (f6:Bool→Dt40→Dt43→Int→Option (Dt40×Dt47×Unit))(f11:Bool→Dt40→Dt43→Dt43→Int→Option (Dt40×Dt47×Unit))(x3_0:Bool)(x4:Dt40)(x5:Dt43)(x6:Int):Option (Dt40×Dt47×Unit):=
 let v1:=(List.length x4:Int)
 let v2:=decide (x6<v1)
 bif v2 then(bif decide (0≤x6)&&decide (x6<(List.length x4:Int))then(let v3:=((List.getD x4 (Int.toNat x6) zt73).2).2
 (r02_Lcm.F ((false,x5),(false,v3),())).bind fun y4=>
 let v5:=IntKind.i64.wrap (x6+(1:Int))
 f6 x3_0 x4 y4.1 v5)
 else none)
 else(f11 x3_0 x4 x5 zt43 (0:Int))
def b11 (f6:Bool→Dt40→Dt43→Int→Option (Dt40×Dt47×Unit))(f11:Bool→Dt40→Dt43→Dt43→Int→Option (Dt40×Dt47×Unit))(x3_0:Bool)(x4:Dt40)(x5:Dt43)(x7:Dt43)(x8:Int):Option (Dt40×Dt47×Unit):=
 let v1:=(List.length x4:Int)
 let v2:=decide (x8<v1)
 bif v2 then(bif decide (0≤x8)&&decide (x8<(List.length x4:Int))then(let v3:=(((List.getD x4 (Int.toNat x8) zt73).2).1).1
 let v4:=(((List.getD x4 (Int.toNat x8) zt73).2).1).2
 let v5:=((List.getD x4 (Int.toNat x8) zt73).2).2
 let v6:=([(1:Int)]:List Int)
 (r03_Mul.F (((v3,v4),v5),((false,x5),v6),())).bind fun y7=>
 (r01_Gcd.F (x7,y7.1.1.2,())).bind fun y8=>
 let v9:=IntKind.i64.wrap (x8+(1:Int))
 f11 x3_0 x4 x5 y8.1 v9)
 else none)
 else(bif decide (0≤(0:Int))&&decide ((0:Int)<(List.length x4:Int))then(let v10:=(((List.getD x4 (Int.toNat (0:Int)) zt73).2).1).1
 let v11:=(((List.getD x4 (Int.toNat (0:Int)) zt73).2).1).2
 let v12:=((List.getD x4 (Int.toNat (0:Int)) zt73).2).2
 (r03_Sign.F (((v10,v11),v12),())).bind fun y13=>
 let v14:=decide (y13.1<(0:Int))
 (r03_Norm.F (((v14,x7),x5),())).bind fun y15=>
 (r03_Inv.F (((y15.1.1.1,y15.1.1.2),y15.1.2),())).bind fun y16=>
 (r06_Scale.F (((y16.1.1.1,y16.1.1.2),y16.1.2),x4,())).bind fun y17=>
 some (y17.1,((y15.1.1.1,y15.1.1.2),y15.1.2),()))
 else none)
def e (f6:Bool→Dt40→Dt43→Int→Option (Dt40×Dt47×Unit))(f11:Bool→Dt40→Dt43→Dt43→Int→Option (Dt40×Dt47×Unit))(a0:Dt40):Option (Dt40×Dt47×Unit):=
 (r06_Norm.F (a0,())).bind fun y1=>
 let v2:=(List.length y1.1:Int)
 let v3:=(v2==(0:Int))
 bif v3 then((r03_Whole.F ((1:Int),())).bind fun y4=>
 some (zt40,((y4.1.1.1,y4.1.1.2),y4.1.2),()))
 else(let v5:=([(1:Int)]:List Int)
 f6 false y1.1 v5 (0:Int))
def L6 (k:Nat)(x3_0:Bool)(x4:Dt40)(x5:Dt43)(x6:Int):Option (Dt40×Dt47×Unit):=heads (spec.env cals T Tryz.f72) (Func.pts Tryz.f72) k 6 (m6 x3_0 x4 x5 x6)
def L11 (k:Nat)(x3_0:Bool)(x4:Dt40)(x5:Dt43)(x7:Dt43)(x8:Int):Option (Dt40×Dt47×Unit):=heads (spec.env cals T Tryz.f72) (Func.pts Tryz.f72) k 11 (m11 x3_0 x4 x5 x7 x8)
theorem L6_succ (k:Nat)(x3_0:Bool)(x4:Dt40)(x5:Dt43)(x6:Int):L6 (k+1) x3_0 x4 x5 x6=b6 (L6 k) (L11 k) x3_0 x4 x5 x6:=by kernel_rfl
theorem L11_succ (k:Nat)(x3_0:Bool)(x4:Dt40)(x5:Dt43)(x7:Dt43)(x8:Int):L11 (k+1) x3_0 x4 x5 x7 x8=b11 (L6 k) (L11 k) x3_0 x4 x5 x7 x8:=by kernel_rfl
theorem eval (k:Nat)(a0:Dt40):evalF spec cals T Tryz.f72 k (a0,())=e (L6 k) (L11 k) a0:=by kernel_rfl
theorem of (k:Nat)(a0:Dt40){y:Dt40×Dt47×Unit}(h:e (L6 k) (L11 k) a0=some y):F (a0,())=some y:=limF_of k ((eval k a0).trans h)
end r06_Prime
namespace r17_inequality
def spec:Spec:=⟨[(true,Kt69)],[(false,.bool)],.own,fun j=>match j with|_=>[]⟩
def cals:Cals:=(Cals.cons 72 r06_Prime.sig (Cals.cons 88 r07_SameForm.sig (Cals.cons 77 r03_Norm.sig (Cals.cons 119 r03_Same.sig (Cals.base tabs)))))
def sig:Sig:=spec.sig cals T Tryz.f86
def F (x:Dt69×Unit):Option (Bool×Unit):=limF spec cals T Tryz.f86 x
theorem ck:CalsOk Tryz.prog cals:=(CalsOk.cons r06_Prime.cal (CalsOk.cons r07_SameForm.cal (CalsOk.cons r03_Norm.cal (CalsOk.cons r03_Same.cal (CalsOk.base tabsOk)))))
theorem cal:CalOk Tryz.prog tabs 86 sig:=calOk_lim' tabOk ck mix Tryz.func86 (by kernel_rfl) (by kernel_rfl) (by kernel_rfl) (by kernel_rfl)
def e (a0:Dt69):Option (Bool×Unit):=
 (r06_Prime.F (a0.2.1,())).bind fun y1=>
 let v2:=(a0.1.toList==(⟨#[]⟩:ByteArray).toList)
 bif v2 then(let v3:=(List.length a0.2.1:Int)
 let v4:=decide (v3>(0:Int))
 bif v4 then((r07_SameForm.F (a0.2.1,y1.1,())).bind fun y5=>
 bif y5.1 then((r03_Norm.F (((a0.2.2.1.1.1,a0.2.2.1.1.2),a0.2.2.1.2),())).bind fun y6=>
 (r03_Same.F (((a0.2.2.1.1.1,a0.2.2.1.1.2),a0.2.2.1.2),((y6.1.1.1,y6.1.1.2),y6.1.2),())).bind fun y7=>
 some (y7.1,()))
 else(some (false,())))
 else(some (false,())))
 else(some (false,()))
theorem eval (k:Nat)(a0:Dt69):evalF spec cals T Tryz.f86 k (a0,())=e a0:=by kernel_rfl
theorem of (k:Nat)(a0:Dt69){y:Bool×Unit}(h:e a0=some y):F (a0,())=some y:=limF_of k ((eval k a0).trans h)
end r17_inequality
namespace r17_Check
def spec:Spec:=⟨[(false,Kt22)],[(false,(.int .i64))],.own,fun j=>match j with|4=>[(0,.lf (.z 69 Kt69 false)),(3,.lf (.v true))]|9=>[(0,.lf (.z 69 Kt69 false)),(3,.lf (.v true)),(4,.lf (.v true))]|_=>[]⟩
def cals:Cals:=(Cals.cons 84 r17_truth.sig (Cals.cons 85 r17_constant.sig (Cals.cons 86 r17_inequality.sig (Cals.cons 69 r17_Alike.sig (Cals.base tabs)))))
def sig:Sig:=spec.sig cals T Tryz.f37
def F (x:Dt22×Unit):Option (Int×Unit):=limF spec cals T Tryz.f37 x
theorem ck:CalsOk Tryz.prog cals:=(CalsOk.cons r17_truth.cal (CalsOk.cons r17_constant.cal (CalsOk.cons r17_inequality.cal (CalsOk.cons r17_Alike.cal (CalsOk.base tabsOk)))))
theorem cal:CalOk Tryz.prog tabs 37 sig:=calOk_lim' tabOk ck mix Tryz.func37 (by kernel_rfl) (by kernel_rfl) (by kernel_rfl) (by kernel_rfl)
def m4 (x0:Dt22)(x3:Int):S:=⟨[(0,.one (.lf (.val false Kt22 x0))),(3,.one (.lf (.val true (.int .i64) x3)))],⟨[],[]⟩⟩
def m9 (x0:Dt22)(x3:Int)(x4:Int):S:=⟨[(0,.one (.lf (.val false Kt22 x0))),(3,.one (.lf (.val true (.int .i64) x3))),(4,.one (.lf (.val true (.int .i64) x4)))],⟨[],[]⟩⟩
def b4 (f4:Dt22→Int→Option (Int×Unit))(f9:Dt22→Int→Int→Option (Int×Unit))(x0:Dt22)(x3:Int):Option (Int×Unit):=
 let v1:=(List.length x0:Int)
 let v2:=decide (x3<v1)
 bif v2 then(bif decide (0≤x3)&&decide (x3<(List.length x0:Int))then(let v3:=(List.getD x0 (Int.toNat x3) zt69).1
 let v4:=((List.getD x0 (Int.toNat x3) zt69).2).1
 let v5:=(((((List.getD x0 (Int.toNat x3) zt69).2).2).1).1).1
 let v6:=(((((List.getD x0 (Int.toNat x3) zt69).2).2).1).1).2
 let v7:=((((List.getD x0 (Int.toNat x3) zt69).2).2).1).2
 let v8:=(((List.getD x0 (Int.toNat x3) zt69).2).2).2
 (r17_constant.F ((v3,(v4,(((v5,v6),v7),v8))),())).bind fun y9=>
 let v10:=not y9.1
 bif v10 then(bif decide (0≤x3)&&decide (x3<(List.length x0:Int))then(let v11:=(List.getD x0 (Int.toNat x3) zt69).1
 let v12:=((List.getD x0 (Int.toNat x3) zt69).2).1
 let v13:=(((((List.getD x0 (Int.toNat x3) zt69).2).2).1).1).1
 let v14:=(((((List.getD x0 (Int.toNat x3) zt69).2).2).1).1).2
 let v15:=((((List.getD x0 (Int.toNat x3) zt69).2).2).1).2
 let v16:=(((List.getD x0 (Int.toNat x3) zt69).2).2).2
 (r17_inequality.F ((v11,(v12,(((v13,v14),v15),v16))),())).bind fun y17=>
 let v18:=not y17.1
 bif v18 then(some ((170:Int),()))
 else(f9 x0 x3 (0:Int)))
 else none)
 else(f9 x0 x3 (0:Int)))
 else none)
 else(some ((0:Int),()))
def b9 (f4:Dt22→Int→Option (Int×Unit))(f9:Dt22→Int→Int→Option (Int×Unit))(x0:Dt22)(x3:Int)(x4:Int):Option (Int×Unit):=
 let v1:=decide (x4<x3)
 bif v1 then(bif decide (0≤x3)&&decide (x3<(List.length x0:Int))then(let v2:=(List.getD x0 (Int.toNat x3) zt69).1
 let v3:=((List.getD x0 (Int.toNat x3) zt69).2).1
 let v4:=(((((List.getD x0 (Int.toNat x3) zt69).2).2).1).1).1
 let v5:=(((((List.getD x0 (Int.toNat x3) zt69).2).2).1).1).2
 let v6:=((((List.getD x0 (Int.toNat x3) zt69).2).2).1).2
 let v7:=(((List.getD x0 (Int.toNat x3) zt69).2).2).2
 bif decide (0≤x4)&&decide (x4<(List.length x0:Int))then(let v8:=(List.getD x0 (Int.toNat x4) zt69).1
 let v9:=((List.getD x0 (Int.toNat x4) zt69).2).1
 let v10:=(((((List.getD x0 (Int.toNat x4) zt69).2).2).1).1).1
 let v11:=(((((List.getD x0 (Int.toNat x4) zt69).2).2).1).1).2
 let v12:=((((List.getD x0 (Int.toNat x4) zt69).2).2).1).2
 let v13:=(((List.getD x0 (Int.toNat x4) zt69).2).2).2
 (r17_Alike.F ((v2,(v3,(((v4,v5),v6),v7))),(v8,(v9,(((v10,v11),v12),v13))),())).bind fun y14=>
 bif y14.1 then(some ((170:Int),()))
 else(let v15:=IntKind.i64.wrap (x4+(1:Int))
 f9 x0 x3 v15))
 else none)
 else none)
 else(let v16:=IntKind.i64.wrap (x3+(1:Int))
 f4 x0 v16)
def e (f4:Dt22→Int→Option (Int×Unit))(f9:Dt22→Int→Int→Option (Int×Unit))(a0:Dt22):Option (Int×Unit):=
 let v1:=(List.length a0:Int)
 let v2:=(v1==(0:Int))
 bif v2 then(some ((170:Int),()))
 else(let v3:=(List.length a0:Int)
 let v4:=decide (v3>(262144:Int))
 bif v4 then(some ((170:Int),()))
 else(bif decide (0≤(0:Int))&&decide ((0:Int)<(List.length a0:Int))then(let v5:=(List.getD a0 (Int.toNat (0:Int)) zt69).1
 let v6:=((List.getD a0 (Int.toNat (0:Int)) zt69).2).1
 let v7:=(((((List.getD a0 (Int.toNat (0:Int)) zt69).2).2).1).1).1
 let v8:=(((((List.getD a0 (Int.toNat (0:Int)) zt69).2).2).1).1).2
 let v9:=((((List.getD a0 (Int.toNat (0:Int)) zt69).2).2).1).2
 let v10:=(((List.getD a0 (Int.toNat (0:Int)) zt69).2).2).2
 (r17_truth.F ((v5,(v6,(((v7,v8),v9),v10))),())).bind fun y11=>
 let v12:=not y11.1
 bif v12 then(some ((170:Int),()))
 else(f4 a0 (1:Int)))
 else none))
def L4 (k:Nat)(x0:Dt22)(x3:Int):Option (Int×Unit):=heads (spec.env cals T Tryz.f37) (Func.pts Tryz.f37) k 4 (m4 x0 x3)
def L9 (k:Nat)(x0:Dt22)(x3:Int)(x4:Int):Option (Int×Unit):=heads (spec.env cals T Tryz.f37) (Func.pts Tryz.f37) k 9 (m9 x0 x3 x4)
theorem L4_succ (k:Nat)(x0:Dt22)(x3:Int):L4 (k+1) x0 x3=b4 (L4 k) (L9 k) x0 x3:=by kernel_rfl
theorem L9_succ (k:Nat)(x0:Dt22)(x3:Int)(x4:Int):L9 (k+1) x0 x3 x4=b9 (L4 k) (L9 k) x0 x3 x4:=by kernel_rfl
theorem eval (k:Nat)(a0:Dt22):evalF spec cals T Tryz.f37 k (a0,())=e (L4 k) (L9 k) a0:=by kernel_rfl
theorem of (k:Nat)(a0:Dt22){y:Int×Unit}(h:e (L4 k) (L9 k) a0=some y):F (a0,())=some y:=limF_of k ((eval k a0).trans h)
end r17_Check
namespace r17_At
def spec:Spec:=⟨[(false,Kt22),(false,(.int .i64))],[(true,Kt69),(false,.bool),(false,.bool)],.shared,fun j=>match j with|_=>[]⟩
def cals:Cals:=(Cals.base tabs)
def sig:Sig:=spec.sig cals T Tryz.f59
def F (x:Dt22×Int×Unit):Option (Dt69×Bool×Bool×Unit):=limF spec cals T Tryz.f59 x
theorem ck:CalsOk Tryz.prog cals:=(CalsOk.base tabsOk)
theorem cal:CalOk Tryz.prog tabs 59 sig:=calOk_lim' tabOk ck mix Tryz.func59 (by kernel_rfl) (by kernel_rfl) (by kernel_rfl) (by kernel_rfl)
def e (a0:Dt22)(a1:Int):Option (Dt69×Bool×Bool×Unit):=
 let v1:=decide (a1>(0:Int))
 bif v1 then(let v2:=(List.length a0:Int)
 let v3:=decide (a1≤v2)
 bif v3 then(let v4:=IntKind.i64.wrap (a1-(1:Int))
 bif decide (0≤v4)&&decide (v4<(List.length a0:Int))then(let v5:=(List.getD a0 (Int.toNat v4) zt69).1
 let v6:=((List.getD a0 (Int.toNat v4) zt69).2).1
 let v7:=(((((List.getD a0 (Int.toNat v4) zt69).2).2).1).1).1
 let v8:=(((((List.getD a0 (Int.toNat v4) zt69).2).2).1).1).2
 let v9:=((((List.getD a0 (Int.toNat v4) zt69).2).2).1).2
 let v10:=(((List.getD a0 (Int.toNat v4) zt69).2).2).2
 some ((v5,(v6,(((v7,v8),v9),v10))),true,true,()))
 else none)
 else(let v11:=decide (a1<(0:Int))
 bif v11 then(let v12:=(List.length a0:Int)
 let v13:=negI .i64 v12
 let v14:=decide (a1≥v13)
 bif v14 then(let v15:=negI .i64 a1
 let v16:=IntKind.i64.wrap (v15-(1:Int))
 bif decide (0≤v16)&&decide (v16<(List.length a0:Int))then(let v17:=(List.getD a0 (Int.toNat v16) zt69).1
 let v18:=((List.getD a0 (Int.toNat v16) zt69).2).1
 let v19:=(((((List.getD a0 (Int.toNat v16) zt69).2).2).1).1).1
 let v20:=(((((List.getD a0 (Int.toNat v16) zt69).2).2).1).1).2
 let v21:=((((List.getD a0 (Int.toNat v16) zt69).2).2).1).2
 let v22:=(((List.getD a0 (Int.toNat v16) zt69).2).2).2
 some ((v17,(v18,(((v19,v20),v21),v22))),false,true,()))
 else none)
 else(some (zt69,false,false,())))
 else(some (zt69,false,false,()))))
 else(let v23:=decide (a1<(0:Int))
 bif v23 then(let v24:=(List.length a0:Int)
 let v25:=negI .i64 v24
 let v26:=decide (a1≥v25)
 bif v26 then(let v27:=negI .i64 a1
 let v28:=IntKind.i64.wrap (v27-(1:Int))
 bif decide (0≤v28)&&decide (v28<(List.length a0:Int))then(let v29:=(List.getD a0 (Int.toNat v28) zt69).1
 let v30:=((List.getD a0 (Int.toNat v28) zt69).2).1
 let v31:=(((((List.getD a0 (Int.toNat v28) zt69).2).2).1).1).1
 let v32:=(((((List.getD a0 (Int.toNat v28) zt69).2).2).1).1).2
 let v33:=((((List.getD a0 (Int.toNat v28) zt69).2).2).1).2
 let v34:=(((List.getD a0 (Int.toNat v28) zt69).2).2).2
 some ((v29,(v30,(((v31,v32),v33),v34))),false,true,()))
 else none)
 else(some (zt69,false,false,())))
 else(some (zt69,false,false,())))
theorem eval (k:Nat)(a0:Dt22)(a1:Int):evalF spec cals T Tryz.f59 k (a0,a1,())=e a0 a1:=by kernel_rfl
theorem of (k:Nat)(a0:Dt22)(a1:Int){y:Dt69×Bool×Bool×Unit}(h:e a0 a1=some y):F (a0,a1,())=some y:=limF_of k ((eval k a0 a1).trans h)
end r17_At
namespace r02_Neg
def spec:Spec:=⟨[(true,Kt45)],[(true,Kt45)],.own,fun j=>match j with|_=>[]⟩
def cals:Cals:=(Cals.cons 127 r02_made.sig (Cals.base tabs))
def sig:Sig:=spec.sig cals T Tryz.f89
def F (x:Dt45×Unit):Option (Dt45×Unit):=limF spec cals T Tryz.f89 x
theorem ck:CalsOk Tryz.prog cals:=(CalsOk.cons r02_made.cal (CalsOk.base tabsOk))
theorem cal:CalOk Tryz.prog tabs 89 sig:=calOk_lim' tabOk ck mix Tryz.func89 (by kernel_rfl) (by kernel_rfl) (by kernel_rfl) (by kernel_rfl)
def e (a0:Dt45):Option (Dt45×Unit):=
 let v1:=not a0.1
 (r02_made.F (v1,a0.2,())).bind fun y2=>
 some ((y2.1.1,y2.1.2),())
theorem eval (k:Nat)(a0:Dt45):evalF spec cals T Tryz.f89 k (a0,())=e a0:=by kernel_rfl
theorem of (k:Nat)(a0:Dt45){y:Dt45×Unit}(h:e a0=some y):F (a0,())=some y:=limF_of k ((eval k a0).trans h)
end r02_Neg
namespace r03_Neg
def spec:Spec:=⟨[(true,Kt47)],[(true,Kt47)],.own,fun j=>match j with|_=>[]⟩
def cals:Cals:=(Cals.cons 77 r03_Norm.sig (Cals.cons 89 r02_Neg.sig (Cals.base tabs)))
def sig:Sig:=spec.sig cals T Tryz.f43
def F (x:Dt47×Unit):Option (Dt47×Unit):=limF spec cals T Tryz.f43 x
theorem ck:CalsOk Tryz.prog cals:=(CalsOk.cons r03_Norm.cal (CalsOk.cons r02_Neg.cal (CalsOk.base tabsOk)))
theorem cal:CalOk Tryz.prog tabs 43 sig:=calOk_lim' tabOk ck mix Tryz.func43 (by kernel_rfl) (by kernel_rfl) (by kernel_rfl) (by kernel_rfl)
def e (a0:Dt47):Option (Dt47×Unit):=
 (r03_Norm.F (((a0.1.1,a0.1.2),a0.2),())).bind fun y1=>
 (r02_Neg.F ((y1.1.1.1,y1.1.1.2),())).bind fun y2=>
 (r03_Norm.F (((y2.1.1,y2.1.2),y1.1.2),())).bind fun y3=>
 some (((y3.1.1.1,y3.1.1.2),y3.1.2),())
theorem eval (k:Nat)(a0:Dt47):evalF spec cals T Tryz.f43 k (a0,())=e a0:=by kernel_rfl
theorem of (k:Nat)(a0:Dt47){y:Dt47×Unit}(h:e a0=some y):F (a0,())=some y:=limF_of k ((eval k a0).trans h)
end r03_Neg
namespace r03_Sub
def spec:Spec:=⟨[(true,Kt47),(true,Kt47)],[(true,Kt47)],.own,fun j=>match j with|_=>[]⟩
def cals:Cals:=(Cals.cons 43 r03_Neg.sig (Cals.cons 44 r03_Add.sig (Cals.base tabs)))
def sig:Sig:=spec.sig cals T Tryz.f45
def F (x:Dt47×Dt47×Unit):Option (Dt47×Unit):=limF spec cals T Tryz.f45 x
theorem ck:CalsOk Tryz.prog cals:=(CalsOk.cons r03_Neg.cal (CalsOk.cons r03_Add.cal (CalsOk.base tabsOk)))
theorem cal:CalOk Tryz.prog tabs 45 sig:=calOk_lim' tabOk ck mix Tryz.func45 (by kernel_rfl) (by kernel_rfl) (by kernel_rfl) (by kernel_rfl)
def e (a0:Dt47)(a1:Dt47):Option (Dt47×Unit):=
 (r03_Neg.F (((a1.1.1,a1.1.2),a1.2),())).bind fun y1=>
 (r03_Add.F (((a0.1.1,a0.1.2),a0.2),((y1.1.1.1,y1.1.1.2),y1.1.2),())).bind fun y2=>
 some (((y2.1.1.1,y2.1.1.2),y2.1.2),())
theorem eval (k:Nat)(a0:Dt47)(a1:Dt47):evalF spec cals T Tryz.f45 k (a0,a1,())=e a0 a1:=by kernel_rfl
theorem of (k:Nat)(a0:Dt47)(a1:Dt47){y:Dt47×Unit}(h:e a0 a1=some y):F (a0,a1,())=some y:=limF_of k ((eval k a0 a1).trans h)
end r03_Sub
namespace r03_Cmp
def spec:Spec:=⟨[(true,Kt47),(true,Kt47)],[(false,(.int .i64))],.own,fun j=>match j with|_=>[]⟩
def cals:Cals:=(Cals.cons 45 r03_Sub.sig (Cals.cons 27 r03_Sign.sig (Cals.base tabs)))
def sig:Sig:=spec.sig cals T Tryz.f60
def F (x:Dt47×Dt47×Unit):Option (Int×Unit):=limF spec cals T Tryz.f60 x
theorem ck:CalsOk Tryz.prog cals:=(CalsOk.cons r03_Sub.cal (CalsOk.cons r03_Sign.cal (CalsOk.base tabsOk)))
theorem cal:CalOk Tryz.prog tabs 60 sig:=calOk_lim' tabOk ck mix Tryz.func60 (by kernel_rfl) (by kernel_rfl) (by kernel_rfl) (by kernel_rfl)
def e (a0:Dt47)(a1:Dt47):Option (Int×Unit):=
 (r03_Sub.F (((a0.1.1,a0.1.2),a0.2),((a1.1.1,a1.1.2),a1.2),())).bind fun y1=>
 (r03_Sign.F (((y1.1.1.1,y1.1.1.2),y1.1.2),())).bind fun y2=>
 some (y2.1,())
theorem eval (k:Nat)(a0:Dt47)(a1:Dt47):evalF spec cals T Tryz.f60 k (a0,a1,())=e a0 a1:=by kernel_rfl
theorem of (k:Nat)(a0:Dt47)(a1:Dt47){y:Int×Unit}(h:e a0 a1=some y):F (a0,a1,())=some y:=limF_of k ((eval k a0 a1).trans h)
end r03_Cmp
namespace r06_Value
def spec:Spec:=⟨[(false,Kt40),(false,Kt23)],[(true,Kt47)],.own,fun j=>match j with|3=>[(0,.lf (.z 73 Kt73 false)),(1,.lf (.z 47 Kt47 false)),(4,.box 47 [.v true,.v true,.v true]),(5,.box 47 [.v true,.o 86 (.int .u32) true,.o 86 (.int .u32) true]),(6,.lf (.v true))]|_=>[]⟩
def cals:Cals:=(Cals.cons 108 r06_zero.sig (Cals.cons 29 r03_Mul.sig (Cals.cons 44 r03_Add.sig (Cals.base tabs))))
def sig:Sig:=spec.sig cals T Tryz.f61
def F (x:Dt40×Dt23×Unit):Option (Dt47×Unit):=limF spec cals T Tryz.f61 x
theorem ck:CalsOk Tryz.prog cals:=(CalsOk.cons r06_zero.cal (CalsOk.cons r03_Mul.cal (CalsOk.cons r03_Add.cal (CalsOk.base tabsOk))))
theorem cal:CalOk Tryz.prog tabs 61 sig:=calOk_lim' tabOk ck mix Tryz.func61 (by kernel_rfl) (by kernel_rfl) (by kernel_rfl) (by kernel_rfl)
def m3 (x0:Dt40)(x1:Dt23)(x4_0:Bool)(x5_0:Bool)(x5_1:Dt43)(x5_2:Dt43)(x6:Int):S:=⟨[(0,.one (.lf (.val false Kt40 x0))),(1,.one (.lf (.val false Kt23 x1))),(4,.box 0 0),(5,.box 1 0),(6,.one (.lf (.val true (.int .i64) x6)))],⟨[some ⟨86,(.int .u32),true,true,x5_1⟩,some ⟨86,(.int .u32),true,true,x5_2⟩],[some ⟨47,[.val true .bool x4_0,.nil,.nil]⟩,some ⟨47,[.val true .bool x5_0,.own 0,.own 1]⟩]⟩⟩
def b3 (f3:Dt40→Dt23→Bool→Bool→Dt43→Dt43→Int→Option (Dt47×Unit))(x0:Dt40)(x1:Dt23)(x4_0:Bool)(x5_0:Bool)(x5_1:Dt43)(x5_2:Dt43)(x6:Int):Option (Dt47×Unit):=
 let v1:=(List.length x0:Int)
 let v2:=decide (x6<v1)
 bif v2 then(bif decide (0≤x6)&&decide (x6<(List.length x0:Int))then(let v3:=(List.getD x0 (Int.toNat x6) zt73).1
 let v4:=decide (v3≥(0:Int))
 bif v4 then(bif decide (0≤x6)&&decide (x6<(List.length x0:Int))then(let v5:=(List.getD x0 (Int.toNat x6) zt73).1
 let v6:=(List.length x1:Int)
 let v7:=decide (v5<v6)
 bif v7 then(bif decide (0≤x6)&&decide (x6<(List.length x0:Int))then(let v8:=(((List.getD x0 (Int.toNat x6) zt73).2).1).1
 let v9:=(((List.getD x0 (Int.toNat x6) zt73).2).1).2
 let v10:=((List.getD x0 (Int.toNat x6) zt73).2).2
 bif decide (0≤x6)&&decide (x6<(List.length x0:Int))then(let v11:=(List.getD x0 (Int.toNat x6) zt73).1
 bif decide (0≤v11)&&decide (v11<(List.length x1:Int))then(let v12:=((List.getD x1 (Int.toNat v11) zt47).1).1
 let v13:=((List.getD x1 (Int.toNat v11) zt47).1).2
 let v14:=(List.getD x1 (Int.toNat v11) zt47).2
 (r03_Mul.F (((v8,v9),v10),((v12,v13),v14),())).bind fun y15=>
 (r03_Add.F (((x5_0,x5_1),x5_2),((y15.1.1.1,y15.1.1.2),y15.1.2),())).bind fun y16=>
 let v17:=IntKind.i64.wrap (x6+(1:Int))
 f3 x0 x1 x4_0 y16.1.1.1 y16.1.1.2 y16.1.2 v17)
 else none)
 else none)
 else none)
 else(let v18:=IntKind.i64.wrap (x6+(1:Int))
 f3 x0 x1 x4_0 x5_0 x5_1 x5_2 v18))
 else none)
 else(let v19:=IntKind.i64.wrap (x6+(1:Int))
 f3 x0 x1 x4_0 x5_0 x5_1 x5_2 v19))
 else none)
 else(some (((x5_0,x5_1),x5_2),()))
def e (f3:Dt40→Dt23→Bool→Bool→Dt43→Dt43→Int→Option (Dt47×Unit))(a0:Dt40)(a1:Dt23):Option (Dt47×Unit):=
 (r06_zero.F ()).bind fun y1=>
 f3 a0 a1 false y1.1.1.1 y1.1.1.2 y1.1.2 (0:Int)
def L3 (k:Nat)(x0:Dt40)(x1:Dt23)(x4_0:Bool)(x5_0:Bool)(x5_1:Dt43)(x5_2:Dt43)(x6:Int):Option (Dt47×Unit):=heads (spec.env cals T Tryz.f61) (Func.pts Tryz.f61) k 3 (m3 x0 x1 x4_0 x5_0 x5_1 x5_2 x6)
theorem L3_succ (k:Nat)(x0:Dt40)(x1:Dt23)(x4_0:Bool)(x5_0:Bool)(x5_1:Dt43)(x5_2:Dt43)(x6:Int):L3 (k+1) x0 x1 x4_0 x5_0 x5_1 x5_2 x6=b3 (L3 k) x0 x1 x4_0 x5_0 x5_1 x5_2 x6:=by kernel_rfl
theorem eval (k:Nat)(a0:Dt40)(a1:Dt23):evalF spec cals T Tryz.f61 k (a0,a1,())=e (L3 k) a0 a1:=by kernel_rfl
theorem of (k:Nat)(a0:Dt40)(a1:Dt23){y:Dt47×Unit}(h:e (L3 k) a0 a1=some y):F (a0,a1,())=some y:=limF_of k ((eval k a0 a1).trans h)
end r06_Value
namespace r17_Holds
def spec:Spec:=⟨[(false,Kt22),(false,(.int .i64)),(false,Kt23),(false,Kt24)],[(false,.bool),(false,(.int .i64))],.own,fun j=>match j with|8=>[(3,.lf (.z 103 Kt103 false)),(10,.box 69 [.v false,.z 73 Kt73 false,.v false,.z 86 (.int .u32) false,.z 86 (.int .u32) false,.v false]),(11,.lf (.v false)),(14,.lf (.v true))]|_=>[]⟩
def cals:Cals:=(Cals.cons 59 r17_At.sig (Cals.cons 37 r17_Check.sig (Cals.cons 61 r06_Value.sig (Cals.cons 60 r03_Cmp.sig (Cals.base tabs)))))
def sig:Sig:=spec.sig cals T Tryz.f18
def F (x:Dt22×Int×Dt23×Dt24×Unit):Option (Bool×Int×Unit):=limF spec cals T Tryz.f18 x
theorem ck:CalsOk Tryz.prog cals:=(CalsOk.cons r17_At.cal (CalsOk.cons r17_Check.cal (CalsOk.cons r06_Value.cal (CalsOk.cons r03_Cmp.cal (CalsOk.base tabsOk)))))
theorem cal:CalOk Tryz.prog tabs 18 sig:=calOk_lim' tabOk ck mix Tryz.func18 (by kernel_rfl) (by kernel_rfl) (by kernel_rfl) (by kernel_rfl)
def m8 (x3:Dt24)(x10_0:ByteArray)(x10_1:Dt40)(x10_2:Bool)(x10_3:Dt43)(x10_4:Dt43)(x10_5:Bool)(x11:Bool)(x14:Int):S:=⟨[(3,.one (.lf (.val false Kt24 x3))),(10,.box 0 0),(11,.one (.lf (.val false .bool x11))),(14,.one (.lf (.val true (.int .i64) x14)))],⟨[],[some ⟨69,[.val false .str x10_0,.val false Kt40 x10_1,.val false .bool x10_2,.val false Kt43 x10_3,.val false Kt43 x10_4,.val false .bool x10_5]⟩]⟩⟩
def b8 (f8:Dt24→ByteArray→Dt40→Bool→Dt43→Dt43→Bool→Bool→Int→Option (Bool×Int×Unit))(x3:Dt24)(x10_0:ByteArray)(x10_1:Dt40)(x10_2:Bool)(x10_3:Dt43)(x10_4:Dt43)(x10_5:Bool)(x11:Bool)(x14:Int):Option (Bool×Int×Unit):=
 let v1:=(List.length x3:Int)
 let v2:=decide (x14<v1)
 bif v2 then(bif decide (0≤x14)&&decide (x14<(List.length x3:Int))then(let v3:=(List.getD x3 (Int.toNat x14) zt103).1
 let v4:=(v3.toList==x10_0.toList)
 bif v4 then(bif decide (0≤x14)&&decide (x14<(List.length x3:Int))then(let v5:=((List.getD x3 (Int.toNat x14) zt103).2).1
 let v6:=(v5 != (1:Int))
 bif v6 then(some (false,(150:Int),()))
 else(bif decide (0≤x14)&&decide (x14<(List.length x3:Int))then(let v7:=(((List.getD x3 (Int.toNat x14) zt103).2).2).1
 let v8:=(v7==x11)
 some (v8,(0:Int),()))
 else none))
 else none)
 else(let v9:=IntKind.i64.wrap (x14+(1:Int))
 f8 x3 x10_0 x10_1 x10_2 x10_3 x10_4 x10_5 x11 v9))
 else none)
 else(some (false,(150:Int),()))
def e (f8:Dt24→ByteArray→Dt40→Bool→Dt43→Dt43→Bool→Bool→Int→Option (Bool×Int×Unit))(a0:Dt22)(a1:Int)(a2:Dt23)(a3:Dt24):Option (Bool×Int×Unit):=
 (r17_At.F (a0,a1,())).bind fun y1=>
 (r17_Check.F (a0,())).bind fun y2=>
 let v3:=(y2.1 != (0:Int))
 bif v3 then(some (false,(170:Int),()))
 else(let v4:=not y1.2.2.1
 bif v4 then(some (false,(170:Int),()))
 else(let v5:=(y1.1.1.toList==(⟨#[]⟩:ByteArray).toList)
 bif v5 then((r06_Value.F (y1.1.2.1,a2,())).bind fun y6=>
 (r03_Cmp.F (((y6.1.1.1,y6.1.1.2),y6.1.2),((y1.1.2.2.1.1.1,y1.1.2.2.1.1.2),y1.1.2.2.1.2),())).bind fun y7=>
 let v8:=decide (y7.1<(0:Int))
 bif v8 then(let v9:=(true==y1.2.1)
 some (v9,(0:Int),()))
 else(let v10:=(y7.1==(0:Int))
 bif v10 then(let v11:=not y1.1.2.2.2
 let v12:=(v11==y1.2.1)
 some (v12,(0:Int),()))
 else(let v13:=(false==y1.2.1)
 some (v13,(0:Int),()))))
 else(f8 a3 y1.1.1 y1.1.2.1 y1.1.2.2.1.1.1 y1.1.2.2.1.1.2 y1.1.2.2.1.2 y1.1.2.2.2 y1.2.1 (0:Int))))
def L8 (k:Nat)(x3:Dt24)(x10_0:ByteArray)(x10_1:Dt40)(x10_2:Bool)(x10_3:Dt43)(x10_4:Dt43)(x10_5:Bool)(x11:Bool)(x14:Int):Option (Bool×Int×Unit):=heads (spec.env cals T Tryz.f18) (Func.pts Tryz.f18) k 8 (m8 x3 x10_0 x10_1 x10_2 x10_3 x10_4 x10_5 x11 x14)
theorem L8_succ (k:Nat)(x3:Dt24)(x10_0:ByteArray)(x10_1:Dt40)(x10_2:Bool)(x10_3:Dt43)(x10_4:Dt43)(x10_5:Bool)(x11:Bool)(x14:Int):L8 (k+1) x3 x10_0 x10_1 x10_2 x10_3 x10_4 x10_5 x11 x14=b8 (L8 k) x3 x10_0 x10_1 x10_2 x10_3 x10_4 x10_5 x11 x14:=by kernel_rfl
theorem eval (k:Nat)(a0:Dt22)(a1:Int)(a2:Dt23)(a3:Dt24):evalF spec cals T Tryz.f18 k (a0,a1,a2,a3,())=e (L8 k) a0 a1 a2 a3:=by kernel_rfl
theorem of (k:Nat)(a0:Dt22)(a1:Int)(a2:Dt23)(a3:Dt24){y:Bool×Int×Unit}(h:e (L8 k) a0 a1 a2 a3=some y):F (a0,a1,a2,a3,())=some y:=limF_of k ((eval k a0 a1 a2 a3).trans h)
end r17_Holds
namespace atoms_New
def spec:Spec:=⟨[],[(false,Kt22)],.own,fun j=>match j with|_=>[]⟩
def cals:Cals:=(Cals.cons 62 ratio_Whole.sig (Cals.base tabs))
def sig:Sig:=spec.sig cals T Tryz.f20
def F (x:Unit):Option (Dt22×Unit):=limF spec cals T Tryz.f20 x
theorem ck:CalsOk Tryz.prog cals:=(CalsOk.cons ratio_Whole.cal (CalsOk.base tabsOk))
theorem cal:CalOk Tryz.prog tabs 20 sig:=calOk_lim' tabOk ck mix Tryz.func20 (by kernel_rfl) (by kernel_rfl) (by kernel_rfl) (by kernel_rfl)
def e:Option (Dt22×Unit):=
 (ratio_Whole.F ((0:Int),())).bind fun y1=>
 let v2:=([(ByteArray.empty,(zt40,(((y1.1.1.1,y1.1.1.2),y1.1.2),false)))]:List Dt69)
 some (v2,())
theorem eval (k:Nat):evalF spec cals T Tryz.f20 k ()=e:=by kernel_rfl
theorem of (k:Nat){y:Dt22×Unit}(h:e=some y):F ()=some y:=limF_of k ((eval k).trans h)
end atoms_New
namespace atoms_put
def spec:Spec:=⟨[(false,Kt22),(false,.mp),(true,Kt69)],[(false,Kt22),(false,(.int .i64)),(false,(.int .i64))],.shared,fun j=>match j with|7=>[(5,.box 69 [.v true,.z 73 Kt73 true,.v true,.z 86 (.int .u32) true,.z 86 (.int .u32) true,.v true]),(9,.lf (.v true)),(10,.lf (.v true)),(11,.lf (.o 69 Kt69 true)),(37,.lf (.v true)),(38,.lf (.v true))]|_=>[]⟩
def cals:Cals:=(Cals.cons 66 atoms_key.sig (Cals.cons 117 atoms_own.sig (Cals.base tabs)))
def sig:Sig:=spec.sig cals T Tryz.f65
def F (x:Dt22×(List (ByteArray×Int))×Dt69×Unit):Option (Dt22×Int×Int×Unit):=limF spec cals T Tryz.f65 x
theorem ck:CalsOk Tryz.prog cals:=(CalsOk.cons atoms_key.cal (CalsOk.cons atoms_own.cal (CalsOk.base tabsOk)))
theorem cal:CalOk Tryz.prog tabs 65 sig:=calOk_lim' tabOk ck mix Tryz.func65 (by kernel_rfl) (by kernel_rfl) (by kernel_rfl) (by kernel_rfl)
def m7 (x5_0:ByteArray)(x5_1:Dt40)(x5_2:Bool)(x5_3:Dt43)(x5_4:Dt43)(x5_5:Bool)(x9:Int)(x10:Bool)(x11:Dt22)(x37:Int)(x38:Int):S:=⟨[(5,.box 0 0),(9,.one (.lf (.val true (.int .i64) x9))),(10,.one (.lf (.val true .bool x10))),(11,.one (.lf (.own 0))),(37,.one (.lf (.val true (.int .i64) x37))),(38,.one (.lf (.val true (.int .i64) x38)))],⟨[some ⟨69,Kt69,true,true,x11⟩],[some ⟨69,[.val true .str x5_0,.val true Kt40 x5_1,.val true .bool x5_2,.val true Kt43 x5_3,.val true Kt43 x5_4,.val true .bool x5_5]⟩]⟩⟩
def b7 (f7:ByteArray→Dt40→Bool→Dt43→Dt43→Bool→Int→Bool→Dt22→Int→Int→Option (Dt22×Int×Int×Unit))(x5_0:ByteArray)(x5_1:Dt40)(x5_2:Bool)(x5_3:Dt43)(x5_4:Dt43)(x5_5:Bool)(x9:Int)(x10:Bool)(x11:Dt22)(x37:Int)(x38:Int):Option (Dt22×Int×Int×Unit):=
 let v1:=decide (x38<x37)
 bif v1 then(bif decide (0≤x38)&&decide (x38<(List.length x11:Int))then(let v2:=(List.getD x11 (Int.toNat x38) zt69).1
 let v3:=((List.getD x11 (Int.toNat x38) zt69).2).1
 let v4:=(((((List.getD x11 (Int.toNat x38) zt69).2).2).1).1).1
 let v5:=(((((List.getD x11 (Int.toNat x38) zt69).2).2).1).1).2
 let v6:=((((List.getD x11 (Int.toNat x38) zt69).2).2).1).2
 let v7:=(((List.getD x11 (Int.toNat x38) zt69).2).2).2
 (atoms_own.F ((v2,(v3,(((v4,v5),v6),v7))),())).bind fun y8=>
 bif decide (0≤x38)&&decide (x38<(List.length x11:Int))then(let v9:=List.set x11 (Int.toNat x38) (y8.1.1,(y8.1.2.1,(((y8.1.2.2.1.1.1,y8.1.2.2.1.1.2),y8.1.2.2.1.2),y8.1.2.2.2)))
 let v10:=IntKind.i64.wrap (x38+(1:Int))
 f7 x5_0 x5_1 x5_2 x5_3 x5_4 x5_5 x9 x10 v9 x37 v10)
 else none)
 else none)
 else(let v11:=not x10
 bif v11 then((atoms_own.F ((x5_0,(x5_1,(((x5_2,x5_3),x5_4),x5_5))),())).bind fun y12=>
 let v13:=([(y12.1.1,(y12.1.2.1,(((y12.1.2.2.1.1.1,y12.1.2.2.1.1.2),y12.1.2.2.1.2),y12.1.2.2.2)))]:List Dt69)
 bif decide (List.length x11+List.length v13<1353245080339)then(let v14:=List.append x11 v13
 let v15:=(List.length v14:Int)
 some (v14,v15,(0:Int),()))
 else none)
 else(some (x11,x9,(0:Int),())))
def e (f7:ByteArray→Dt40→Bool→Dt43→Dt43→Bool→Int→Bool→Dt22→Int→Int→Option (Dt22×Int×Int×Unit))(a0:Dt22)(a1:(List (ByteArray×Int)))(a2:Dt69):Option (Dt22×Int×Int×Unit):=
 (atoms_key.F ((a2.1,(a2.2.1,(((a2.2.2.1.1.1,a2.2.2.1.1.2),a2.2.2.1.2),a2.2.2.2))),())).bind fun y1=>
 let v2:=mpFind y1.1 a1
 let v3:=not (Option.isSome v2)
 bif v3 then(let v4:=(List.length a0:Int)
 let v5:=(v4==(262144:Int))
 bif v5 then(some (zt22,(0:Int),(2:Int),()))
 else(let v6:=(List.length a0:Int)
 let v7:=(List.length a0:Int)
 let v8:=IntKind.i64.wrap (v7+(1:Int))
 bif decide (0≤v6)&&(decide (v6≤v8)&&(decide (Int.toNat v8*104≤281474976710656)&&Nat.blt 0 104))then(let v9:=List.replicate (Int.toNat v6) zt69
 let v10:=List.take (List.length v9) a0++List.drop (List.length a0) v9
 let v11:=((Nat.min (List.length a0) (List.length v9):Nat):Int)
 let v12:=(List.length v10:Int)
 f7 a2.1 a2.2.1 a2.2.2.1.1.1 a2.2.2.1.1.2 a2.2.2.1.2 a2.2.2.2 (Option.getD v2 (0:Int)) (Option.isSome v2) v10 v12 (0:Int))
 else none))
 else(let v13:=(List.length a0:Int)
 let v14:=(List.length a0:Int)
 let v15:=IntKind.i64.wrap (v14+(1:Int))
 bif decide (0≤v13)&&(decide (v13≤v15)&&(decide (Int.toNat v15*104≤281474976710656)&&Nat.blt 0 104))then(let v16:=List.replicate (Int.toNat v13) zt69
 let v17:=List.take (List.length v16) a0++List.drop (List.length a0) v16
 let v18:=((Nat.min (List.length a0) (List.length v16):Nat):Int)
 let v19:=(List.length v17:Int)
 f7 a2.1 a2.2.1 a2.2.2.1.1.1 a2.2.2.1.1.2 a2.2.2.1.2 a2.2.2.2 (Option.getD v2 (0:Int)) (Option.isSome v2) v17 v19 (0:Int))
 else none)
def L7 (k:Nat)(x5_0:ByteArray)(x5_1:Dt40)(x5_2:Bool)(x5_3:Dt43)(x5_4:Dt43)(x5_5:Bool)(x9:Int)(x10:Bool)(x11:Dt22)(x37:Int)(x38:Int):Option (Dt22×Int×Int×Unit):=heads (spec.env cals T Tryz.f65) (Func.pts Tryz.f65) k 7 (m7 x5_0 x5_1 x5_2 x5_3 x5_4 x5_5 x9 x10 x11 x37 x38)
theorem L7_succ (k:Nat)(x5_0:ByteArray)(x5_1:Dt40)(x5_2:Bool)(x5_3:Dt43)(x5_4:Dt43)(x5_5:Bool)(x9:Int)(x10:Bool)(x11:Dt22)(x37:Int)(x38:Int):L7 (k+1) x5_0 x5_1 x5_2 x5_3 x5_4 x5_5 x9 x10 x11 x37 x38=b7 (L7 k) x5_0 x5_1 x5_2 x5_3 x5_4 x5_5 x9 x10 x11 x37 x38:=by kernel_rfl
theorem eval (k:Nat)(a0:Dt22)(a1:(List (ByteArray×Int)))(a2:Dt69):evalF spec cals T Tryz.f65 k (a0,a1,a2,())=e (L7 k) a0 a1 a2:=by kernel_rfl
theorem of (k:Nat)(a0:Dt22)(a1:(List (ByteArray×Int)))(a2:Dt69){y:Dt22×Int×Int×Unit}(h:e (L7 k) a0 a1 a2=some y):F (a0,a1,a2,())=some y:=limF_of k ((eval k a0 a1 a2).trans h)
end atoms_put
namespace ratio_Div
def spec:Spec:=⟨[(true,Kt47),(true,Kt47)],[(true,Kt47),(false,(.int .i64))],.own,fun j=>match j with|_=>[]⟩
def cals:Cals:=(Cals.cons 115 ratio_Inv.sig (Cals.cons 105 ratio_Mul.sig (Cals.base tabs)))
def sig:Sig:=spec.sig cals T Tryz.f67
def F (x:Dt47×Dt47×Unit):Option (Dt47×Int×Unit):=limF spec cals T Tryz.f67 x
theorem ck:CalsOk Tryz.prog cals:=(CalsOk.cons ratio_Inv.cal (CalsOk.cons ratio_Mul.cal (CalsOk.base tabsOk)))
theorem cal:CalOk Tryz.prog tabs 67 sig:=calOk_lim' tabOk ck mix Tryz.func67 (by kernel_rfl) (by kernel_rfl) (by kernel_rfl) (by kernel_rfl)
def e (a0:Dt47)(a1:Dt47):Option (Dt47×Int×Unit):=
 (ratio_Inv.F (((a1.1.1,a1.1.2),a1.2),())).bind fun y1=>
 let v2:=(y1.2.1 != (0:Int))
 bif v2 then(some (zt47,y1.2.1,()))
 else((ratio_Mul.F (((a0.1.1,a0.1.2),a0.2),((y1.1.1.1,y1.1.1.2),y1.1.2),())).bind fun y3=>
 some (((y3.1.1.1,y3.1.1.2),y3.1.2),(0:Int),()))
theorem eval (k:Nat)(a0:Dt47)(a1:Dt47):evalF spec cals T Tryz.f67 k (a0,a1,())=e a0 a1:=by kernel_rfl
theorem of (k:Nat)(a0:Dt47)(a1:Dt47){y:Dt47×Int×Unit}(h:e a0 a1=some y):F (a0,a1,())=some y:=limF_of k ((eval k a0 a1).trans h)
end ratio_Div
namespace ratio_Neg
def spec:Spec:=⟨[(true,Kt47)],[(true,Kt47)],.own,fun j=>match j with|_=>[]⟩
def cals:Cals:=(Cals.cons 101 ratio_Norm.sig (Cals.cons 118 whole_Neg.sig (Cals.base tabs)))
def sig:Sig:=spec.sig cals T Tryz.f68
def F (x:Dt47×Unit):Option (Dt47×Unit):=limF spec cals T Tryz.f68 x
theorem ck:CalsOk Tryz.prog cals:=(CalsOk.cons ratio_Norm.cal (CalsOk.cons whole_Neg.cal (CalsOk.base tabsOk)))
theorem cal:CalOk Tryz.prog tabs 68 sig:=calOk_lim' tabOk ck mix Tryz.func68 (by kernel_rfl) (by kernel_rfl) (by kernel_rfl) (by kernel_rfl)
def e (a0:Dt47):Option (Dt47×Unit):=
 (ratio_Norm.F (((a0.1.1,a0.1.2),a0.2),())).bind fun y1=>
 (whole_Neg.F ((y1.1.1.1,y1.1.1.2),())).bind fun y2=>
 some (((y2.1.1,y2.1.2),y1.1.2),())
theorem eval (k:Nat)(a0:Dt47):evalF spec cals T Tryz.f68 k (a0,())=e a0:=by kernel_rfl
theorem of (k:Nat)(a0:Dt47){y:Dt47×Unit}(h:e a0=some y):F (a0,())=some y:=limF_of k ((eval k a0).trans h)
end ratio_Neg
namespace atoms_Below
def spec:Spec:=⟨[(false,Kt22),(true,Kt49),(false,.bool)],[(false,Kt22),(false,(.int .i64)),(false,(.int .i64))],.shared,fun j=>match j with|_=>[]⟩
def cals:Cals:=(Cals.cons 52 atoms_load.sig (Cals.cons 63 linear_Prime.sig (Cals.cons 64 ratio_Sign.sig (Cals.cons 66 atoms_key.sig (Cals.cons 65 atoms_put.sig (Cals.cons 68 ratio_Neg.sig (Cals.cons 67 ratio_Div.sig (Cals.base tabs))))))))
def sig:Sig:=spec.sig cals T Tryz.f21
def F (x:Dt22×Dt49×Bool×Unit):Option (Dt22×Int×Int×Unit):=limF spec cals T Tryz.f21 x
theorem ck:CalsOk Tryz.prog cals:=(CalsOk.cons atoms_load.cal (CalsOk.cons linear_Prime.cal (CalsOk.cons ratio_Sign.cal (CalsOk.cons atoms_key.cal (CalsOk.cons atoms_put.cal (CalsOk.cons ratio_Neg.cal (CalsOk.cons ratio_Div.cal (CalsOk.base tabsOk))))))))
theorem cal:CalOk Tryz.prog tabs 21 sig:=calOk_lim' tabOk ck mix Tryz.func21 (by kernel_rfl) (by kernel_rfl) (by kernel_rfl) (by kernel_rfl)
def e (a0:Dt22)(a1:Dt49)(a2:Bool):Option (Dt22×Int×Int×Unit):=
 (atoms_load.F (a0,())).bind fun y1=>
 let v2:=not y1.2.1
 bif v2 then(some (zt22,(0:Int),(170:Int),()))
 else((linear_Prime.F (a1.1,())).bind fun y3=>
 let v4:=(List.length y3.1:Int)
 let v5:=(v4==(0:Int))
 bif v5 then((ratio_Sign.F (((a1.2.1.1,a1.2.1.2),a1.2.2),())).bind fun y6=>
 let v7:=decide (y6.1<(0:Int))
 bif v7 then(bif decide (0≤(0:Int))&&decide ((0:Int)<(List.length a0:Int))then(let v8:=(List.getD a0 (Int.toNat (0:Int)) zt69).1
 let v9:=((List.getD a0 (Int.toNat (0:Int)) zt69).2).1
 let v10:=(((((List.getD a0 (Int.toNat (0:Int)) zt69).2).2).1).1).1
 let v11:=(((((List.getD a0 (Int.toNat (0:Int)) zt69).2).2).1).1).2
 let v12:=((((List.getD a0 (Int.toNat (0:Int)) zt69).2).2).1).2
 let v13:=(((List.getD a0 (Int.toNat (0:Int)) zt69).2).2).2
 (atoms_key.F ((v8,(v9,(((v10,v11),v12),v13))),())).bind fun y14=>
 let v15:=mpPut y14.1 (1:Int) ([]:List (ByteArray×Int))
 bif decide (0≤(0:Int))&&decide ((0:Int)<(List.length a0:Int))then(let v16:=(List.getD a0 (Int.toNat (0:Int)) zt69).1
 let v17:=((List.getD a0 (Int.toNat (0:Int)) zt69).2).1
 let v18:=(((((List.getD a0 (Int.toNat (0:Int)) zt69).2).2).1).1).1
 let v19:=(((((List.getD a0 (Int.toNat (0:Int)) zt69).2).2).1).1).2
 let v20:=((((List.getD a0 (Int.toNat (0:Int)) zt69).2).2).1).2
 let v21:=(((List.getD a0 (Int.toNat (0:Int)) zt69).2).2).2
 (atoms_put.F (a0,v15,(v16,(v17,(((v18,v19),v20),v21))),())).bind fun y22=>
 some (y22.1,(1:Int),(0:Int),()))
 else none)
 else none)
 else(let v23:=(y6.1==(0:Int))
 bif v23 then(let v24:=not a2
 bif v24 then(bif decide (0≤(0:Int))&&decide ((0:Int)<(List.length a0:Int))then(let v25:=(List.getD a0 (Int.toNat (0:Int)) zt69).1
 let v26:=((List.getD a0 (Int.toNat (0:Int)) zt69).2).1
 let v27:=(((((List.getD a0 (Int.toNat (0:Int)) zt69).2).2).1).1).1
 let v28:=(((((List.getD a0 (Int.toNat (0:Int)) zt69).2).2).1).1).2
 let v29:=((((List.getD a0 (Int.toNat (0:Int)) zt69).2).2).1).2
 let v30:=(((List.getD a0 (Int.toNat (0:Int)) zt69).2).2).2
 (atoms_key.F ((v25,(v26,(((v27,v28),v29),v30))),())).bind fun y31=>
 let v32:=mpPut y31.1 (1:Int) ([]:List (ByteArray×Int))
 bif decide (0≤(0:Int))&&decide ((0:Int)<(List.length a0:Int))then(let v33:=(List.getD a0 (Int.toNat (0:Int)) zt69).1
 let v34:=((List.getD a0 (Int.toNat (0:Int)) zt69).2).1
 let v35:=(((((List.getD a0 (Int.toNat (0:Int)) zt69).2).2).1).1).1
 let v36:=(((((List.getD a0 (Int.toNat (0:Int)) zt69).2).2).1).1).2
 let v37:=((((List.getD a0 (Int.toNat (0:Int)) zt69).2).2).1).2
 let v38:=(((List.getD a0 (Int.toNat (0:Int)) zt69).2).2).2
 (atoms_put.F (a0,v32,(v33,(v34,(((v35,v36),v37),v38))),())).bind fun y39=>
 some (y39.1,(1:Int),(0:Int),()))
 else none)
 else none)
 else(bif decide (0≤(0:Int))&&decide ((0:Int)<(List.length a0:Int))then(let v40:=(List.getD a0 (Int.toNat (0:Int)) zt69).1
 let v41:=((List.getD a0 (Int.toNat (0:Int)) zt69).2).1
 let v42:=(((((List.getD a0 (Int.toNat (0:Int)) zt69).2).2).1).1).1
 let v43:=(((((List.getD a0 (Int.toNat (0:Int)) zt69).2).2).1).1).2
 let v44:=((((List.getD a0 (Int.toNat (0:Int)) zt69).2).2).1).2
 let v45:=(((List.getD a0 (Int.toNat (0:Int)) zt69).2).2).2
 (atoms_key.F ((v40,(v41,(((v42,v43),v44),v45))),())).bind fun y46=>
 let v47:=mpPut y46.1 (1:Int) ([]:List (ByteArray×Int))
 bif decide (0≤(0:Int))&&decide ((0:Int)<(List.length a0:Int))then(let v48:=(List.getD a0 (Int.toNat (0:Int)) zt69).1
 let v49:=((List.getD a0 (Int.toNat (0:Int)) zt69).2).1
 let v50:=(((((List.getD a0 (Int.toNat (0:Int)) zt69).2).2).1).1).1
 let v51:=(((((List.getD a0 (Int.toNat (0:Int)) zt69).2).2).1).1).2
 let v52:=((((List.getD a0 (Int.toNat (0:Int)) zt69).2).2).1).2
 let v53:=(((List.getD a0 (Int.toNat (0:Int)) zt69).2).2).2
 (atoms_put.F (a0,v47,(v48,(v49,(((v50,v51),v52),v53))),())).bind fun y54=>
 some (y54.1,(-1:Int),(0:Int),()))
 else none)
 else none))
 else(bif decide (0≤(0:Int))&&decide ((0:Int)<(List.length a0:Int))then(let v55:=(List.getD a0 (Int.toNat (0:Int)) zt69).1
 let v56:=((List.getD a0 (Int.toNat (0:Int)) zt69).2).1
 let v57:=(((((List.getD a0 (Int.toNat (0:Int)) zt69).2).2).1).1).1
 let v58:=(((((List.getD a0 (Int.toNat (0:Int)) zt69).2).2).1).1).2
 let v59:=((((List.getD a0 (Int.toNat (0:Int)) zt69).2).2).1).2
 let v60:=(((List.getD a0 (Int.toNat (0:Int)) zt69).2).2).2
 (atoms_key.F ((v55,(v56,(((v57,v58),v59),v60))),())).bind fun y61=>
 let v62:=mpPut y61.1 (1:Int) ([]:List (ByteArray×Int))
 bif decide (0≤(0:Int))&&decide ((0:Int)<(List.length a0:Int))then(let v63:=(List.getD a0 (Int.toNat (0:Int)) zt69).1
 let v64:=((List.getD a0 (Int.toNat (0:Int)) zt69).2).1
 let v65:=(((((List.getD a0 (Int.toNat (0:Int)) zt69).2).2).1).1).1
 let v66:=(((((List.getD a0 (Int.toNat (0:Int)) zt69).2).2).1).1).2
 let v67:=((((List.getD a0 (Int.toNat (0:Int)) zt69).2).2).1).2
 let v68:=(((List.getD a0 (Int.toNat (0:Int)) zt69).2).2).2
 (atoms_put.F (a0,v62,(v63,(v64,(((v65,v66),v67),v68))),())).bind fun y69=>
 some (y69.1,(-1:Int),(0:Int),()))
 else none)
 else none)))
 else((ratio_Neg.F (((y3.2.1.1.1,y3.2.1.1.2),y3.2.1.2),())).bind fun y70=>
 (ratio_Div.F (((a1.2.1.1,a1.2.1.2),a1.2.2),((y70.1.1.1,y70.1.1.2),y70.1.2),())).bind fun y71=>
 (ratio_Sign.F (((y3.2.1.1.1,y3.2.1.1.2),y3.2.1.2),())).bind fun y72=>
 let v73:=decide (y72.1>(0:Int))
 let v74:=(a2==v73)
 (atoms_put.F (a0,y1.1,(ByteArray.empty,(y3.1,(((y71.1.1.1,y71.1.1.2),y71.1.2),v74))),())).bind fun y75=>
 let v76:=(y75.2.2.1 != (0:Int))
 bif v76 then(some (y75.1,y75.2.1,y75.2.2.1,()))
 else(bif v73 then(some (y75.1,y75.2.1,y75.2.2.1,()))
 else(let v77:=negI .i64 y75.2.1
 some (y75.1,v77,(0:Int),())))))
theorem eval (k:Nat)(a0:Dt22)(a1:Dt49)(a2:Bool):evalF spec cals T Tryz.f21 k (a0,a1,a2,())=e a0 a1 a2:=by kernel_rfl
theorem of (k:Nat)(a0:Dt22)(a1:Dt49)(a2:Bool){y:Dt22×Int×Int×Unit}(h:e a0 a1 a2=some y):F (a0,a1,a2,())=some y:=limF_of k ((eval k a0 a1 a2).trans h)
end atoms_Below
namespace w_lives
def spec:Spec:=⟨[],[(false,.bool)],.own,fun j=>match j with|_=>[]⟩
def cals:Cals:=(Cals.cons 20 atoms_New.sig (Cals.cons 47 r03_Whole.sig (Cals.cons 21 atoms_Below.sig (Cals.base tabs))))
def sig:Sig:=spec.sig cals T Tryz.f19
def F (x:Unit):Option (Bool×Unit):=limF spec cals T Tryz.f19 x
theorem ck:CalsOk Tryz.prog cals:=(CalsOk.cons atoms_New.cal (CalsOk.cons r03_Whole.cal (CalsOk.cons atoms_Below.cal (CalsOk.base tabsOk))))
theorem cal:CalOk Tryz.prog tabs 19 sig:=calOk_lim' tabOk ck mix Tryz.func19 (by kernel_rfl) (by kernel_rfl) (by kernel_rfl) (by kernel_rfl)
def e:Option (Bool×Unit):=
 (atoms_New.F ()).bind fun y1=>
 (r03_Whole.F ((-2:Int),())).bind fun y2=>
 let v3:=([((0:Int),((y2.1.1.1,y2.1.1.2),y2.1.2))]:List Dt73)
 (r03_Whole.F ((3:Int),())).bind fun y4=>
 (atoms_Below.F (y1.1,(v3,((y4.1.1.1,y4.1.1.2),y4.1.2)),true,())).bind fun y5=>
 let v6:=(y5.2.2.1==(0:Int))
 bif v6 then(let v7:=(y5.2.1==(-2:Int))
 bif v7 then(let v8:=(List.length y5.1:Int)
 let v9:=(v8==(2:Int))
 some (v9,()))
 else(some (false,())))
 else(some (false,()))
theorem eval (k:Nat):evalF spec cals T Tryz.f19 k ()=e:=by kernel_rfl
theorem of (k:Nat){y:Bool×Unit}(h:e=some y):F ()=some y:=limF_of k ((eval k).trans h)
end w_lives
namespace w_AtomsHolds
def spec:Spec:=⟨[(false,Kt22),(false,(.int .i64)),(true,Kt26)],[(false,.bool)],.own,fun j=>match j with|_=>[]⟩
def cals:Cals:=(Cals.cons 15 w_twin.sig (Cals.cons 16 m_Rats.sig (Cals.cons 17 w_bindings.sig (Cals.cons 14 atoms_Holds.sig (Cals.cons 18 r17_Holds.sig (Cals.cons 19 w_lives.sig (Cals.base tabs)))))))
def sig:Sig:=spec.sig cals T Tryz.f3
def F (x:Dt22×Int×Dt26×Unit):Option (Bool×Unit):=limF spec cals T Tryz.f3 x
theorem ck:CalsOk Tryz.prog cals:=(CalsOk.cons w_twin.cal (CalsOk.cons m_Rats.cal (CalsOk.cons w_bindings.cal (CalsOk.cons atoms_Holds.cal (CalsOk.cons r17_Holds.cal (CalsOk.cons w_lives.cal (CalsOk.base tabsOk)))))))
theorem cal:CalOk Tryz.prog tabs 3 sig:=calOk_lim' tabOk ck mix Tryz.func3 (by kernel_rfl) (by kernel_rfl) (by kernel_rfl) (by kernel_rfl)
def e (a0:Dt22)(a1:Int)(a2:Dt26):Option (Bool×Unit):=
 (w_twin.F (a0,())).bind fun y1=>
 (m_Rats.F (a2.1,())).bind fun y2=>
 (w_bindings.F (a2.2,())).bind fun y3=>
 (atoms_Holds.F (y1.1,a1,y2.1,y3.1,())).bind fun y4=>
 (r17_Holds.F (a0,a1,a2.1,a2.2,())).bind fun y5=>
 (w_lives.F ()).bind fun y6=>
 bif y6.1 then(let v7:=(y4.1==y5.1)
 bif v7 then(let v8:=(y4.2.1==y5.2.1)
 some (v8,()))
 else(some (false,())))
 else(some (false,()))
theorem eval (k:Nat)(a0:Dt22)(a1:Int)(a2:Dt26):evalF spec cals T Tryz.f3 k (a0,a1,a2,())=e a0 a1 a2:=by kernel_rfl
theorem of (k:Nat)(a0:Dt22)(a1:Int)(a2:Dt26){y:Bool×Unit}(h:e a0 a1 a2=some y):F (a0,a1,a2,())=some y:=limF_of k ((eval k a0 a1 a2).trans h)
end w_AtomsHolds
end
end Go.Fx.Tryz
