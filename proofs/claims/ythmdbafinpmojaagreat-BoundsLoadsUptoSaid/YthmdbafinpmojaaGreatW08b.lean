import Derived.Test.YthmdbafinpmojaaGreatW08a
namespace Go.Fx.Tryz
open Go Go.Proofs Go.Fx
set_option linter.unusedVariables false
set_option maxRecDepth 100000
noncomputable section
namespace r02_Sign
def spec:Spec:=⟨[(true,Kt40)],[(false,(.int .i64))],.own,fun j=>match j with|_=>[]⟩
def cals:Cals:=(Cals.cons 79 r02_Norm.sig (Cals.base tabs))
def sig:Sig:=spec.sig cals T Tryz.f56
def F (x:Dt40×Unit):Option (Int×Unit):=limF spec cals T Tryz.f56 x
theorem ck:CalsOk Tryz.prog cals:=(CalsOk.cons r02_Norm.cal (CalsOk.base tabsOk))
theorem cal:CalOk Tryz.prog tabs 56 sig:=calOk_lim' tabOk ck mix Tryz.func56 (by kernel_rfl) (by kernel_rfl) (by kernel_rfl) (by kernel_rfl)
def e (a0:Dt40):Option (Int×Unit):=
 (r02_Norm.F ((a0.1,a0.2),())).bind fun y1=>
 bif y1.1.1 then(some ((-1:Int),()))
 else(let v2:=(List.length y1.1.2:Int)
 let v3:=decide (v2>(0:Int))
 bif v3 then(some ((1:Int),()))
 else(some ((0:Int),())))
theorem eval (k:Nat)(a0:Dt40):evalF spec cals T Tryz.f56 k (a0,())=e a0:=by kernel_rfl
theorem of (k:Nat)(a0:Dt40){y:Int×Unit}(h:e a0=some y):F (a0,())=some y:=limF_of k ((eval k a0).trans h)
end r02_Sign
namespace r03_Sign
def spec:Spec:=⟨[(true,Kt42)],[(false,(.int .i64))],.own,fun j=>match j with|_=>[]⟩
def cals:Cals:=(Cals.cons 57 r03_Norm.sig (Cals.cons 56 r02_Sign.sig (Cals.base tabs)))
def sig:Sig:=spec.sig cals T Tryz.f24
def F (x:Dt42×Unit):Option (Int×Unit):=limF spec cals T Tryz.f24 x
theorem ck:CalsOk Tryz.prog cals:=(CalsOk.cons r03_Norm.cal (CalsOk.cons r02_Sign.cal (CalsOk.base tabsOk)))
theorem cal:CalOk Tryz.prog tabs 24 sig:=calOk_lim' tabOk ck mix Tryz.func24 (by kernel_rfl) (by kernel_rfl) (by kernel_rfl) (by kernel_rfl)
def e (a0:Dt42):Option (Int×Unit):=
 (r03_Norm.F (((a0.1.1,a0.1.2),a0.2),())).bind fun y1=>
 (r02_Sign.F ((y1.1.1.1,y1.1.1.2),())).bind fun y2=>
 some (y2.1,())
theorem eval (k:Nat)(a0:Dt42):evalF spec cals T Tryz.f24 k (a0,())=e a0:=by kernel_rfl
theorem of (k:Nat)(a0:Dt42){y:Int×Unit}(h:e a0=some y):F (a0,())=some y:=limF_of k ((eval k a0).trans h)
end r03_Sign
namespace r05_Sign
def spec:Spec:=⟨[(true,Kt44)],[(false,(.int .i64))],.own,fun j=>match j with|_=>[]⟩
def cals:Cals:=(Cals.cons 24 r03_Sign.sig (Cals.base tabs))
def sig:Sig:=spec.sig cals T Tryz.f90
def F (x:Dt44×Unit):Option (Int×Unit):=limF spec cals T Tryz.f90 x
theorem ck:CalsOk Tryz.prog cals:=(CalsOk.cons r03_Sign.cal (CalsOk.base tabsOk))
theorem cal:CalOk Tryz.prog tabs 90 sig:=calOk_lim' tabOk ck mix Tryz.func90 (by kernel_rfl) (by kernel_rfl) (by kernel_rfl) (by kernel_rfl)
def e (a0:Dt44):Option (Int×Unit):=
 (r03_Sign.F (((a0.1.1.1,a0.1.1.2),a0.1.2),())).bind fun y1=>
 let v2:=(y1.1 != (0:Int))
 bif v2 then(some (y1.1,()))
 else((r03_Sign.F (((a0.2.1.1,a0.2.1.2),a0.2.2),())).bind fun y3=>
 some (y3.1,()))
theorem eval (k:Nat)(a0:Dt44):evalF spec cals T Tryz.f90 k (a0,())=e a0:=by kernel_rfl
theorem of (k:Nat)(a0:Dt44){y:Int×Unit}(h:e a0=some y):F (a0,())=some y:=limF_of k ((eval k a0).trans h)
end r05_Sign
namespace r01_Add
def spec:Spec:=⟨[(false,Kt38),(false,Kt38)],[(false,Kt38)],.own,fun j=>match j with|7=>[(0,.lf (.z 114 (.int .u32) false)),(1,.lf (.z 114 (.int .u32) false)),(5,.lf (.v true)),(6,.lf (.o 114 (.int .u32) true)),(7,.lf (.v true)),(8,.lf (.v true))]|_=>[]⟩
def cals:Cals:=(Cals.cons 103 r01_at.sig (Cals.cons 80 r01_Norm.sig (Cals.base tabs)))
def sig:Sig:=spec.sig cals T Tryz.f134
def F (x:Dt38×Dt38×Unit):Option (Dt38×Unit):=limF spec cals T Tryz.f134 x
theorem ck:CalsOk Tryz.prog cals:=(CalsOk.cons r01_at.cal (CalsOk.cons r01_Norm.cal (CalsOk.base tabsOk)))
theorem cal:CalOk Tryz.prog tabs 134 sig:=calOk_lim' tabOk ck mix Tryz.func134 (by kernel_rfl) (by kernel_rfl) (by kernel_rfl) (by kernel_rfl)
def m7 (x0:Dt38)(x1:Dt38)(x5:Int)(x6:Dt38)(x7:Int)(x8:Int):S:=⟨[(0,.one (.lf (.val false Kt38 x0))),(1,.one (.lf (.val false Kt38 x1))),(5,.one (.lf (.val true (.int .i64) x5))),(6,.one (.lf (.own 0))),(7,.one (.lf (.val true (.int .u64) x7))),(8,.one (.lf (.val true (.int .i64) x8)))],⟨[some ⟨114,(.int .u32),true,true,x6⟩],[]⟩⟩
def b7 (f7:Dt38→Dt38→Int→Dt38→Int→Int→Option (Dt38×Unit))(x0:Dt38)(x1:Dt38)(x5:Int)(x6:Dt38)(x7:Int)(x8:Int):Option (Dt38×Unit):=
 let v1:=decide (x8≤x5)
 bif v1 then((r01_at.F (x0,x8,())).bind fun y2=>
 (r01_at.F (x1,x8,())).bind fun y3=>
 let v4:=IntKind.u64.wrap (y2.1+y3.1)
 let v5:=IntKind.u64.wrap (v4+x7)
 let v6:=IntKind.u32.wrap v5
 bif decide (0≤x8)&&decide (x8<(List.length x6:Int))then(let v7:=List.set x6 (Int.toNat x8) v6
 bif decide ((32:Int)<0)then none
 else(let v8:=shrI .u64 v5 (32:Int)
 let v9:=IntKind.i64.wrap (x8+(1:Int))
 f7 x0 x1 x5 v7 v8 v9))
 else none)
 else((r01_Norm.F (x6,())).bind fun y10=>
 some (y10.1,()))
def e (f7:Dt38→Dt38→Int→Dt38→Int→Int→Option (Dt38×Unit))(a0:Dt38)(a1:Dt38):Option (Dt38×Unit):=
 let v1:=(List.length a0:Int)
 let v2:=(List.length a1:Int)
 let v3:=decide (v2>v1)
 bif v3 then(let v4:=(List.length a1:Int)
 let v5:=IntKind.i64.wrap (v4+(1:Int))
 bif decide (0≤v5)&&(decide (v5≤v5)&&(decide (Int.toNat v5*4≤281474976710656)&&Nat.blt 0 4))then(let v6:=List.replicate (Int.toNat v5) (0:Int)
 f7 a0 a1 v4 v6 (0:Int) (0:Int))
 else none)
 else(let v7:=IntKind.i64.wrap (v1+(1:Int))
 bif decide (0≤v7)&&(decide (v7≤v7)&&(decide (Int.toNat v7*4≤281474976710656)&&Nat.blt 0 4))then(let v8:=List.replicate (Int.toNat v7) (0:Int)
 f7 a0 a1 v1 v8 (0:Int) (0:Int))
 else none)
def L7 (k:Nat)(x0:Dt38)(x1:Dt38)(x5:Int)(x6:Dt38)(x7:Int)(x8:Int):Option (Dt38×Unit):=heads (spec.env cals T Tryz.f134) (Func.pts Tryz.f134) k 7 (m7 x0 x1 x5 x6 x7 x8)
theorem L7_succ (k:Nat)(x0:Dt38)(x1:Dt38)(x5:Int)(x6:Dt38)(x7:Int)(x8:Int):L7 (k+1) x0 x1 x5 x6 x7 x8=b7 (L7 k) x0 x1 x5 x6 x7 x8:=by kernel_rfl
theorem eval (k:Nat)(a0:Dt38)(a1:Dt38):evalF spec cals T Tryz.f134 k (a0,a1,())=e (L7 k) a0 a1:=by kernel_rfl
theorem of (k:Nat)(a0:Dt38)(a1:Dt38){y:Dt38×Unit}(h:e (L7 k) a0 a1=some y):F (a0,a1,())=some y:=limF_of k ((eval k a0 a1).trans h)
end r01_Add
namespace r02_Add
def spec:Spec:=⟨[(true,Kt40),(true,Kt40)],[(true,Kt40)],.own,fun j=>match j with|_=>[]⟩
def cals:Cals:=(Cals.cons 134 r01_Add.sig (Cals.cons 83 r02_made.sig (Cals.cons 93 r01_Cmp.sig (Cals.cons 96 r01_Sub.sig (Cals.base tabs)))))
def sig:Sig:=spec.sig cals T Tryz.f123
def F (x:Dt40×Dt40×Unit):Option (Dt40×Unit):=limF spec cals T Tryz.f123 x
theorem ck:CalsOk Tryz.prog cals:=(CalsOk.cons r01_Add.cal (CalsOk.cons r02_made.cal (CalsOk.cons r01_Cmp.cal (CalsOk.cons r01_Sub.cal (CalsOk.base tabsOk)))))
theorem cal:CalOk Tryz.prog tabs 123 sig:=calOk_lim' tabOk ck mix Tryz.func123 (by kernel_rfl) (by kernel_rfl) (by kernel_rfl) (by kernel_rfl)
def e (a0:Dt40)(a1:Dt40):Option (Dt40×Unit):=
 let v1:=(a0.1==a1.1)
 bif v1 then((r01_Add.F (a0.2,a1.2,())).bind fun y2=>
 (r02_made.F (a0.1,y2.1,())).bind fun y3=>
 some ((y3.1.1,y3.1.2),()))
 else((r01_Cmp.F (a0.2,a1.2,())).bind fun y4=>
 let v5:=decide (y4.1≥(0:Int))
 bif v5 then((r01_Sub.F (a0.2,a1.2,())).bind fun y6=>
 (r02_made.F (a0.1,y6.1,())).bind fun y7=>
 some ((y7.1.1,y7.1.2),()))
 else((r01_Sub.F (a1.2,a0.2,())).bind fun y8=>
 (r02_made.F (a1.1,y8.1,())).bind fun y9=>
 some ((y9.1.1,y9.1.2),())))
theorem eval (k:Nat)(a0:Dt40)(a1:Dt40):evalF spec cals T Tryz.f123 k (a0,a1,())=e a0 a1:=by kernel_rfl
theorem of (k:Nat)(a0:Dt40)(a1:Dt40){y:Dt40×Unit}(h:e a0 a1=some y):F (a0,a1,())=some y:=limF_of k ((eval k a0 a1).trans h)
end r02_Add
namespace r01_Mul
def spec:Spec:=⟨[(false,Kt38),(false,Kt38)],[(false,Kt38)],.own,fun j=>match j with|3=>[(0,.lf (.z 114 (.int .u32) false)),(1,.lf (.z 114 (.int .u32) false)),(5,.lf (.o 114 (.int .u32) true)),(6,.lf (.v true))]|7=>[(0,.lf (.z 114 (.int .u32) false)),(1,.lf (.z 114 (.int .u32) false)),(5,.lf (.o 114 (.int .u32) true)),(6,.lf (.v true)),(7,.lf (.v true)),(8,.lf (.v true))]|_=>[]⟩
def cals:Cals:=(Cals.cons 80 r01_Norm.sig (Cals.base tabs))
def sig:Sig:=spec.sig cals T Tryz.f126
def F (x:Dt38×Dt38×Unit):Option (Dt38×Unit):=limF spec cals T Tryz.f126 x
theorem ck:CalsOk Tryz.prog cals:=(CalsOk.cons r01_Norm.cal (CalsOk.base tabsOk))
theorem cal:CalOk Tryz.prog tabs 126 sig:=calOk_lim' tabOk ck mix Tryz.func126 (by kernel_rfl) (by kernel_rfl) (by kernel_rfl) (by kernel_rfl)
def m3 (x0:Dt38)(x1:Dt38)(x5:Dt38)(x6:Int):S:=⟨[(0,.one (.lf (.val false Kt38 x0))),(1,.one (.lf (.val false Kt38 x1))),(5,.one (.lf (.own 0))),(6,.one (.lf (.val true (.int .i64) x6)))],⟨[some ⟨114,(.int .u32),true,true,x5⟩],[]⟩⟩
def m7 (x0:Dt38)(x1:Dt38)(x5:Dt38)(x6:Int)(x7:Int)(x8:Int):S:=⟨[(0,.one (.lf (.val false Kt38 x0))),(1,.one (.lf (.val false Kt38 x1))),(5,.one (.lf (.own 0))),(6,.one (.lf (.val true (.int .i64) x6))),(7,.one (.lf (.val true (.int .u64) x7))),(8,.one (.lf (.val true (.int .i64) x8)))],⟨[some ⟨114,(.int .u32),true,true,x5⟩],[]⟩⟩
def b3 (f3:Dt38→Dt38→Dt38→Int→Option (Dt38×Unit))(f7:Dt38→Dt38→Dt38→Int→Int→Int→Option (Dt38×Unit))(x0:Dt38)(x1:Dt38)(x5:Dt38)(x6:Int):Option (Dt38×Unit):=
 let v1:=(List.length x0:Int)
 let v2:=decide (x6<v1)
 bif v2 then(f7 x0 x1 x5 x6 (0:Int) (0:Int))
 else((r01_Norm.F (x5,())).bind fun y3=>
 some (y3.1,()))
def b7 (f3:Dt38→Dt38→Dt38→Int→Option (Dt38×Unit))(f7:Dt38→Dt38→Dt38→Int→Int→Int→Option (Dt38×Unit))(x0:Dt38)(x1:Dt38)(x5:Dt38)(x6:Int)(x7:Int)(x8:Int):Option (Dt38×Unit):=
 let v1:=(List.length x1:Int)
 let v2:=decide (x8<v1)
 bif v2 then(bif decide (0≤x6)&&decide (x6<(List.length x0:Int))then(let v3:=List.getD x0 (Int.toNat x6) (0:Int)
 let v4:=IntKind.u64.wrap v3
 bif decide (0≤x8)&&decide (x8<(List.length x1:Int))then(let v5:=List.getD x1 (Int.toNat x8) (0:Int)
 let v6:=IntKind.u64.wrap v5
 let v7:=IntKind.u64.wrap (v4*v6)
 let v8:=IntKind.i64.wrap (x6+x8)
 bif decide (0≤v8)&&decide (v8<(List.length x5:Int))then(let v9:=List.getD x5 (Int.toNat v8) (0:Int)
 let v10:=IntKind.u64.wrap v9
 let v11:=IntKind.u64.wrap (v7+v10)
 let v12:=IntKind.u64.wrap (v11+x7)
 let v13:=IntKind.i64.wrap (x6+x8)
 let v14:=IntKind.u32.wrap v12
 bif decide (0≤v13)&&decide (v13<(List.length x5:Int))then(let v15:=List.set x5 (Int.toNat v13) v14
 bif decide ((32:Int)<0)then none
 else(let v16:=shrI .u64 v12 (32:Int)
 let v17:=IntKind.i64.wrap (x8+(1:Int))
 f7 x0 x1 v15 x6 v16 v17))
 else none)
 else none)
 else none)
 else none)
 else(let v18:=(List.length x1:Int)
 let v19:=IntKind.i64.wrap (x6+v18)
 let v20:=IntKind.u32.wrap x7
 bif decide (0≤v19)&&decide (v19<(List.length x5:Int))then(let v21:=List.set x5 (Int.toNat v19) v20
 let v22:=IntKind.i64.wrap (x6+(1:Int))
 f3 x0 x1 v21 v22)
 else none)
def e (f3:Dt38→Dt38→Dt38→Int→Option (Dt38×Unit))(f7:Dt38→Dt38→Dt38→Int→Int→Int→Option (Dt38×Unit))(a0:Dt38)(a1:Dt38):Option (Dt38×Unit):=
 let v1:=(List.length a0:Int)
 let v2:=(List.length a1:Int)
 let v3:=IntKind.i64.wrap (v1+v2)
 bif decide (0≤v3)&&(decide (v3≤v3)&&(decide (Int.toNat v3*4≤281474976710656)&&Nat.blt 0 4))then(let v4:=List.replicate (Int.toNat v3) (0:Int)
 f3 a0 a1 v4 (0:Int))
 else none
def L3 (k:Nat)(x0:Dt38)(x1:Dt38)(x5:Dt38)(x6:Int):Option (Dt38×Unit):=heads (spec.env cals T Tryz.f126) (Func.pts Tryz.f126) k 3 (m3 x0 x1 x5 x6)
def L7 (k:Nat)(x0:Dt38)(x1:Dt38)(x5:Dt38)(x6:Int)(x7:Int)(x8:Int):Option (Dt38×Unit):=heads (spec.env cals T Tryz.f126) (Func.pts Tryz.f126) k 7 (m7 x0 x1 x5 x6 x7 x8)
theorem L3_succ (k:Nat)(x0:Dt38)(x1:Dt38)(x5:Dt38)(x6:Int):L3 (k+1) x0 x1 x5 x6=b3 (L3 k) (L7 k) x0 x1 x5 x6:=by kernel_rfl
theorem L7_succ (k:Nat)(x0:Dt38)(x1:Dt38)(x5:Dt38)(x6:Int)(x7:Int)(x8:Int):L7 (k+1) x0 x1 x5 x6 x7 x8=b7 (L3 k) (L7 k) x0 x1 x5 x6 x7 x8:=by kernel_rfl
theorem eval (k:Nat)(a0:Dt38)(a1:Dt38):evalF spec cals T Tryz.f126 k (a0,a1,())=e (L3 k) (L7 k) a0 a1:=by kernel_rfl
theorem of (k:Nat)(a0:Dt38)(a1:Dt38){y:Dt38×Unit}(h:e (L3 k) (L7 k) a0 a1=some y):F (a0,a1,())=some y:=limF_of k ((eval k a0 a1).trans h)
end r01_Mul
namespace r02_Mul
def spec:Spec:=⟨[(true,Kt40),(true,Kt40)],[(true,Kt40)],.own,fun j=>match j with|_=>[]⟩
def cals:Cals:=(Cals.cons 126 r01_Mul.sig (Cals.cons 83 r02_made.sig (Cals.base tabs)))
def sig:Sig:=spec.sig cals T Tryz.f124
def F (x:Dt40×Dt40×Unit):Option (Dt40×Unit):=limF spec cals T Tryz.f124 x
theorem ck:CalsOk Tryz.prog cals:=(CalsOk.cons r01_Mul.cal (CalsOk.cons r02_made.cal (CalsOk.base tabsOk)))
theorem cal:CalOk Tryz.prog tabs 124 sig:=calOk_lim' tabOk ck mix Tryz.func124 (by kernel_rfl) (by kernel_rfl) (by kernel_rfl) (by kernel_rfl)
def e (a0:Dt40)(a1:Dt40):Option (Dt40×Unit):=
 let v1:=(!(a0.1==a1.1))
 (r01_Mul.F (a0.2,a1.2,())).bind fun y2=>
 (r02_made.F (v1,y2.1,())).bind fun y3=>
 some ((y3.1.1,y3.1.2),())
theorem eval (k:Nat)(a0:Dt40)(a1:Dt40):evalF spec cals T Tryz.f124 k (a0,a1,())=e a0 a1:=by kernel_rfl
theorem of (k:Nat)(a0:Dt40)(a1:Dt40){y:Dt40×Unit}(h:e a0 a1=some y):F (a0,a1,())=some y:=limF_of k ((eval k a0 a1).trans h)
end r02_Mul
namespace r03_positive
def spec:Spec:=⟨[(false,Kt38)],[(true,Kt40)],.shared,fun j=>match j with|_=>[]⟩
def cals:Cals:=(Cals.base tabs)
def sig:Sig:=spec.sig cals T Tryz.f125
def F (x:Dt38×Unit):Option (Dt40×Unit):=limF spec cals T Tryz.f125 x
theorem ck:CalsOk Tryz.prog cals:=(CalsOk.base tabsOk)
theorem cal:CalOk Tryz.prog tabs 125 sig:=calOk_lim' tabOk ck mix Tryz.func125 (by kernel_rfl) (by kernel_rfl) (by kernel_rfl) (by kernel_rfl)
def e (a0:Dt38):Option (Dt40×Unit):=
 some ((false,a0),())
theorem eval (k:Nat)(a0:Dt38):evalF spec cals T Tryz.f125 k (a0,())=e a0:=by kernel_rfl
theorem of (k:Nat)(a0:Dt38){y:Dt40×Unit}(h:e a0=some y):F (a0,())=some y:=limF_of k ((eval k a0).trans h)
end r03_positive
namespace r03_Add
def spec:Spec:=⟨[(true,Kt42),(true,Kt42)],[(true,Kt42)],.own,fun j=>match j with|_=>[]⟩
def cals:Cals:=(Cals.cons 57 r03_Norm.sig (Cals.cons 125 r03_positive.sig (Cals.cons 124 r02_Mul.sig (Cals.cons 123 r02_Add.sig (Cals.cons 126 r01_Mul.sig (Cals.base tabs))))))
def sig:Sig:=spec.sig cals T Tryz.f113
def F (x:Dt42×Dt42×Unit):Option (Dt42×Unit):=limF spec cals T Tryz.f113 x
theorem ck:CalsOk Tryz.prog cals:=(CalsOk.cons r03_Norm.cal (CalsOk.cons r03_positive.cal (CalsOk.cons r02_Mul.cal (CalsOk.cons r02_Add.cal (CalsOk.cons r01_Mul.cal (CalsOk.base tabsOk))))))
theorem cal:CalOk Tryz.prog tabs 113 sig:=calOk_lim' tabOk ck mix Tryz.func113 (by kernel_rfl) (by kernel_rfl) (by kernel_rfl) (by kernel_rfl)
def e (a0:Dt42)(a1:Dt42):Option (Dt42×Unit):=
 (r03_Norm.F (((a0.1.1,a0.1.2),a0.2),())).bind fun y1=>
 (r03_Norm.F (((a1.1.1,a1.1.2),a1.2),())).bind fun y2=>
 (r03_positive.F (y2.1.2,())).bind fun y3=>
 (r02_Mul.F ((y1.1.1.1,y1.1.1.2),(y3.1.1,y3.1.2),())).bind fun y4=>
 (r03_positive.F (y1.1.2,())).bind fun y5=>
 (r02_Mul.F ((y2.1.1.1,y2.1.1.2),(y5.1.1,y5.1.2),())).bind fun y6=>
 (r02_Add.F ((y4.1.1,y4.1.2),(y6.1.1,y6.1.2),())).bind fun y7=>
 (r01_Mul.F (y1.1.2,y2.1.2,())).bind fun y8=>
 (r03_Norm.F (((y7.1.1,y7.1.2),y8.1),())).bind fun y9=>
 some (((y9.1.1.1,y9.1.1.2),y9.1.2),())
theorem eval (k:Nat)(a0:Dt42)(a1:Dt42):evalF spec cals T Tryz.f113 k (a0,a1,())=e a0 a1:=by kernel_rfl
theorem of (k:Nat)(a0:Dt42)(a1:Dt42){y:Dt42×Unit}(h:e a0 a1=some y):F (a0,a1,())=some y:=limF_of k ((eval k a0 a1).trans h)
end r03_Add
namespace r02_Neg
def spec:Spec:=⟨[(true,Kt40)],[(true,Kt40)],.own,fun j=>match j with|_=>[]⟩
def cals:Cals:=(Cals.cons 83 r02_made.sig (Cals.base tabs))
def sig:Sig:=spec.sig cals T Tryz.f127
def F (x:Dt40×Unit):Option (Dt40×Unit):=limF spec cals T Tryz.f127 x
theorem ck:CalsOk Tryz.prog cals:=(CalsOk.cons r02_made.cal (CalsOk.base tabsOk))
theorem cal:CalOk Tryz.prog tabs 127 sig:=calOk_lim' tabOk ck mix Tryz.func127 (by kernel_rfl) (by kernel_rfl) (by kernel_rfl) (by kernel_rfl)
def e (a0:Dt40):Option (Dt40×Unit):=
 let v1:=not a0.1
 (r02_made.F (v1,a0.2,())).bind fun y2=>
 some ((y2.1.1,y2.1.2),())
theorem eval (k:Nat)(a0:Dt40):evalF spec cals T Tryz.f127 k (a0,())=e a0:=by kernel_rfl
theorem of (k:Nat)(a0:Dt40){y:Dt40×Unit}(h:e a0=some y):F (a0,())=some y:=limF_of k ((eval k a0).trans h)
end r02_Neg
namespace r03_Neg
def spec:Spec:=⟨[(true,Kt42)],[(true,Kt42)],.own,fun j=>match j with|_=>[]⟩
def cals:Cals:=(Cals.cons 57 r03_Norm.sig (Cals.cons 127 r02_Neg.sig (Cals.base tabs)))
def sig:Sig:=spec.sig cals T Tryz.f114
def F (x:Dt42×Unit):Option (Dt42×Unit):=limF spec cals T Tryz.f114 x
theorem ck:CalsOk Tryz.prog cals:=(CalsOk.cons r03_Norm.cal (CalsOk.cons r02_Neg.cal (CalsOk.base tabsOk)))
theorem cal:CalOk Tryz.prog tabs 114 sig:=calOk_lim' tabOk ck mix Tryz.func114 (by kernel_rfl) (by kernel_rfl) (by kernel_rfl) (by kernel_rfl)
def e (a0:Dt42):Option (Dt42×Unit):=
 (r03_Norm.F (((a0.1.1,a0.1.2),a0.2),())).bind fun y1=>
 (r02_Neg.F ((y1.1.1.1,y1.1.1.2),())).bind fun y2=>
 (r03_Norm.F (((y2.1.1,y2.1.2),y1.1.2),())).bind fun y3=>
 some (((y3.1.1.1,y3.1.1.2),y3.1.2),())
theorem eval (k:Nat)(a0:Dt42):evalF spec cals T Tryz.f114 k (a0,())=e a0:=by kernel_rfl
theorem of (k:Nat)(a0:Dt42){y:Dt42×Unit}(h:e a0=some y):F (a0,())=some y:=limF_of k ((eval k a0).trans h)
end r03_Neg
namespace r03_Sub
def spec:Spec:=⟨[(true,Kt42),(true,Kt42)],[(true,Kt42)],.own,fun j=>match j with|_=>[]⟩
def cals:Cals:=(Cals.cons 114 r03_Neg.sig (Cals.cons 113 r03_Add.sig (Cals.base tabs)))
def sig:Sig:=spec.sig cals T Tryz.f102
def F (x:Dt42×Dt42×Unit):Option (Dt42×Unit):=limF spec cals T Tryz.f102 x
theorem ck:CalsOk Tryz.prog cals:=(CalsOk.cons r03_Neg.cal (CalsOk.cons r03_Add.cal (CalsOk.base tabsOk)))
theorem cal:CalOk Tryz.prog tabs 102 sig:=calOk_lim' tabOk ck mix Tryz.func102 (by kernel_rfl) (by kernel_rfl) (by kernel_rfl) (by kernel_rfl)
def e (a0:Dt42)(a1:Dt42):Option (Dt42×Unit):=
 (r03_Neg.F (((a1.1.1,a1.1.2),a1.2),())).bind fun y1=>
 (r03_Add.F (((a0.1.1,a0.1.2),a0.2),((y1.1.1.1,y1.1.1.2),y1.1.2),())).bind fun y2=>
 some (((y2.1.1.1,y2.1.1.2),y2.1.2),())
theorem eval (k:Nat)(a0:Dt42)(a1:Dt42):evalF spec cals T Tryz.f102 k (a0,a1,())=e a0 a1:=by kernel_rfl
theorem of (k:Nat)(a0:Dt42)(a1:Dt42){y:Dt42×Unit}(h:e a0 a1=some y):F (a0,a1,())=some y:=limF_of k ((eval k a0 a1).trans h)
end r03_Sub
namespace r05_Sub
def spec:Spec:=⟨[(true,Kt44),(true,Kt44)],[(true,Kt44)],.own,fun j=>match j with|_=>[]⟩
def cals:Cals:=(Cals.cons 102 r03_Sub.sig (Cals.base tabs))
def sig:Sig:=spec.sig cals T Tryz.f91
def F (x:Dt44×Dt44×Unit):Option (Dt44×Unit):=limF spec cals T Tryz.f91 x
theorem ck:CalsOk Tryz.prog cals:=(CalsOk.cons r03_Sub.cal (CalsOk.base tabsOk))
theorem cal:CalOk Tryz.prog tabs 91 sig:=calOk_lim' tabOk ck mix Tryz.func91 (by kernel_rfl) (by kernel_rfl) (by kernel_rfl) (by kernel_rfl)
def e (a0:Dt44)(a1:Dt44):Option (Dt44×Unit):=
 (r03_Sub.F (((a0.1.1.1,a0.1.1.2),a0.1.2),((a1.1.1.1,a1.1.1.2),a1.1.2),())).bind fun y1=>
 (r03_Sub.F (((a0.2.1.1,a0.2.1.2),a0.2.2),((a1.2.1.1,a1.2.1.2),a1.2.2),())).bind fun y2=>
 some ((((y1.1.1.1,y1.1.1.2),y1.1.2),((y2.1.1.1,y2.1.1.2),y2.1.2)),())
theorem eval (k:Nat)(a0:Dt44)(a1:Dt44):evalF spec cals T Tryz.f91 k (a0,a1,())=e a0 a1:=by kernel_rfl
theorem of (k:Nat)(a0:Dt44)(a1:Dt44){y:Dt44×Unit}(h:e a0 a1=some y):F (a0,a1,())=some y:=limF_of k ((eval k a0 a1).trans h)
end r05_Sub
namespace r05_Cmp
def spec:Spec:=⟨[(true,Kt44),(true,Kt44)],[(false,(.int .i64))],.own,fun j=>match j with|_=>[]⟩
def cals:Cals:=(Cals.cons 91 r05_Sub.sig (Cals.cons 90 r05_Sign.sig (Cals.base tabs)))
def sig:Sig:=spec.sig cals T Tryz.f69
def F (x:Dt44×Dt44×Unit):Option (Int×Unit):=limF spec cals T Tryz.f69 x
theorem ck:CalsOk Tryz.prog cals:=(CalsOk.cons r05_Sub.cal (CalsOk.cons r05_Sign.cal (CalsOk.base tabsOk)))
theorem cal:CalOk Tryz.prog tabs 69 sig:=calOk_lim' tabOk ck mix Tryz.func69 (by kernel_rfl) (by kernel_rfl) (by kernel_rfl) (by kernel_rfl)
def e (a0:Dt44)(a1:Dt44):Option (Int×Unit):=
 (r05_Sub.F ((((a0.1.1.1,a0.1.1.2),a0.1.2),((a0.2.1.1,a0.2.1.2),a0.2.2)),(((a1.1.1.1,a1.1.1.2),a1.1.2),((a1.2.1.1,a1.2.1.2),a1.2.2)),())).bind fun y1=>
 (r05_Sign.F ((((y1.1.1.1.1,y1.1.1.1.2),y1.1.1.2),((y1.1.2.1.1,y1.1.2.1.2),y1.1.2.2)),())).bind fun y2=>
 some (y2.1,())
theorem eval (k:Nat)(a0:Dt44)(a1:Dt44):evalF spec cals T Tryz.f69 k (a0,a1,())=e a0 a1:=by kernel_rfl
theorem of (k:Nat)(a0:Dt44)(a1:Dt44){y:Int×Unit}(h:e a0 a1=some y):F (a0,a1,())=some y:=limF_of k ((eval k a0 a1).trans h)
end r05_Cmp
namespace r08_tighter
def spec:Spec:=⟨[(false,.bool),(true,Kt44),(true,Kt44)],[(false,.bool)],.own,fun j=>match j with|_=>[]⟩
def cals:Cals:=(Cals.cons 69 r05_Cmp.sig (Cals.base tabs))
def sig:Sig:=spec.sig cals T Tryz.f64
def F (x:Bool×Dt44×Dt44×Unit):Option (Bool×Unit):=limF spec cals T Tryz.f64 x
theorem ck:CalsOk Tryz.prog cals:=(CalsOk.cons r05_Cmp.cal (CalsOk.base tabsOk))
theorem cal:CalOk Tryz.prog tabs 64 sig:=calOk_lim' tabOk ck mix Tryz.func64 (by kernel_rfl) (by kernel_rfl) (by kernel_rfl) (by kernel_rfl)
def e (a0:Bool)(a1:Dt44)(a2:Dt44):Option (Bool×Unit):=
 bif a0 then((r05_Cmp.F ((((a1.1.1.1,a1.1.1.2),a1.1.2),((a1.2.1.1,a1.2.1.2),a1.2.2)),(((a2.1.1.1,a2.1.1.2),a2.1.2),((a2.2.1.1,a2.2.1.2),a2.2.2)),())).bind fun y1=>
 let v2:=decide (y1.1<(0:Int))
 some (v2,()))
 else((r05_Cmp.F ((((a1.1.1.1,a1.1.1.2),a1.1.2),((a1.2.1.1,a1.2.1.2),a1.2.2)),(((a2.1.1.1,a2.1.1.2),a2.1.2),((a2.2.1.1,a2.2.1.2),a2.2.2)),())).bind fun y3=>
 let v4:=decide (y3.1>(0:Int))
 some (v4,()))
theorem eval (k:Nat)(a0:Bool)(a1:Dt44)(a2:Dt44):evalF spec cals T Tryz.f64 k (a0,a1,a2,())=e a0 a1 a2:=by kernel_rfl
theorem of (k:Nat)(a0:Bool)(a1:Dt44)(a2:Dt44){y:Bool×Unit}(h:e a0 a1 a2=some y):F (a0,a1,a2,())=some y:=limF_of k ((eval k a0 a1 a2).trans h)
end r08_tighter
namespace r08_Assert
def spec:Spec:=⟨[(true,Kt32),(false,(.int .i64)),(false,.bool),(true,Kt44),(false,(.int .i64))],[(true,Kt32),(true,Kt83),(false,(.int .i64))],.shared,fun j=>match j with|_=>[]⟩
def cals:Cals:=(Cals.cons 37 r08_Is.sig (Cals.cons 64 r08_tighter.sig (Cals.cons 60 r08_Copy.sig (Cals.cons 65 r05_Norm.sig (Cals.base tabs)))))
def sig:Sig:=spec.sig cals T Tryz.f29
def F (x:Dt32×Int×Bool×Dt44×Int×Unit):Option (Dt32×Dt83×Int×Unit):=limF spec cals T Tryz.f29 x
theorem ck:CalsOk Tryz.prog cals:=(CalsOk.cons r08_Is.cal (CalsOk.cons r08_tighter.cal (CalsOk.cons r08_Copy.cal (CalsOk.cons r05_Norm.cal (CalsOk.base tabsOk)))))
theorem cal:CalOk Tryz.prog tabs 29 sig:=calOk_lim' tabOk ck mix Tryz.func29 (by kernel_rfl) (by kernel_rfl) (by kernel_rfl) (by kernel_rfl)
def e (a0:Dt32)(a1:Int)(a2:Bool)(a3:Dt44)(a4:Int):Option (Dt32×Dt83×Int×Unit):=
 (r08_Is.F ((a0.1,(a0.2.1,a0.2.2)),a1,())).bind fun y1=>
 let v2:=not y1.1
 bif v2 then(some ((a0.1,(a0.2.1,a0.2.2)),zt83,(61:Int),()))
 else(bif decide (0≤a1)&&decide (a1<(List.length a0.1:Int))then(let v3:=((List.getD a0.1 (Int.toNat a1) zt68).1).1
 let v4:=((((((List.getD a0.1 (Int.toNat a1) zt68).1).2).1).1).1).1
 let v5:=((((((List.getD a0.1 (Int.toNat a1) zt68).1).2).1).1).1).2
 let v6:=(((((List.getD a0.1 (Int.toNat a1) zt68).1).2).1).1).2
 let v7:=((((((List.getD a0.1 (Int.toNat a1) zt68).1).2).1).2).1).1
 let v8:=((((((List.getD a0.1 (Int.toNat a1) zt68).1).2).1).2).1).2
 let v9:=(((((List.getD a0.1 (Int.toNat a1) zt68).1).2).1).2).2
 let v10:=(((List.getD a0.1 (Int.toNat a1) zt68).1).2).2
 bif decide (0≤a1)&&decide (a1<(List.length a0.1:Int))then(let v11:=((List.getD a0.1 (Int.toNat a1) zt68).2).1
 let v12:=((((((List.getD a0.1 (Int.toNat a1) zt68).2).2).1).1).1).1
 let v13:=((((((List.getD a0.1 (Int.toNat a1) zt68).2).2).1).1).1).2
 let v14:=(((((List.getD a0.1 (Int.toNat a1) zt68).2).2).1).1).2
 let v15:=((((((List.getD a0.1 (Int.toNat a1) zt68).2).2).1).2).1).1
 let v16:=((((((List.getD a0.1 (Int.toNat a1) zt68).2).2).1).2).1).2
 let v17:=(((((List.getD a0.1 (Int.toNat a1) zt68).2).2).1).2).2
 let v18:=(((List.getD a0.1 (Int.toNat a1) zt68).2).2).2
 bif a2 then(bif v11 then((r08_tighter.F (a2,(((a3.1.1.1,a3.1.1.2),a3.1.2),((a3.2.1.1,a3.2.1.2),a3.2.2)),(((v12,v13),v14),((v15,v16),v17)),())).bind fun y19=>
 let v20:=not y19.1
 bif v20 then(some ((a0.1,(a0.2.1,a0.2.2)),zt83,(0:Int),()))
 else(bif v3 then((r08_tighter.F (a2,(((a3.1.1.1,a3.1.1.2),a3.1.2),((a3.2.1.1,a3.2.1.2),a3.2.2)),(((v4,v5),v6),((v7,v8),v9)),())).bind fun y21=>
 bif y21.1 then(some ((a0.1,(a0.2.1,a0.2.2)),((2:Int),v10),(0:Int),()))
 else((r08_Copy.F ((a0.1,(a0.2.1,a0.2.2)),())).bind fun y22=>
 let v23:=([(a1,(a2,(a0.2.1,(v11,((((v12,v13),v14),((v15,v16),v17)),v18)))))]:List Dt70)
 bif decide (List.length y22.1.2.2+List.length v23<925904528653)then(let v24:=List.append y22.1.2.2 v23
 (r05_Norm.F ((((a3.1.1.1,a3.1.1.2),a3.1.2),((a3.2.1.1,a3.2.1.2),a3.2.2)),())).bind fun y25=>
 bif a2 then(bif decide (0≤a1)&&decide (a1<(List.length y22.1.1:Int))then(let v26:=List.set y22.1.1 (Int.toNat a1) ((((List.getD y22.1.1 (Int.toNat a1) zt68).1).1,((((((((((List.getD y22.1.1 (Int.toNat a1) zt68).1).2).1).1).1).1,((((((List.getD y22.1.1 (Int.toNat a1) zt68).1).2).1).1).1).2),(((((List.getD y22.1.1 (Int.toNat a1) zt68).1).2).1).1).2),((((((((List.getD y22.1.1 (Int.toNat a1) zt68).1).2).1).2).1).1,((((((List.getD y22.1.1 (Int.toNat a1) zt68).1).2).1).2).1).2),(((((List.getD y22.1.1 (Int.toNat a1) zt68).1).2).1).2).2)),(((List.getD y22.1.1 (Int.toNat a1) zt68).1).2).2)),(true,((((y25.1.1.1.1,y25.1.1.1.2),y25.1.1.2),((y25.1.2.1.1,y25.1.2.1.2),y25.1.2.2)),a4)))
 some ((v26,(y22.1.2.1,v24)),((1:Int),(0:Int)),(0:Int),()))
 else none)
 else(bif decide (0≤a1)&&decide (a1<(List.length y22.1.1:Int))then(let v27:=List.set y22.1.1 (Int.toNat a1) ((true,((((y25.1.1.1.1,y25.1.1.1.2),y25.1.1.2),((y25.1.2.1.1,y25.1.2.1.2),y25.1.2.2)),a4)),(((List.getD y22.1.1 (Int.toNat a1) zt68).2).1,((((((((((List.getD y22.1.1 (Int.toNat a1) zt68).2).2).1).1).1).1,((((((List.getD y22.1.1 (Int.toNat a1) zt68).2).2).1).1).1).2),(((((List.getD y22.1.1 (Int.toNat a1) zt68).2).2).1).1).2),((((((((List.getD y22.1.1 (Int.toNat a1) zt68).2).2).1).2).1).1,((((((List.getD y22.1.1 (Int.toNat a1) zt68).2).2).1).2).1).2),(((((List.getD y22.1.1 (Int.toNat a1) zt68).2).2).1).2).2)),(((List.getD y22.1.1 (Int.toNat a1) zt68).2).2).2)))
 some ((v27,(y22.1.2.1,v24)),((1:Int),(0:Int)),(0:Int),()))
 else none))
 else none))
 else((r08_Copy.F ((a0.1,(a0.2.1,a0.2.2)),())).bind fun y28=>
 let v29:=([(a1,(a2,(a0.2.1,(v11,((((v12,v13),v14),((v15,v16),v17)),v18)))))]:List Dt70)
 bif decide (List.length y28.1.2.2+List.length v29<925904528653)then(let v30:=List.append y28.1.2.2 v29
 (r05_Norm.F ((((a3.1.1.1,a3.1.1.2),a3.1.2),((a3.2.1.1,a3.2.1.2),a3.2.2)),())).bind fun y31=>
 bif a2 then(bif decide (0≤a1)&&decide (a1<(List.length y28.1.1:Int))then(let v32:=List.set y28.1.1 (Int.toNat a1) ((((List.getD y28.1.1 (Int.toNat a1) zt68).1).1,((((((((((List.getD y28.1.1 (Int.toNat a1) zt68).1).2).1).1).1).1,((((((List.getD y28.1.1 (Int.toNat a1) zt68).1).2).1).1).1).2),(((((List.getD y28.1.1 (Int.toNat a1) zt68).1).2).1).1).2),((((((((List.getD y28.1.1 (Int.toNat a1) zt68).1).2).1).2).1).1,((((((List.getD y28.1.1 (Int.toNat a1) zt68).1).2).1).2).1).2),(((((List.getD y28.1.1 (Int.toNat a1) zt68).1).2).1).2).2)),(((List.getD y28.1.1 (Int.toNat a1) zt68).1).2).2)),(true,((((y31.1.1.1.1,y31.1.1.1.2),y31.1.1.2),((y31.1.2.1.1,y31.1.2.1.2),y31.1.2.2)),a4)))
 some ((v32,(y28.1.2.1,v30)),((1:Int),(0:Int)),(0:Int),()))
 else none)
 else(bif decide (0≤a1)&&decide (a1<(List.length y28.1.1:Int))then(let v33:=List.set y28.1.1 (Int.toNat a1) ((true,((((y31.1.1.1.1,y31.1.1.1.2),y31.1.1.2),((y31.1.2.1.1,y31.1.2.1.2),y31.1.2.2)),a4)),(((List.getD y28.1.1 (Int.toNat a1) zt68).2).1,((((((((((List.getD y28.1.1 (Int.toNat a1) zt68).2).2).1).1).1).1,((((((List.getD y28.1.1 (Int.toNat a1) zt68).2).2).1).1).1).2),(((((List.getD y28.1.1 (Int.toNat a1) zt68).2).2).1).1).2),((((((((List.getD y28.1.1 (Int.toNat a1) zt68).2).2).1).2).1).1,((((((List.getD y28.1.1 (Int.toNat a1) zt68).2).2).1).2).1).2),(((((List.getD y28.1.1 (Int.toNat a1) zt68).2).2).1).2).2)),(((List.getD y28.1.1 (Int.toNat a1) zt68).2).2).2)))
 some ((v33,(y28.1.2.1,v30)),((1:Int),(0:Int)),(0:Int),()))
 else none))
 else none)))
 else(bif v3 then((r08_tighter.F (a2,(((a3.1.1.1,a3.1.1.2),a3.1.2),((a3.2.1.1,a3.2.1.2),a3.2.2)),(((v4,v5),v6),((v7,v8),v9)),())).bind fun y34=>
 bif y34.1 then(some ((a0.1,(a0.2.1,a0.2.2)),((2:Int),v10),(0:Int),()))
 else((r08_Copy.F ((a0.1,(a0.2.1,a0.2.2)),())).bind fun y35=>
 let v36:=([(a1,(a2,(a0.2.1,(v11,((((v12,v13),v14),((v15,v16),v17)),v18)))))]:List Dt70)
 bif decide (List.length y35.1.2.2+List.length v36<925904528653)then(let v37:=List.append y35.1.2.2 v36
 (r05_Norm.F ((((a3.1.1.1,a3.1.1.2),a3.1.2),((a3.2.1.1,a3.2.1.2),a3.2.2)),())).bind fun y38=>
 bif a2 then(bif decide (0≤a1)&&decide (a1<(List.length y35.1.1:Int))then(let v39:=List.set y35.1.1 (Int.toNat a1) ((((List.getD y35.1.1 (Int.toNat a1) zt68).1).1,((((((((((List.getD y35.1.1 (Int.toNat a1) zt68).1).2).1).1).1).1,((((((List.getD y35.1.1 (Int.toNat a1) zt68).1).2).1).1).1).2),(((((List.getD y35.1.1 (Int.toNat a1) zt68).1).2).1).1).2),((((((((List.getD y35.1.1 (Int.toNat a1) zt68).1).2).1).2).1).1,((((((List.getD y35.1.1 (Int.toNat a1) zt68).1).2).1).2).1).2),(((((List.getD y35.1.1 (Int.toNat a1) zt68).1).2).1).2).2)),(((List.getD y35.1.1 (Int.toNat a1) zt68).1).2).2)),(true,((((y38.1.1.1.1,y38.1.1.1.2),y38.1.1.2),((y38.1.2.1.1,y38.1.2.1.2),y38.1.2.2)),a4)))
 some ((v39,(y35.1.2.1,v37)),((1:Int),(0:Int)),(0:Int),()))
 else none)
 else(bif decide (0≤a1)&&decide (a1<(List.length y35.1.1:Int))then(let v40:=List.set y35.1.1 (Int.toNat a1) ((true,((((y38.1.1.1.1,y38.1.1.1.2),y38.1.1.2),((y38.1.2.1.1,y38.1.2.1.2),y38.1.2.2)),a4)),(((List.getD y35.1.1 (Int.toNat a1) zt68).2).1,((((((((((List.getD y35.1.1 (Int.toNat a1) zt68).2).2).1).1).1).1,((((((List.getD y35.1.1 (Int.toNat a1) zt68).2).2).1).1).1).2),(((((List.getD y35.1.1 (Int.toNat a1) zt68).2).2).1).1).2),((((((((List.getD y35.1.1 (Int.toNat a1) zt68).2).2).1).2).1).1,((((((List.getD y35.1.1 (Int.toNat a1) zt68).2).2).1).2).1).2),(((((List.getD y35.1.1 (Int.toNat a1) zt68).2).2).1).2).2)),(((List.getD y35.1.1 (Int.toNat a1) zt68).2).2).2)))
 some ((v40,(y35.1.2.1,v37)),((1:Int),(0:Int)),(0:Int),()))
 else none))
 else none))
 else((r08_Copy.F ((a0.1,(a0.2.1,a0.2.2)),())).bind fun y41=>
 let v42:=([(a1,(a2,(a0.2.1,(v11,((((v12,v13),v14),((v15,v16),v17)),v18)))))]:List Dt70)
 bif decide (List.length y41.1.2.2+List.length v42<925904528653)then(let v43:=List.append y41.1.2.2 v42
 (r05_Norm.F ((((a3.1.1.1,a3.1.1.2),a3.1.2),((a3.2.1.1,a3.2.1.2),a3.2.2)),())).bind fun y44=>
 bif a2 then(bif decide (0≤a1)&&decide (a1<(List.length y41.1.1:Int))then(let v45:=List.set y41.1.1 (Int.toNat a1) ((((List.getD y41.1.1 (Int.toNat a1) zt68).1).1,((((((((((List.getD y41.1.1 (Int.toNat a1) zt68).1).2).1).1).1).1,((((((List.getD y41.1.1 (Int.toNat a1) zt68).1).2).1).1).1).2),(((((List.getD y41.1.1 (Int.toNat a1) zt68).1).2).1).1).2),((((((((List.getD y41.1.1 (Int.toNat a1) zt68).1).2).1).2).1).1,((((((List.getD y41.1.1 (Int.toNat a1) zt68).1).2).1).2).1).2),(((((List.getD y41.1.1 (Int.toNat a1) zt68).1).2).1).2).2)),(((List.getD y41.1.1 (Int.toNat a1) zt68).1).2).2)),(true,((((y44.1.1.1.1,y44.1.1.1.2),y44.1.1.2),((y44.1.2.1.1,y44.1.2.1.2),y44.1.2.2)),a4)))
 some ((v45,(y41.1.2.1,v43)),((1:Int),(0:Int)),(0:Int),()))
 else none)
 else(bif decide (0≤a1)&&decide (a1<(List.length y41.1.1:Int))then(let v46:=List.set y41.1.1 (Int.toNat a1) ((true,((((y44.1.1.1.1,y44.1.1.1.2),y44.1.1.2),((y44.1.2.1.1,y44.1.2.1.2),y44.1.2.2)),a4)),(((List.getD y41.1.1 (Int.toNat a1) zt68).2).1,((((((((((List.getD y41.1.1 (Int.toNat a1) zt68).2).2).1).1).1).1,((((((List.getD y41.1.1 (Int.toNat a1) zt68).2).2).1).1).1).2),(((((List.getD y41.1.1 (Int.toNat a1) zt68).2).2).1).1).2),((((((((List.getD y41.1.1 (Int.toNat a1) zt68).2).2).1).2).1).1,((((((List.getD y41.1.1 (Int.toNat a1) zt68).2).2).1).2).1).2),(((((List.getD y41.1.1 (Int.toNat a1) zt68).2).2).1).2).2)),(((List.getD y41.1.1 (Int.toNat a1) zt68).2).2).2)))
 some ((v46,(y41.1.2.1,v43)),((1:Int),(0:Int)),(0:Int),()))
 else none))
 else none)))
 else(bif v3 then((r08_tighter.F (a2,(((a3.1.1.1,a3.1.1.2),a3.1.2),((a3.2.1.1,a3.2.1.2),a3.2.2)),(((v4,v5),v6),((v7,v8),v9)),())).bind fun y47=>
 let v48:=not y47.1
 bif v48 then(some ((a0.1,(a0.2.1,a0.2.2)),zt83,(0:Int),()))
 else(bif v11 then((r08_tighter.F (a2,(((a3.1.1.1,a3.1.1.2),a3.1.2),((a3.2.1.1,a3.2.1.2),a3.2.2)),(((v12,v13),v14),((v15,v16),v17)),())).bind fun y49=>
 bif y49.1 then(some ((a0.1,(a0.2.1,a0.2.2)),((2:Int),v18),(0:Int),()))
 else((r08_Copy.F ((a0.1,(a0.2.1,a0.2.2)),())).bind fun y50=>
 let v51:=([(a1,(a2,(a0.2.1,(v3,((((v4,v5),v6),((v7,v8),v9)),v10)))))]:List Dt70)
 bif decide (List.length y50.1.2.2+List.length v51<925904528653)then(let v52:=List.append y50.1.2.2 v51
 (r05_Norm.F ((((a3.1.1.1,a3.1.1.2),a3.1.2),((a3.2.1.1,a3.2.1.2),a3.2.2)),())).bind fun y53=>
 bif a2 then(bif decide (0≤a1)&&decide (a1<(List.length y50.1.1:Int))then(let v54:=List.set y50.1.1 (Int.toNat a1) ((((List.getD y50.1.1 (Int.toNat a1) zt68).1).1,((((((((((List.getD y50.1.1 (Int.toNat a1) zt68).1).2).1).1).1).1,((((((List.getD y50.1.1 (Int.toNat a1) zt68).1).2).1).1).1).2),(((((List.getD y50.1.1 (Int.toNat a1) zt68).1).2).1).1).2),((((((((List.getD y50.1.1 (Int.toNat a1) zt68).1).2).1).2).1).1,((((((List.getD y50.1.1 (Int.toNat a1) zt68).1).2).1).2).1).2),(((((List.getD y50.1.1 (Int.toNat a1) zt68).1).2).1).2).2)),(((List.getD y50.1.1 (Int.toNat a1) zt68).1).2).2)),(true,((((y53.1.1.1.1,y53.1.1.1.2),y53.1.1.2),((y53.1.2.1.1,y53.1.2.1.2),y53.1.2.2)),a4)))
 some ((v54,(y50.1.2.1,v52)),((1:Int),(0:Int)),(0:Int),()))
 else none)
 else(bif decide (0≤a1)&&decide (a1<(List.length y50.1.1:Int))then(let v55:=List.set y50.1.1 (Int.toNat a1) ((true,((((y53.1.1.1.1,y53.1.1.1.2),y53.1.1.2),((y53.1.2.1.1,y53.1.2.1.2),y53.1.2.2)),a4)),(((List.getD y50.1.1 (Int.toNat a1) zt68).2).1,((((((((((List.getD y50.1.1 (Int.toNat a1) zt68).2).2).1).1).1).1,((((((List.getD y50.1.1 (Int.toNat a1) zt68).2).2).1).1).1).2),(((((List.getD y50.1.1 (Int.toNat a1) zt68).2).2).1).1).2),((((((((List.getD y50.1.1 (Int.toNat a1) zt68).2).2).1).2).1).1,((((((List.getD y50.1.1 (Int.toNat a1) zt68).2).2).1).2).1).2),(((((List.getD y50.1.1 (Int.toNat a1) zt68).2).2).1).2).2)),(((List.getD y50.1.1 (Int.toNat a1) zt68).2).2).2)))
 some ((v55,(y50.1.2.1,v52)),((1:Int),(0:Int)),(0:Int),()))
 else none))
 else none))
 else((r08_Copy.F ((a0.1,(a0.2.1,a0.2.2)),())).bind fun y56=>
 let v57:=([(a1,(a2,(a0.2.1,(v3,((((v4,v5),v6),((v7,v8),v9)),v10)))))]:List Dt70)
 bif decide (List.length y56.1.2.2+List.length v57<925904528653)then(let v58:=List.append y56.1.2.2 v57
 (r05_Norm.F ((((a3.1.1.1,a3.1.1.2),a3.1.2),((a3.2.1.1,a3.2.1.2),a3.2.2)),())).bind fun y59=>
 bif a2 then(bif decide (0≤a1)&&decide (a1<(List.length y56.1.1:Int))then(let v60:=List.set y56.1.1 (Int.toNat a1) ((((List.getD y56.1.1 (Int.toNat a1) zt68).1).1,((((((((((List.getD y56.1.1 (Int.toNat a1) zt68).1).2).1).1).1).1,((((((List.getD y56.1.1 (Int.toNat a1) zt68).1).2).1).1).1).2),(((((List.getD y56.1.1 (Int.toNat a1) zt68).1).2).1).1).2),((((((((List.getD y56.1.1 (Int.toNat a1) zt68).1).2).1).2).1).1,((((((List.getD y56.1.1 (Int.toNat a1) zt68).1).2).1).2).1).2),(((((List.getD y56.1.1 (Int.toNat a1) zt68).1).2).1).2).2)),(((List.getD y56.1.1 (Int.toNat a1) zt68).1).2).2)),(true,((((y59.1.1.1.1,y59.1.1.1.2),y59.1.1.2),((y59.1.2.1.1,y59.1.2.1.2),y59.1.2.2)),a4)))
 some ((v60,(y56.1.2.1,v58)),((1:Int),(0:Int)),(0:Int),()))
 else none)
 else(bif decide (0≤a1)&&decide (a1<(List.length y56.1.1:Int))then(let v61:=List.set y56.1.1 (Int.toNat a1) ((true,((((y59.1.1.1.1,y59.1.1.1.2),y59.1.1.2),((y59.1.2.1.1,y59.1.2.1.2),y59.1.2.2)),a4)),(((List.getD y56.1.1 (Int.toNat a1) zt68).2).1,((((((((((List.getD y56.1.1 (Int.toNat a1) zt68).2).2).1).1).1).1,((((((List.getD y56.1.1 (Int.toNat a1) zt68).2).2).1).1).1).2),(((((List.getD y56.1.1 (Int.toNat a1) zt68).2).2).1).1).2),((((((((List.getD y56.1.1 (Int.toNat a1) zt68).2).2).1).2).1).1,((((((List.getD y56.1.1 (Int.toNat a1) zt68).2).2).1).2).1).2),(((((List.getD y56.1.1 (Int.toNat a1) zt68).2).2).1).2).2)),(((List.getD y56.1.1 (Int.toNat a1) zt68).2).2).2)))
 some ((v61,(y56.1.2.1,v58)),((1:Int),(0:Int)),(0:Int),()))
 else none))
 else none)))
 else(bif v11 then((r08_tighter.F (a2,(((a3.1.1.1,a3.1.1.2),a3.1.2),((a3.2.1.1,a3.2.1.2),a3.2.2)),(((v12,v13),v14),((v15,v16),v17)),())).bind fun y62=>
 bif y62.1 then(some ((a0.1,(a0.2.1,a0.2.2)),((2:Int),v18),(0:Int),()))
 else((r08_Copy.F ((a0.1,(a0.2.1,a0.2.2)),())).bind fun y63=>
 let v64:=([(a1,(a2,(a0.2.1,(v3,((((v4,v5),v6),((v7,v8),v9)),v10)))))]:List Dt70)
 bif decide (List.length y63.1.2.2+List.length v64<925904528653)then(let v65:=List.append y63.1.2.2 v64
 (r05_Norm.F ((((a3.1.1.1,a3.1.1.2),a3.1.2),((a3.2.1.1,a3.2.1.2),a3.2.2)),())).bind fun y66=>
 bif a2 then(bif decide (0≤a1)&&decide (a1<(List.length y63.1.1:Int))then(let v67:=List.set y63.1.1 (Int.toNat a1) ((((List.getD y63.1.1 (Int.toNat a1) zt68).1).1,((((((((((List.getD y63.1.1 (Int.toNat a1) zt68).1).2).1).1).1).1,((((((List.getD y63.1.1 (Int.toNat a1) zt68).1).2).1).1).1).2),(((((List.getD y63.1.1 (Int.toNat a1) zt68).1).2).1).1).2),((((((((List.getD y63.1.1 (Int.toNat a1) zt68).1).2).1).2).1).1,((((((List.getD y63.1.1 (Int.toNat a1) zt68).1).2).1).2).1).2),(((((List.getD y63.1.1 (Int.toNat a1) zt68).1).2).1).2).2)),(((List.getD y63.1.1 (Int.toNat a1) zt68).1).2).2)),(true,((((y66.1.1.1.1,y66.1.1.1.2),y66.1.1.2),((y66.1.2.1.1,y66.1.2.1.2),y66.1.2.2)),a4)))
 some ((v67,(y63.1.2.1,v65)),((1:Int),(0:Int)),(0:Int),()))
 else none)
 else(bif decide (0≤a1)&&decide (a1<(List.length y63.1.1:Int))then(let v68:=List.set y63.1.1 (Int.toNat a1) ((true,((((y66.1.1.1.1,y66.1.1.1.2),y66.1.1.2),((y66.1.2.1.1,y66.1.2.1.2),y66.1.2.2)),a4)),(((List.getD y63.1.1 (Int.toNat a1) zt68).2).1,((((((((((List.getD y63.1.1 (Int.toNat a1) zt68).2).2).1).1).1).1,((((((List.getD y63.1.1 (Int.toNat a1) zt68).2).2).1).1).1).2),(((((List.getD y63.1.1 (Int.toNat a1) zt68).2).2).1).1).2),((((((((List.getD y63.1.1 (Int.toNat a1) zt68).2).2).1).2).1).1,((((((List.getD y63.1.1 (Int.toNat a1) zt68).2).2).1).2).1).2),(((((List.getD y63.1.1 (Int.toNat a1) zt68).2).2).1).2).2)),(((List.getD y63.1.1 (Int.toNat a1) zt68).2).2).2)))
 some ((v68,(y63.1.2.1,v65)),((1:Int),(0:Int)),(0:Int),()))
 else none))
 else none))
 else((r08_Copy.F ((a0.1,(a0.2.1,a0.2.2)),())).bind fun y69=>
 let v70:=([(a1,(a2,(a0.2.1,(v3,((((v4,v5),v6),((v7,v8),v9)),v10)))))]:List Dt70)
 bif decide (List.length y69.1.2.2+List.length v70<925904528653)then(let v71:=List.append y69.1.2.2 v70
 (r05_Norm.F ((((a3.1.1.1,a3.1.1.2),a3.1.2),((a3.2.1.1,a3.2.1.2),a3.2.2)),())).bind fun y72=>
 bif a2 then(bif decide (0≤a1)&&decide (a1<(List.length y69.1.1:Int))then(let v73:=List.set y69.1.1 (Int.toNat a1) ((((List.getD y69.1.1 (Int.toNat a1) zt68).1).1,((((((((((List.getD y69.1.1 (Int.toNat a1) zt68).1).2).1).1).1).1,((((((List.getD y69.1.1 (Int.toNat a1) zt68).1).2).1).1).1).2),(((((List.getD y69.1.1 (Int.toNat a1) zt68).1).2).1).1).2),((((((((List.getD y69.1.1 (Int.toNat a1) zt68).1).2).1).2).1).1,((((((List.getD y69.1.1 (Int.toNat a1) zt68).1).2).1).2).1).2),(((((List.getD y69.1.1 (Int.toNat a1) zt68).1).2).1).2).2)),(((List.getD y69.1.1 (Int.toNat a1) zt68).1).2).2)),(true,((((y72.1.1.1.1,y72.1.1.1.2),y72.1.1.2),((y72.1.2.1.1,y72.1.2.1.2),y72.1.2.2)),a4)))
 some ((v73,(y69.1.2.1,v71)),((1:Int),(0:Int)),(0:Int),()))
 else none)
 else(bif decide (0≤a1)&&decide (a1<(List.length y69.1.1:Int))then(let v74:=List.set y69.1.1 (Int.toNat a1) ((true,((((y72.1.1.1.1,y72.1.1.1.2),y72.1.1.2),((y72.1.2.1.1,y72.1.2.1.2),y72.1.2.2)),a4)),(((List.getD y69.1.1 (Int.toNat a1) zt68).2).1,((((((((((List.getD y69.1.1 (Int.toNat a1) zt68).2).2).1).1).1).1,((((((List.getD y69.1.1 (Int.toNat a1) zt68).2).2).1).1).1).2),(((((List.getD y69.1.1 (Int.toNat a1) zt68).2).2).1).1).2),((((((((List.getD y69.1.1 (Int.toNat a1) zt68).2).2).1).2).1).1,((((((List.getD y69.1.1 (Int.toNat a1) zt68).2).2).1).2).1).2),(((((List.getD y69.1.1 (Int.toNat a1) zt68).2).2).1).2).2)),(((List.getD y69.1.1 (Int.toNat a1) zt68).2).2).2)))
 some ((v74,(y69.1.2.1,v71)),((1:Int),(0:Int)),(0:Int),()))
 else none))
 else none))))
 else none)
 else none)
theorem eval (k:Nat)(a0:Dt32)(a1:Int)(a2:Bool)(a3:Dt44)(a4:Int):evalF spec cals T Tryz.f29 k (a0,a1,a2,a3,a4,())=e a0 a1 a2 a3 a4:=by kernel_rfl
theorem of (k:Nat)(a0:Dt32)(a1:Int)(a2:Bool)(a3:Dt44)(a4:Int){y:Dt32×Dt83×Int×Unit}(h:e a0 a1 a2 a3 a4=some y):F (a0,a1,a2,a3,a4,())=some y:=limF_of k ((eval k a0 a1 a2 a3 a4).trans h)
end r08_Assert
namespace bounds_Store_Push
def spec:XSpec:=⟨some ⟨81,0,Kt81,0⟩,false,[],false,none,[],false,fun j=>match j with|_=>[]⟩
def cals:Cals:=(Cals.consX 36 false bounds_Store_is.sig (Cals.base tabs))
def sig:XSig:=spec.sig cals T Tryz.f30
def F (d:Dt81)(x:Unit):Option (Unit×(Unit)×Dt81):=limX spec cals T Tryz.f30 d x
theorem ck:CalsOk Tryz.prog cals:=(CalsOk.consX bounds_Store_is.cal (CalsOk.base tabsOk))
theorem cal:XOk Tryz.prog tabs 30 sig:=xok_of tabOk ck mix Tryz.func30 (by kernel_rfl) (by kernel_rfl) (by kernel_rfl) (by kernel_rfl)
def e (G:Gh)(d:Dt81):Option ((Unit×(Unit)×Dt81)×Nat×List Value):=
 (bounds_Store_is.F ((d.1.1,d.1.2),(d.2.1,d.2.2)) ()).bind fun y1=>
 bif y1.2.1.1 then(let v2:=IntKind.i64.wrap (y1.2.2.1.1+(1:Int))
 some (((),(),((v2,y1.2.2.1.2),(y1.2.2.2.1,y1.2.2.2.2))),G.b,[]))
 else(some (((),(),((y1.2.2.1.1,y1.2.2.1.2),(y1.2.2.2.1,y1.2.2.2.2))),G.b,[]))
theorem eval (k:Nat)(G:Gh)(d:Dt81):evalX spec cals T Tryz.f30 k G d ()=e G d:=by kernel_rfl
theorem of (d:Dt81)(y:(Unit×(Unit)×Dt81))(h:∀G:Gh,∃k:Nat,e G d=some (y,(G.b,[]))):F d ()=some y:=limX_of (q:=spec) (C:=cals) (T:=T) (f:=Tryz.f30) (d:=d) (x:=()) y fun G=>(h G).imp fun k hk=>(eval k G d).trans hk
end bounds_Store_Push
namespace r08_Push
def spec:Spec:=⟨[(true,Kt32)],[(true,Kt32)],.own,fun j=>match j with|_=>[]⟩
def cals:Cals:=(Cals.cons 60 r08_Copy.sig (Cals.base tabs))
def sig:Sig:=spec.sig cals T Tryz.f31
def F (x:Dt32×Unit):Option (Dt32×Unit):=limF spec cals T Tryz.f31 x
theorem ck:CalsOk Tryz.prog cals:=(CalsOk.cons r08_Copy.cal (CalsOk.base tabsOk))
theorem cal:CalOk Tryz.prog tabs 31 sig:=calOk_lim' tabOk ck mix Tryz.func31 (by kernel_rfl) (by kernel_rfl) (by kernel_rfl) (by kernel_rfl)
def e (a0:Dt32):Option (Dt32×Unit):=
 (r08_Copy.F ((a0.1,(a0.2.1,a0.2.2)),())).bind fun y1=>
 let v2:=IntKind.i64.wrap (y1.1.2.1+(1:Int))
 some ((y1.1.1,(v2,y1.1.2.2)),())
theorem eval (k:Nat)(a0:Dt32):evalF spec cals T Tryz.f31 k (a0,())=e a0:=by kernel_rfl
theorem of (k:Nat)(a0:Dt32){y:Dt32×Unit}(h:e a0=some y):F (a0,())=some y:=limF_of k ((eval k a0).trans h)
end r08_Push
namespace bounds_trail_last
def spec:XSpec:=⟨some ⟨81,0,Kt79,2⟩,false,[(false,(.int .i64))],false,none,[(true,Kt70),(false,.bool)],false,fun j=>match j with|_=>[]⟩
def cals:Cals:=(Cals.base tabs)
def sig:XSig:=spec.sig cals T Tryz.f66
def F (d:Dt79)(x:Int×Unit):Option (Unit×(Dt70×Bool×Unit)×Dt79):=limX spec cals T Tryz.f66 d x
theorem ck:CalsOk Tryz.prog cals:=(CalsOk.base tabsOk)
theorem cal:XOk Tryz.prog tabs 66 sig:=xok_of tabOk ck mix Tryz.func66 (by kernel_rfl) (by kernel_rfl) (by kernel_rfl) (by kernel_rfl)
def e (G:Gh)(d:Dt79)(a0:Int):Option ((Unit×(Dt70×Bool×Unit)×Dt79)×Nat×List Value):=
 let v1:=(List.length d.2:Int)
 let v2:=IntKind.i64.wrap (v1-(1:Int))
 let v3:=decide (v2<(0:Int))
 bif v3 then(some (((),(zt70,false,()),(d.1,d.2)),G.b,[G.v 0,G.v 1]))
 else(bif decide (0≤v2)&&decide (v2<(List.length d.2:Int))then(let v4:=(((List.getD d.2 (Int.toNat v2) zt70).2).2).1
 let v5:=decide (v4≤a0)
 bif v5 then(some (((),(zt70,false,()),(d.1,d.2)),G.b,[G.v 0,G.v 1]))
 else(bif decide (0≤v2)&&decide (v2<(List.length d.2:Int))then(let v6:=(List.getD d.2 (Int.toNat v2) zt70).1
 let v7:=((List.getD d.2 (Int.toNat v2) zt70).2).1
 let v8:=(((List.getD d.2 (Int.toNat v2) zt70).2).2).1
 let v9:=((((List.getD d.2 (Int.toNat v2) zt70).2).2).2).1
 let v10:=((((((((List.getD d.2 (Int.toNat v2) zt70).2).2).2).2).1).1).1).1
 let v11:=((((((((List.getD d.2 (Int.toNat v2) zt70).2).2).2).2).1).1).1).2
 let v12:=(((((((List.getD d.2 (Int.toNat v2) zt70).2).2).2).2).1).1).2
 let v13:=((((((((List.getD d.2 (Int.toNat v2) zt70).2).2).2).2).1).2).1).1
 let v14:=((((((((List.getD d.2 (Int.toNat v2) zt70).2).2).2).2).1).2).1).2
 let v15:=(((((((List.getD d.2 (Int.toNat v2) zt70).2).2).2).2).1).2).2
 let v16:=(((((List.getD d.2 (Int.toNat v2) zt70).2).2).2).2).2
 bif decide (0≤v2)&&decide (v2≤(List.length d.2:Int))then(let v17:=List.take (Int.toNat v2) d.2
 some (((),((v6,(v7,(v8,(v9,((((v10,v11),v12),((v13,v14),v15)),v16))))),true,()),(d.1,v17)),G.b,[G.v 0,G.v 1]))
 else none)
 else none))
 else none)
theorem eval (k:Nat)(G:Gh)(d:Dt79)(a0:Int):evalX spec cals T Tryz.f66 k G d (a0,())=e G d a0:=by kernel_rfl
theorem of (d:Dt79)(a0:Int)(y:(Unit×(Dt70×Bool×Unit)×Dt79))(h:∀G:Gh,∃k:Nat,e G d a0=some (y,(G.b,[G.v 0,G.v 1]))):F d (a0,())=some y:=limX_of (q:=spec) (C:=cals) (T:=T) (f:=Tryz.f66) (d:=d) (x:=(a0,())) y fun G=>(h G).imp fun k hk=>(eval k G d a0).trans hk
end bounds_trail_last
namespace bounds_Store_Back
def spec:XSpec:=⟨some ⟨81,0,Kt81,0⟩,false,[(false,(.int .i64))],false,none,[(false,(.int .i64))],false,fun j=>match j with|6=>[(0,.pbox 81 [.v true,.o 70 Kt70 true,.v true,.o 68 Kt68 true]),(1,.lf (.v true)),(5,.box 70 [.v true,.v true,.v true,.v true,.v true,.z 114 (.int .u32) true,.z 114 (.int .u32) true,.v true,.z 114 (.int .u32) true,.z 114 (.int .u32) true,.v true]),(6,.lf (.v true))]|_=>[]⟩
def cals:Cals:=(Cals.consX 36 false bounds_Store_is.sig (Cals.consX 66 false bounds_trail_last.sig (Cals.base tabs)))
def sig:XSig:=spec.sig cals T Tryz.f32
def F (d:Dt81)(x:Int×Unit):Option (Unit×(Int×Unit)×Dt81):=limX spec cals T Tryz.f32 d x
theorem ck:CalsOk Tryz.prog cals:=(CalsOk.consX bounds_Store_is.cal (CalsOk.consX bounds_trail_last.cal (CalsOk.base tabsOk)))
theorem cal:XOk Tryz.prog tabs 32 sig:=xok_of tabOk ck mix Tryz.func32 (by kernel_rfl) (by kernel_rfl) (by kernel_rfl) (by kernel_rfl)
def m6 (x0_g:Nat)(x0_0:Int)(x0_1:Dt30)(x0_2:Bool)(x0_3:Dt29)(x1:Int)(x5_0:Int)(x5_1:Bool)(x5_2:Int)(x5_3:Bool)(x5_4:Bool)(x5_5:Dt38)(x5_6:Dt38)(x5_7:Bool)(x5_8:Dt38)(x5_9:Dt38)(x5_10:Int)(x6:Bool):S:=⟨[(0,.pbox 0 0 x0_g),(1,.one (.lf (.val true (.int .i64) x1))),(5,.box 1 0),(6,.one (.lf (.val true .bool x6)))],⟨[some ⟨70,Kt70,true,true,x0_1⟩,some ⟨68,Kt68,true,true,x0_3⟩],[some ⟨81,[.val true (.int .i64) x0_0,.own 0,.val true .bool x0_2,.own 1]⟩,some ⟨70,[.val true (.int .i64) x5_0,.val true .bool x5_1,.val true (.int .i64) x5_2,.val true .bool x5_3,.val true .bool x5_4,.val true Kt38 x5_5,.val true Kt38 x5_6,.val true .bool x5_7,.val true Kt38 x5_8,.val true Kt38 x5_9,.val true (.int .i64) x5_10]⟩]⟩⟩
def b6 (f6:Nat→Int→Dt30→Bool→Dt29→Int→Int→Bool→Int→Bool→Bool→Dt38→Dt38→Bool→Dt38→Dt38→Int→Bool→Option ((Unit×(Int×Unit)×Dt81)×Nat×List Value))(x0_g:Nat)(x0_0:Int)(x0_1:Dt30)(x0_2:Bool)(x0_3:Dt29)(x1:Int)(x5_0:Int)(x5_1:Bool)(x5_2:Int)(x5_3:Bool)(x5_4:Bool)(x5_5:Dt38)(x5_6:Dt38)(x5_7:Bool)(x5_8:Dt38)(x5_9:Dt38)(x5_10:Int)(x6:Bool):Option ((Unit×(Int×Unit)×Dt81)×Nat×List Value):=
 bif x6 then(bif x5_1 then(bif decide (0≤x5_0)&&decide (x5_0<(List.length x0_3:Int))then(let v1:=List.set x0_3 (Int.toNat x5_0) ((((List.getD x0_3 (Int.toNat x5_0) zt68).1).1,((((((((((List.getD x0_3 (Int.toNat x5_0) zt68).1).2).1).1).1).1,((((((List.getD x0_3 (Int.toNat x5_0) zt68).1).2).1).1).1).2),(((((List.getD x0_3 (Int.toNat x5_0) zt68).1).2).1).1).2),((((((((List.getD x0_3 (Int.toNat x5_0) zt68).1).2).1).2).1).1,((((((List.getD x0_3 (Int.toNat x5_0) zt68).1).2).1).2).1).2),(((((List.getD x0_3 (Int.toNat x5_0) zt68).1).2).1).2).2)),(((List.getD x0_3 (Int.toNat x5_0) zt68).1).2).2)),(x5_3,((((x5_4,x5_5),x5_6),((x5_7,x5_8),x5_9)),x5_10)))
 (bounds_trail_last.F (x0_0,x0_1) (x1,())).bind fun y2=>
 f6 x0_g y2.2.2.1 y2.2.2.2 x0_2 v1 x1 y2.2.1.1.1 y2.2.1.1.2.1 y2.2.1.1.2.2.1 y2.2.1.1.2.2.2.1 y2.2.1.1.2.2.2.2.1.1.1.1 y2.2.1.1.2.2.2.2.1.1.1.2 y2.2.1.1.2.2.2.2.1.1.2 y2.2.1.1.2.2.2.2.1.2.1.1 y2.2.1.1.2.2.2.2.1.2.1.2 y2.2.1.1.2.2.2.2.1.2.2 y2.2.1.1.2.2.2.2.2 y2.2.1.2.1)
 else none)
 else(bif decide (0≤x5_0)&&decide (x5_0<(List.length x0_3:Int))then(let v3:=List.set x0_3 (Int.toNat x5_0) ((x5_3,((((x5_4,x5_5),x5_6),((x5_7,x5_8),x5_9)),x5_10)),(((List.getD x0_3 (Int.toNat x5_0) zt68).2).1,((((((((((List.getD x0_3 (Int.toNat x5_0) zt68).2).2).1).1).1).1,((((((List.getD x0_3 (Int.toNat x5_0) zt68).2).2).1).1).1).2),(((((List.getD x0_3 (Int.toNat x5_0) zt68).2).2).1).1).2),((((((((List.getD x0_3 (Int.toNat x5_0) zt68).2).2).1).2).1).1,((((((List.getD x0_3 (Int.toNat x5_0) zt68).2).2).1).2).1).2),(((((List.getD x0_3 (Int.toNat x5_0) zt68).2).2).1).2).2)),(((List.getD x0_3 (Int.toNat x5_0) zt68).2).2).2)))
 (bounds_trail_last.F (x0_0,x0_1) (x1,())).bind fun y4=>
 f6 x0_g y4.2.2.1 y4.2.2.2 x0_2 v3 x1 y4.2.1.1.1 y4.2.1.1.2.1 y4.2.1.1.2.2.1 y4.2.1.1.2.2.2.1 y4.2.1.1.2.2.2.2.1.1.1.1 y4.2.1.1.2.2.2.2.1.1.1.2 y4.2.1.1.2.2.2.2.1.1.2 y4.2.1.1.2.2.2.2.1.2.1.1 y4.2.1.1.2.2.2.2.1.2.1.2 y4.2.1.1.2.2.2.2.1.2.2 y4.2.1.1.2.2.2.2.2 y4.2.1.2.1)
 else none))
 else(some (((),((0:Int),()),((x1,x0_1),(x0_2,x0_3))),x0_g,[]))
def e (f6:Nat→Int→Dt30→Bool→Dt29→Int→Int→Bool→Int→Bool→Bool→Dt38→Dt38→Bool→Dt38→Dt38→Int→Bool→Option ((Unit×(Int×Unit)×Dt81)×Nat×List Value))(G:Gh)(d:Dt81)(a0:Int):Option ((Unit×(Int×Unit)×Dt81)×Nat×List Value):=
 (bounds_Store_is.F ((d.1.1,d.1.2),(d.2.1,d.2.2)) ()).bind fun y1=>
 let v2:=not y1.2.1.1
 bif v2 then(some (((),((1:Int),()),((y1.2.2.1.1,y1.2.2.1.2),(y1.2.2.2.1,y1.2.2.2.2))),G.b,[]))
 else(let v3:=decide (a0<(0:Int))
 bif v3 then(some (((),((80:Int),()),((y1.2.2.1.1,y1.2.2.1.2),(y1.2.2.2.1,y1.2.2.2.2))),G.b,[]))
 else(let v4:=decide (a0>y1.2.2.1.1)
 bif v4 then(some (((),((80:Int),()),((y1.2.2.1.1,y1.2.2.1.2),(y1.2.2.2.1,y1.2.2.2.2))),G.b,[]))
 else((bounds_trail_last.F (y1.2.2.1.1,y1.2.2.1.2) (a0,())).bind fun y5=>
 f6 G.b y5.2.2.1 y5.2.2.2 y1.2.2.2.1 y1.2.2.2.2 a0 y5.2.1.1.1 y5.2.1.1.2.1 y5.2.1.1.2.2.1 y5.2.1.1.2.2.2.1 y5.2.1.1.2.2.2.2.1.1.1.1 y5.2.1.1.2.2.2.2.1.1.1.2 y5.2.1.1.2.2.2.2.1.1.2 y5.2.1.1.2.2.2.2.1.2.1.1 y5.2.1.1.2.2.2.2.1.2.1.2 y5.2.1.1.2.2.2.2.1.2.2 y5.2.1.1.2.2.2.2.2 y5.2.1.2.1)))
def L6 (k:Nat)(x0_g:Nat)(x0_0:Int)(x0_1:Dt30)(x0_2:Bool)(x0_3:Dt29)(x1:Int)(x5_0:Int)(x5_1:Bool)(x5_2:Int)(x5_3:Bool)(x5_4:Bool)(x5_5:Dt38)(x5_6:Dt38)(x5_7:Bool)(x5_8:Dt38)(x5_9:Dt38)(x5_10:Int)(x6:Bool):Option ((Unit×(Int×Unit)×Dt81)×Nat×List Value):=heads (spec.env cals T Tryz.f32) (Func.pts Tryz.f32) k 6 (m6 x0_g x0_0 x0_1 x0_2 x0_3 x1 x5_0 x5_1 x5_2 x5_3 x5_4 x5_5 x5_6 x5_7 x5_8 x5_9 x5_10 x6)
theorem L6_succ (k:Nat)(x0_g:Nat)(x0_0:Int)(x0_1:Dt30)(x0_2:Bool)(x0_3:Dt29)(x1:Int)(x5_0:Int)(x5_1:Bool)(x5_2:Int)(x5_3:Bool)(x5_4:Bool)(x5_5:Dt38)(x5_6:Dt38)(x5_7:Bool)(x5_8:Dt38)(x5_9:Dt38)(x5_10:Int)(x6:Bool):L6 (k+1) x0_g x0_0 x0_1 x0_2 x0_3 x1 x5_0 x5_1 x5_2 x5_3 x5_4 x5_5 x5_6 x5_7 x5_8 x5_9 x5_10 x6=b6 (L6 k) x0_g x0_0 x0_1 x0_2 x0_3 x1 x5_0 x5_1 x5_2 x5_3 x5_4 x5_5 x5_6 x5_7 x5_8 x5_9 x5_10 x6:=by kernel_rfl
theorem eval (k:Nat)(G:Gh)(d:Dt81)(a0:Int):evalX spec cals T Tryz.f32 k G d (a0,())=e (L6 k) G d a0:=by kernel_rfl
theorem of (d:Dt81)(a0:Int)(y:(Unit×(Int×Unit)×Dt81))(h:∀G:Gh,∃k:Nat,e (L6 k) G d a0=some (y,(G.b,[]))):F d (a0,())=some y:=limX_of (q:=spec) (C:=cals) (T:=T) (f:=Tryz.f32) (d:=d) (x:=(a0,())) y fun G=>(h G).imp fun k hk=>(eval k G d a0).trans hk
end bounds_Store_Back
namespace r08_undo
def spec:XSpec:=⟨none,false,[(true,Kt32)],true,none,[(true,Kt32)],true,fun j=>match j with|_=>[]⟩
def cals:Cals:=(Cals.base tabs)
def sig:XSig:=spec.sig cals T Tryz.f67
def F (d:Unit)(x:Dt32×Unit):Option (Unit×(Dt32×Unit)×Unit):=limX spec cals T Tryz.f67 d x
theorem ck:CalsOk Tryz.prog cals:=(CalsOk.base tabsOk)
theorem cal:XOk Tryz.prog tabs 67 sig:=xok_of tabOk ck mix Tryz.func67 (by kernel_rfl) (by kernel_rfl) (by kernel_rfl) (by kernel_rfl)
def e (G:Gh)(d:Unit)(a0:Dt32):Option ((Unit×(Dt32×Unit)×Unit)×Nat×List Value):=
 let v1:=(List.length a0.2.2:Int)
 let v2:=IntKind.i64.wrap (v1-(1:Int))
 bif decide (0≤v2)&&decide (v2<(List.length a0.2.2:Int))then(let v3:=(List.getD a0.2.2 (Int.toNat v2) zt70).1
 let v4:=((List.getD a0.2.2 (Int.toNat v2) zt70).2).1
 let v5:=(((List.getD a0.2.2 (Int.toNat v2) zt70).2).2).1
 let v6:=((((List.getD a0.2.2 (Int.toNat v2) zt70).2).2).2).1
 let v7:=((((((((List.getD a0.2.2 (Int.toNat v2) zt70).2).2).2).2).1).1).1).1
 let v8:=((((((((List.getD a0.2.2 (Int.toNat v2) zt70).2).2).2).2).1).1).1).2
 let v9:=(((((((List.getD a0.2.2 (Int.toNat v2) zt70).2).2).2).2).1).1).2
 let v10:=((((((((List.getD a0.2.2 (Int.toNat v2) zt70).2).2).2).2).1).2).1).1
 let v11:=((((((((List.getD a0.2.2 (Int.toNat v2) zt70).2).2).2).2).1).2).1).2
 let v12:=(((((((List.getD a0.2.2 (Int.toNat v2) zt70).2).2).2).2).1).2).2
 let v13:=(((((List.getD a0.2.2 (Int.toNat v2) zt70).2).2).2).2).2
 let v14:=(List.length a0.2.2:Int)
 let v15:=IntKind.i64.wrap (v14-(1:Int))
 bif decide (0≤v15)&&decide (v15≤(List.length a0.2.2:Int))then(let v16:=List.take (Int.toNat v15) a0.2.2
 bif v4 then(bif decide (0≤v3)&&decide (v3<(List.length a0.1:Int))then(let v17:=List.set a0.1 (Int.toNat v3) ((((List.getD a0.1 (Int.toNat v3) zt68).1).1,((((((((((List.getD a0.1 (Int.toNat v3) zt68).1).2).1).1).1).1,((((((List.getD a0.1 (Int.toNat v3) zt68).1).2).1).1).1).2),(((((List.getD a0.1 (Int.toNat v3) zt68).1).2).1).1).2),((((((((List.getD a0.1 (Int.toNat v3) zt68).1).2).1).2).1).1,((((((List.getD a0.1 (Int.toNat v3) zt68).1).2).1).2).1).2),(((((List.getD a0.1 (Int.toNat v3) zt68).1).2).1).2).2)),(((List.getD a0.1 (Int.toNat v3) zt68).1).2).2)),(v6,((((v7,v8),v9),((v10,v11),v12)),v13)))
 some (((),((v17,(a0.2.1,v16)),()),()),0,[]))
 else none)
 else(bif decide (0≤v3)&&decide (v3<(List.length a0.1:Int))then(let v18:=List.set a0.1 (Int.toNat v3) ((v6,((((v7,v8),v9),((v10,v11),v12)),v13)),(((List.getD a0.1 (Int.toNat v3) zt68).2).1,((((((((((List.getD a0.1 (Int.toNat v3) zt68).2).2).1).1).1).1,((((((List.getD a0.1 (Int.toNat v3) zt68).2).2).1).1).1).2),(((((List.getD a0.1 (Int.toNat v3) zt68).2).2).1).1).2),((((((((List.getD a0.1 (Int.toNat v3) zt68).2).2).1).2).1).1,((((((List.getD a0.1 (Int.toNat v3) zt68).2).2).1).2).1).2),(((((List.getD a0.1 (Int.toNat v3) zt68).2).2).1).2).2)),(((List.getD a0.1 (Int.toNat v3) zt68).2).2).2)))
 some (((),((v18,(a0.2.1,v16)),()),()),0,[]))
 else none))
 else none)
 else none
theorem eval (k:Nat)(G:Gh)(d:Unit)(a0:Dt32):evalX spec cals T Tryz.f67 k G d (a0,())=e G d a0:=by kernel_rfl
theorem of (d:Unit)(a0:Dt32)(y:(Unit×(Dt32×Unit)×Unit))(h:∀G:Gh,∃k:Nat,e G d a0=some (y,(0,[]))):F d (a0,())=some y:=limX_of (q:=spec) (C:=cals) (T:=T) (f:=Tryz.f67) (d:=d) (x:=(a0,())) y fun G=>(h G).imp fun k hk=>(eval k G d a0).trans hk
end r08_undo
namespace r08_Back
def spec:Spec:=⟨[(true,Kt32),(false,(.int .i64))],[(true,Kt32),(false,(.int .i64))],.shared,fun j=>match j with|4=>[(1,.lf (.v true)),(4,.box 32 [.v true,.v true,.v true]),(6,.box 32 [.o 68 Kt68 true,.v true,.o 70 Kt70 true])]|_=>[]⟩
def cals:Cals:=(Cals.consX 67 false r08_undo.sig (Cals.cons 60 r08_Copy.sig (Cals.base tabs)))
def sig:Sig:=spec.sig cals T Tryz.f33
def F (x:Dt32×Int×Unit):Option (Dt32×Int×Unit):=limF spec cals T Tryz.f33 x
theorem ck:CalsOk Tryz.prog cals:=(CalsOk.consX r08_undo.cal (CalsOk.cons r08_Copy.cal (CalsOk.base tabsOk)))
theorem cal:CalOk Tryz.prog tabs 33 sig:=calOk_lim' tabOk ck mix Tryz.func33 (by kernel_rfl) (by kernel_rfl) (by kernel_rfl) (by kernel_rfl)
def m4 (x1:Int)(x4_1:Int)(x6_0:Dt29)(x6_1:Int)(x6_2:Dt30):S:=⟨[(1,.one (.lf (.val true (.int .i64) x1))),(4,.box 0 0),(6,.box 1 0)],⟨[some ⟨68,Kt68,true,true,x6_0⟩,some ⟨70,Kt70,true,true,x6_2⟩],[some ⟨32,[.nil,.val true (.int .i64) x4_1,.nil]⟩,some ⟨32,[.own 0,.val true (.int .i64) x6_1,.own 1]⟩]⟩⟩
def b4 (f4:Int→Int→Dt29→Int→Dt30→Option (Dt32×Int×Unit))(x1:Int)(x4_1:Int)(x6_0:Dt29)(x6_1:Int)(x6_2:Dt30):Option (Dt32×Int×Unit):=
 let v1:=(List.length x6_2:Int)
 let v2:=decide (v1>(0:Int))
 bif v2 then(let v3:=(List.length x6_2:Int)
 let v4:=IntKind.i64.wrap (v3-(1:Int))
 bif decide (0≤v4)&&decide (v4<(List.length x6_2:Int))then(let v5:=(((List.getD x6_2 (Int.toNat v4) zt70).2).2).1
 let v6:=decide (v5>x1)
 bif v6 then((r08_undo.F () ((x6_0,(x6_1,x6_2)),())).bind fun y7=>
 f4 x1 x4_1 y7.2.1.1.1 y7.2.1.1.2.1 y7.2.1.1.2.2)
 else(some ((x6_0,(x1,x6_2)),(0:Int),())))
 else none)
 else(some ((x6_0,(x1,x6_2)),(0:Int),()))
def e (f4:Int→Int→Dt29→Int→Dt30→Option (Dt32×Int×Unit))(a0:Dt32)(a1:Int):Option (Dt32×Int×Unit):=
 let v1:=decide (a1<(0:Int))
 bif v1 then(some ((a0.1,(a0.2.1,a0.2.2)),(80:Int),()))
 else(let v2:=decide (a1>a0.2.1)
 bif v2 then(some ((a0.1,(a0.2.1,a0.2.2)),(80:Int),()))
 else((r08_Copy.F ((a0.1,(a0.2.1,a0.2.2)),())).bind fun y3=>
 f4 a1 (0:Int) y3.1.1 y3.1.2.1 y3.1.2.2))
def L4 (k:Nat)(x1:Int)(x4_1:Int)(x6_0:Dt29)(x6_1:Int)(x6_2:Dt30):Option (Dt32×Int×Unit):=heads (spec.env cals T Tryz.f33) (Func.pts Tryz.f33) k 4 (m4 x1 x4_1 x6_0 x6_1 x6_2)
theorem L4_succ (k:Nat)(x1:Int)(x4_1:Int)(x6_0:Dt29)(x6_1:Int)(x6_2:Dt30):L4 (k+1) x1 x4_1 x6_0 x6_1 x6_2=b4 (L4 k) x1 x4_1 x6_0 x6_1 x6_2:=by kernel_rfl
theorem eval (k:Nat)(a0:Dt32)(a1:Int):evalF spec cals T Tryz.f33 k (a0,a1,())=e (L4 k) a0 a1:=by kernel_rfl
theorem of (k:Nat)(a0:Dt32)(a1:Int){y:Dt32×Int×Unit}(h:e (L4 k) a0 a1=some y):F (a0,a1,())=some y:=limF_of k ((eval k a0 a1).trans h)
end r08_Back
namespace bounds_Store_Grow
def spec:XSpec:=⟨some ⟨81,0,Kt81,0⟩,false,[],false,none,[(false,(.int .i64)),(false,(.int .i64))],false,fun j=>match j with|_=>[]⟩
def cals:Cals:=(Cals.consX 36 false bounds_Store_is.sig (Cals.base tabs))
def sig:XSig:=spec.sig cals T Tryz.f34
def F (d:Dt81)(x:Unit):Option (Unit×(Int×Int×Unit)×Dt81):=limX spec cals T Tryz.f34 d x
theorem ck:CalsOk Tryz.prog cals:=(CalsOk.consX bounds_Store_is.cal (CalsOk.base tabsOk))
theorem cal:XOk Tryz.prog tabs 34 sig:=xok_of tabOk ck mix Tryz.func34 (by kernel_rfl) (by kernel_rfl) (by kernel_rfl) (by kernel_rfl)
def e (G:Gh)(d:Dt81):Option ((Unit×(Int×Int×Unit)×Dt81)×Nat×List Value):=
 (bounds_Store_is.F ((d.1.1,d.1.2),(d.2.1,d.2.2)) ()).bind fun y1=>
 let v2:=not y1.2.1.1
 bif v2 then(some (((),((0:Int),(1:Int),()),((y1.2.2.1.1,y1.2.2.1.2),(y1.2.2.2.1,y1.2.2.2.2))),G.b,[]))
 else(let v3:=(List.length y1.2.2.2.2:Int)
 let v4:=(v3==(65536:Int))
 bif v4 then(some (((),((0:Int),(2:Int),()),((y1.2.2.1.1,y1.2.2.1.2),(y1.2.2.2.1,y1.2.2.2.2))),G.b,[]))
 else(let v5:=([zt68]:List Dt68)
 bif decide (List.length y1.2.2.2.2+List.length v5<549755813888)then(let v6:=List.append y1.2.2.2.2 v5
 let v7:=(List.length v6:Int)
 let v8:=IntKind.i64.wrap (v7-(1:Int))
 some (((),(v8,(0:Int),()),((y1.2.2.1.1,y1.2.2.1.2),(y1.2.2.2.1,v6))),G.b,[]))
 else none))
theorem eval (k:Nat)(G:Gh)(d:Dt81):evalX spec cals T Tryz.f34 k G d ()=e G d:=by kernel_rfl
theorem of (d:Dt81)(y:(Unit×(Int×Int×Unit)×Dt81))(h:∀G:Gh,∃k:Nat,e G d=some (y,(G.b,[]))):F d ()=some y:=limX_of (q:=spec) (C:=cals) (T:=T) (f:=Tryz.f34) (d:=d) (x:=()) y fun G=>(h G).imp fun k hk=>(eval k G d).trans hk
end bounds_Store_Grow
namespace r08_Grow
def spec:Spec:=⟨[(true,Kt32)],[(true,Kt32),(false,(.int .i64)),(false,(.int .i64))],.shared,fun j=>match j with|_=>[]⟩
def cals:Cals:=(Cals.cons 60 r08_Copy.sig (Cals.base tabs))
def sig:Sig:=spec.sig cals T Tryz.f35
def F (x:Dt32×Unit):Option (Dt32×Int×Int×Unit):=limF spec cals T Tryz.f35 x
theorem ck:CalsOk Tryz.prog cals:=(CalsOk.cons r08_Copy.cal (CalsOk.base tabsOk))
theorem cal:CalOk Tryz.prog tabs 35 sig:=calOk_lim' tabOk ck mix Tryz.func35 (by kernel_rfl) (by kernel_rfl) (by kernel_rfl) (by kernel_rfl)
def e (a0:Dt32):Option (Dt32×Int×Int×Unit):=
 let v1:=(List.length a0.1:Int)
 let v2:=decide (v1≥(65536:Int))
 bif v2 then(some ((a0.1,(a0.2.1,a0.2.2)),(0:Int),(2:Int),()))
 else((r08_Copy.F ((a0.1,(a0.2.1,a0.2.2)),())).bind fun y3=>
 let v4:=([zt68]:List Dt68)
 bif decide (List.length y3.1.1+List.length v4<549755813888)then(let v5:=List.append y3.1.1 v4
 let v6:=(List.length a0.1:Int)
 some ((v5,(y3.1.2.1,y3.1.2.2)),v6,(0:Int),()))
 else none)
theorem eval (k:Nat)(a0:Dt32):evalF spec cals T Tryz.f35 k (a0,())=e a0:=by kernel_rfl
theorem of (k:Nat)(a0:Dt32){y:Dt32×Int×Int×Unit}(h:e a0=some y):F (a0,())=some y:=limF_of k ((eval k a0).trans h)
end r08_Grow
namespace w_move
def spec:XSpec:=⟨some ⟨81,0,Kt81,0⟩,false,[(true,Kt32),(true,Kt47)],false,none,[(true,Kt32),(false,.bool)],false,fun j=>match j with|_=>[]⟩
def cals:Cals:=(Cals.withEq 83 2 (Cals.consX 27 false bounds_Store_Lift.sig (Cals.consX 28 false bounds_Store_Press.sig (Cals.consX 30 false bounds_Store_Push.sig (Cals.consX 32 false bounds_Store_Back.sig (Cals.consX 34 false bounds_Store_Grow.sig (Cals.cons 29 r08_Assert.sig (Cals.cons 31 r08_Push.sig (Cals.cons 33 r08_Back.sig (Cals.cons 35 r08_Grow.sig (Cals.base tabs)))))))))))
def sig:XSig:=spec.sig cals T Tryz.f9
def F (d:Dt81)(x:Dt32×Dt47×Unit):Option (Unit×(Dt32×Bool×Unit)×Dt81):=limX spec cals T Tryz.f9 d x
theorem ck:CalsOk Tryz.prog cals:=(CalsOk.withEq eqOk83 (CalsOk.consX bounds_Store_Lift.cal (CalsOk.consX bounds_Store_Press.cal (CalsOk.consX bounds_Store_Push.cal (CalsOk.consX bounds_Store_Back.cal (CalsOk.consX bounds_Store_Grow.cal (CalsOk.cons r08_Assert.cal (CalsOk.cons r08_Push.cal (CalsOk.cons r08_Back.cal (CalsOk.cons r08_Grow.cal (CalsOk.base tabsOk)))))))))))
theorem cal:XOk Tryz.prog tabs 9 sig:=xok_of tabOk ck mix Tryz.func9 (by kernel_rfl) (by kernel_rfl) (by kernel_rfl) (by kernel_rfl)
def e (G:Gh)(d:Dt81)(a0:Dt32)(a1:Dt47):Option ((Unit×(Dt32×Bool×Unit)×Dt81)×Nat×List Value):=
 let v1:=(a1.1==(0:Int))
 bif v1 then(let v2:=(a1.1==(0:Int))
 bif v2 then((bounds_Store_Lift.F ((d.1.1,d.1.2),(d.2.1,d.2.2)) (a1.2.1,(((a1.2.2.1.1.1.1,a1.2.2.1.1.1.2),a1.2.2.1.1.2),((a1.2.2.1.2.1.1,a1.2.2.1.2.1.2),a1.2.2.1.2.2)),a1.2.2.2.1,())).bind fun y3=>
 let v4:=(a1.1==(1:Int))
 (r08_Assert.F ((a0.1,(a0.2.1,a0.2.2)),a1.2.1,v4,(((a1.2.2.1.1.1.1,a1.2.2.1.1.1.2),a1.2.2.1.1.2),((a1.2.2.1.2.1.1,a1.2.2.1.2.1.2),a1.2.2.1.2.2)),a1.2.2.2.1,())).bind fun y5=>
 let v6:=eqI y3.2.1.1.1 y5.2.1.1&&(eqI y3.2.1.1.2 y5.2.1.2&&true)
 bif v6 then(let v7:=(y3.2.1.2.1==y5.2.2.1)
 some (((),((y5.1.1,(y5.1.2.1,y5.1.2.2)),v7,()),((y3.2.2.1.1,y3.2.2.1.2),(y3.2.2.2.1,y3.2.2.2.2))),G.b,[]))
 else(some (((),((y5.1.1,(y5.1.2.1,y5.1.2.2)),false,()),((y3.2.2.1.1,y3.2.2.1.2),(y3.2.2.2.1,y3.2.2.2.2))),G.b,[])))
 else((bounds_Store_Press.F ((d.1.1,d.1.2),(d.2.1,d.2.2)) (a1.2.1,(((a1.2.2.1.1.1.1,a1.2.2.1.1.1.2),a1.2.2.1.1.2),((a1.2.2.1.2.1.1,a1.2.2.1.2.1.2),a1.2.2.1.2.2)),a1.2.2.2.1,())).bind fun y8=>
 let v9:=(a1.1==(1:Int))
 (r08_Assert.F ((a0.1,(a0.2.1,a0.2.2)),a1.2.1,v9,(((a1.2.2.1.1.1.1,a1.2.2.1.1.1.2),a1.2.2.1.1.2),((a1.2.2.1.2.1.1,a1.2.2.1.2.1.2),a1.2.2.1.2.2)),a1.2.2.2.1,())).bind fun y10=>
 let v11:=eqI y8.2.1.1.1 y10.2.1.1&&(eqI y8.2.1.1.2 y10.2.1.2&&true)
 bif v11 then(let v12:=(y8.2.1.2.1==y10.2.2.1)
 some (((),((y10.1.1,(y10.1.2.1,y10.1.2.2)),v12,()),((y8.2.2.1.1,y8.2.2.1.2),(y8.2.2.2.1,y8.2.2.2.2))),G.b,[]))
 else(some (((),((y10.1.1,(y10.1.2.1,y10.1.2.2)),false,()),((y8.2.2.1.1,y8.2.2.1.2),(y8.2.2.2.1,y8.2.2.2.2))),G.b,[]))))
 else(let v13:=(a1.1==(1:Int))
 bif v13 then(let v14:=(a1.1==(0:Int))
 bif v14 then((bounds_Store_Lift.F ((d.1.1,d.1.2),(d.2.1,d.2.2)) (a1.2.1,(((a1.2.2.1.1.1.1,a1.2.2.1.1.1.2),a1.2.2.1.1.2),((a1.2.2.1.2.1.1,a1.2.2.1.2.1.2),a1.2.2.1.2.2)),a1.2.2.2.1,())).bind fun y15=>
 let v16:=(a1.1==(1:Int))
 (r08_Assert.F ((a0.1,(a0.2.1,a0.2.2)),a1.2.1,v16,(((a1.2.2.1.1.1.1,a1.2.2.1.1.1.2),a1.2.2.1.1.2),((a1.2.2.1.2.1.1,a1.2.2.1.2.1.2),a1.2.2.1.2.2)),a1.2.2.2.1,())).bind fun y17=>
 let v18:=eqI y15.2.1.1.1 y17.2.1.1&&(eqI y15.2.1.1.2 y17.2.1.2&&true)
 bif v18 then(let v19:=(y15.2.1.2.1==y17.2.2.1)
 some (((),((y17.1.1,(y17.1.2.1,y17.1.2.2)),v19,()),((y15.2.2.1.1,y15.2.2.1.2),(y15.2.2.2.1,y15.2.2.2.2))),G.b,[]))
 else(some (((),((y17.1.1,(y17.1.2.1,y17.1.2.2)),false,()),((y15.2.2.1.1,y15.2.2.1.2),(y15.2.2.2.1,y15.2.2.2.2))),G.b,[])))
 else((bounds_Store_Press.F ((d.1.1,d.1.2),(d.2.1,d.2.2)) (a1.2.1,(((a1.2.2.1.1.1.1,a1.2.2.1.1.1.2),a1.2.2.1.1.2),((a1.2.2.1.2.1.1,a1.2.2.1.2.1.2),a1.2.2.1.2.2)),a1.2.2.2.1,())).bind fun y20=>
 let v21:=(a1.1==(1:Int))
 (r08_Assert.F ((a0.1,(a0.2.1,a0.2.2)),a1.2.1,v21,(((a1.2.2.1.1.1.1,a1.2.2.1.1.1.2),a1.2.2.1.1.2),((a1.2.2.1.2.1.1,a1.2.2.1.2.1.2),a1.2.2.1.2.2)),a1.2.2.2.1,())).bind fun y22=>
 let v23:=eqI y20.2.1.1.1 y22.2.1.1&&(eqI y20.2.1.1.2 y22.2.1.2&&true)
 bif v23 then(let v24:=(y20.2.1.2.1==y22.2.2.1)
 some (((),((y22.1.1,(y22.1.2.1,y22.1.2.2)),v24,()),((y20.2.2.1.1,y20.2.2.1.2),(y20.2.2.2.1,y20.2.2.2.2))),G.b,[]))
 else(some (((),((y22.1.1,(y22.1.2.1,y22.1.2.2)),false,()),((y20.2.2.1.1,y20.2.2.1.2),(y20.2.2.2.1,y20.2.2.2.2))),G.b,[]))))
 else(let v25:=(a1.1==(2:Int))
 bif v25 then((bounds_Store_Push.F ((d.1.1,d.1.2),(d.2.1,d.2.2)) ()).bind fun y26=>
 (r08_Push.F ((a0.1,(a0.2.1,a0.2.2)),())).bind fun y27=>
 some (((),((y27.1.1,(y27.1.2.1,y27.1.2.2)),true,()),((y26.2.2.1.1,y26.2.2.1.2),(y26.2.2.2.1,y26.2.2.2.2))),G.b,[]))
 else(let v28:=(a1.1==(3:Int))
 bif v28 then((bounds_Store_Back.F ((d.1.1,d.1.2),(d.2.1,d.2.2)) (a1.2.2.2.1,())).bind fun y29=>
 (r08_Back.F ((a0.1,(a0.2.1,a0.2.2)),a1.2.2.2.1,())).bind fun y30=>
 let v31:=(y29.2.1.1==y30.2.1)
 some (((),((y30.1.1,(y30.1.2.1,y30.1.2.2)),v31,()),((y29.2.2.1.1,y29.2.2.1.2),(y29.2.2.2.1,y29.2.2.2.2))),G.b,[]))
 else(let v32:=(a1.1==(4:Int))
 bif v32 then((bounds_Store_Grow.F ((d.1.1,d.1.2),(d.2.1,d.2.2)) ()).bind fun y33=>
 (r08_Grow.F ((a0.1,(a0.2.1,a0.2.2)),())).bind fun y34=>
 let v35:=(y33.2.1.1==y34.2.1)
 bif v35 then(let v36:=(y33.2.1.2.1==y34.2.2.1)
 some (((),((y34.1.1,(y34.1.2.1,y34.1.2.2)),v36,()),((y33.2.2.1.1,y33.2.2.1.2),(y33.2.2.2.1,y33.2.2.2.2))),G.b,[]))
 else(some (((),((y34.1.1,(y34.1.2.1,y34.1.2.2)),false,()),((y33.2.2.1.1,y33.2.2.1.2),(y33.2.2.2.1,y33.2.2.2.2))),G.b,[])))
 else(some (((),((a0.1,(a0.2.1,a0.2.2)),true,()),((d.1.1,d.1.2),(d.2.1,d.2.2))),G.b,[]))))))
theorem eval (k:Nat)(G:Gh)(d:Dt81)(a0:Dt32)(a1:Dt47):evalX spec cals T Tryz.f9 k G d (a0,a1,())=e G d a0 a1:=by kernel_rfl
theorem of (d:Dt81)(a0:Dt32)(a1:Dt47)(y:(Unit×(Dt32×Bool×Unit)×Dt81))(h:∀G:Gh,∃k:Nat,e G d a0 a1=some (y,(G.b,[]))):F d (a0,a1,())=some y:=limX_of (q:=spec) (C:=cals) (T:=T) (f:=Tryz.f9) (d:=d) (x:=(a0,a1,())) y fun G=>(h G).imp fun k hk=>(eval k G d a0 a1).trans hk
end w_move
namespace m_SameNat
def spec:Spec:=⟨[(false,Kt38),(false,Kt38)],[(false,.bool)],.own,fun j=>match j with|4=>[(0,.lf (.z 114 (.int .u32) false)),(1,.lf (.z 114 (.int .u32) false)),(5,.lf (.v true))]|_=>[]⟩
def cals:Cals:=(Cals.base tabs)
def sig:Sig:=spec.sig cals T Tryz.f78
def F (x:Dt38×Dt38×Unit):Option (Bool×Unit):=limF spec cals T Tryz.f78 x
theorem ck:CalsOk Tryz.prog cals:=(CalsOk.base tabsOk)
theorem cal:CalOk Tryz.prog tabs 78 sig:=calOk_lim' tabOk ck mix Tryz.func78 (by kernel_rfl) (by kernel_rfl) (by kernel_rfl) (by kernel_rfl)
def m4 (x0:Dt38)(x1:Dt38)(x5:Int):S:=⟨[(0,.one (.lf (.val false Kt38 x0))),(1,.one (.lf (.val false Kt38 x1))),(5,.one (.lf (.val true (.int .i64) x5)))],⟨[],[]⟩⟩
def b4 (f4:Dt38→Dt38→Int→Option (Bool×Unit))(x0:Dt38)(x1:Dt38)(x5:Int):Option (Bool×Unit):=
 let v1:=(List.length x0:Int)
 let v2:=decide (x5<v1)
 bif v2 then(bif decide (0≤x5)&&decide (x5<(List.length x0:Int))then(let v3:=List.getD x0 (Int.toNat x5) (0:Int)
 bif decide (0≤x5)&&decide (x5<(List.length x1:Int))then(let v4:=List.getD x1 (Int.toNat x5) (0:Int)
 let v5:=(v3 != v4)
 bif v5 then(some (false,()))
 else(let v6:=IntKind.i64.wrap (x5+(1:Int))
 f4 x0 x1 v6))
 else none)
 else none)
 else(some (true,()))
def e (f4:Dt38→Dt38→Int→Option (Bool×Unit))(a0:Dt38)(a1:Dt38):Option (Bool×Unit):=
 let v1:=(List.length a0:Int)
 let v2:=(List.length a1:Int)
 let v3:=(v1 != v2)
 bif v3 then(some (false,()))
 else(f4 a0 a1 (0:Int))
def L4 (k:Nat)(x0:Dt38)(x1:Dt38)(x5:Int):Option (Bool×Unit):=heads (spec.env cals T Tryz.f78) (Func.pts Tryz.f78) k 4 (m4 x0 x1 x5)
theorem L4_succ (k:Nat)(x0:Dt38)(x1:Dt38)(x5:Int):L4 (k+1) x0 x1 x5=b4 (L4 k) x0 x1 x5:=by kernel_rfl
theorem eval (k:Nat)(a0:Dt38)(a1:Dt38):evalF spec cals T Tryz.f78 k (a0,a1,())=e (L4 k) a0 a1:=by kernel_rfl
theorem of (k:Nat)(a0:Dt38)(a1:Dt38){y:Bool×Unit}(h:e (L4 k) a0 a1=some y):F (a0,a1,())=some y:=limF_of k ((eval k a0 a1).trans h)
end m_SameNat
namespace m_SameInt
def spec:Spec:=⟨[(true,Kt40),(true,Kt40)],[(false,.bool)],.own,fun j=>match j with|_=>[]⟩
def cals:Cals:=(Cals.cons 78 m_SameNat.sig (Cals.base tabs))
def sig:Sig:=spec.sig cals T Tryz.f77
def F (x:Dt40×Dt40×Unit):Option (Bool×Unit):=limF spec cals T Tryz.f77 x
theorem ck:CalsOk Tryz.prog cals:=(CalsOk.cons m_SameNat.cal (CalsOk.base tabsOk))
theorem cal:CalOk Tryz.prog tabs 77 sig:=calOk_lim' tabOk ck mix Tryz.func77 (by kernel_rfl) (by kernel_rfl) (by kernel_rfl) (by kernel_rfl)
def e (a0:Dt40)(a1:Dt40):Option (Bool×Unit):=
 let v1:=(a0.1==a1.1)
 bif v1 then((m_SameNat.F (a0.2,a1.2,())).bind fun y2=>
 some (y2.1,()))
 else(some (false,()))
theorem eval (k:Nat)(a0:Dt40)(a1:Dt40):evalF spec cals T Tryz.f77 k (a0,a1,())=e a0 a1:=by kernel_rfl
theorem of (k:Nat)(a0:Dt40)(a1:Dt40){y:Bool×Unit}(h:e a0 a1=some y):F (a0,a1,())=some y:=limF_of k ((eval k a0 a1).trans h)
end m_SameInt
namespace m_SameRat
def spec:Spec:=⟨[(true,Kt42),(true,Kt42)],[(false,.bool)],.own,fun j=>match j with|_=>[]⟩
def cals:Cals:=(Cals.cons 77 m_SameInt.sig (Cals.cons 78 m_SameNat.sig (Cals.base tabs)))
def sig:Sig:=spec.sig cals T Tryz.f53
def F (x:Dt42×Dt42×Unit):Option (Bool×Unit):=limF spec cals T Tryz.f53 x
theorem ck:CalsOk Tryz.prog cals:=(CalsOk.cons m_SameInt.cal (CalsOk.cons m_SameNat.cal (CalsOk.base tabsOk)))
theorem cal:CalOk Tryz.prog tabs 53 sig:=calOk_lim' tabOk ck mix Tryz.func53 (by kernel_rfl) (by kernel_rfl) (by kernel_rfl) (by kernel_rfl)
def e (a0:Dt42)(a1:Dt42):Option (Bool×Unit):=
 (m_SameInt.F ((a0.1.1,a0.1.2),(a1.1.1,a1.1.2),())).bind fun y1=>
 bif y1.1 then((m_SameNat.F (a0.2,a1.2,())).bind fun y2=>
 some (y2.1,()))
 else(some (false,()))
theorem eval (k:Nat)(a0:Dt42)(a1:Dt42):evalF spec cals T Tryz.f53 k (a0,a1,())=e a0 a1:=by kernel_rfl
theorem of (k:Nat)(a0:Dt42)(a1:Dt42){y:Bool×Unit}(h:e a0 a1=some y):F (a0,a1,())=some y:=limF_of k ((eval k a0 a1).trans h)
end m_SameRat
namespace m_SameDelta
def spec:Spec:=⟨[(true,Kt44),(true,Kt44)],[(false,.bool)],.own,fun j=>match j with|_=>[]⟩
def cals:Cals:=(Cals.cons 53 m_SameRat.sig (Cals.base tabs))
def sig:Sig:=spec.sig cals T Tryz.f18
def F (x:Dt44×Dt44×Unit):Option (Bool×Unit):=limF spec cals T Tryz.f18 x
theorem ck:CalsOk Tryz.prog cals:=(CalsOk.cons m_SameRat.cal (CalsOk.base tabsOk))
theorem cal:CalOk Tryz.prog tabs 18 sig:=calOk_lim' tabOk ck mix Tryz.func18 (by kernel_rfl) (by kernel_rfl) (by kernel_rfl) (by kernel_rfl)
def e (a0:Dt44)(a1:Dt44):Option (Bool×Unit):=
 (m_SameRat.F (((a0.1.1.1,a0.1.1.2),a0.1.2),((a1.1.1.1,a1.1.1.2),a1.1.2),())).bind fun y1=>
 bif y1.1 then((m_SameRat.F (((a0.2.1.1,a0.2.1.2),a0.2.2),((a1.2.1.1,a1.2.1.2),a1.2.2),())).bind fun y2=>
 some (y2.1,()))
 else(some (false,()))
theorem eval (k:Nat)(a0:Dt44)(a1:Dt44):evalF spec cals T Tryz.f18 k (a0,a1,())=e a0 a1:=by kernel_rfl
theorem of (k:Nat)(a0:Dt44)(a1:Dt44){y:Bool×Unit}(h:e a0 a1=some y):F (a0,a1,())=some y:=limF_of k ((eval k a0 a1).trans h)
end m_SameDelta
namespace w_sameBound
def spec:Spec:=⟨[(true,Kt66),(true,Kt66)],[(false,.bool)],.own,fun j=>match j with|_=>[]⟩
def cals:Cals:=(Cals.cons 18 m_SameDelta.sig (Cals.base tabs))
def sig:Sig:=spec.sig cals T Tryz.f45
def F (x:Dt66×Dt66×Unit):Option (Bool×Unit):=limF spec cals T Tryz.f45 x
theorem ck:CalsOk Tryz.prog cals:=(CalsOk.cons m_SameDelta.cal (CalsOk.base tabsOk))
theorem cal:CalOk Tryz.prog tabs 45 sig:=calOk_lim' tabOk ck mix Tryz.func45 (by kernel_rfl) (by kernel_rfl) (by kernel_rfl) (by kernel_rfl)
def e (a0:Dt66)(a1:Dt66):Option (Bool×Unit):=
 let v1:=(a0.1==a1.1)
 bif v1 then(let v2:=(a0.2.2==a1.2.2)
 bif v2 then((m_SameDelta.F ((((a0.2.1.1.1.1,a0.2.1.1.1.2),a0.2.1.1.2),((a0.2.1.2.1.1,a0.2.1.2.1.2),a0.2.1.2.2)),(((a1.2.1.1.1.1,a1.2.1.1.1.2),a1.2.1.1.2),((a1.2.1.2.1.1,a1.2.1.2.1.2),a1.2.1.2.2)),())).bind fun y3=>
 some (y3.1,()))
 else(some (false,())))
 else(some (false,()))
theorem eval (k:Nat)(a0:Dt66)(a1:Dt66):evalF spec cals T Tryz.f45 k (a0,a1,())=e a0 a1:=by kernel_rfl
theorem of (k:Nat)(a0:Dt66)(a1:Dt66){y:Bool×Unit}(h:e a0 a1=some y):F (a0,a1,())=some y:=limF_of k ((eval k a0 a1).trans h)
end w_sameBound
namespace w_sameLimit
def spec:Spec:=⟨[(true,Kt68),(true,Kt68)],[(false,.bool)],.own,fun j=>match j with|_=>[]⟩
def cals:Cals:=(Cals.cons 45 w_sameBound.sig (Cals.base tabs))
def sig:Sig:=spec.sig cals T Tryz.f38
def F (x:Dt68×Dt68×Unit):Option (Bool×Unit):=limF spec cals T Tryz.f38 x
theorem ck:CalsOk Tryz.prog cals:=(CalsOk.cons w_sameBound.cal (CalsOk.base tabsOk))
theorem cal:CalOk Tryz.prog tabs 38 sig:=calOk_lim' tabOk ck mix Tryz.func38 (by kernel_rfl) (by kernel_rfl) (by kernel_rfl) (by kernel_rfl)
def e (a0:Dt68)(a1:Dt68):Option (Bool×Unit):=
 (w_sameBound.F ((a0.1.1,((((a0.1.2.1.1.1.1,a0.1.2.1.1.1.2),a0.1.2.1.1.2),((a0.1.2.1.2.1.1,a0.1.2.1.2.1.2),a0.1.2.1.2.2)),a0.1.2.2)),(a1.1.1,((((a1.1.2.1.1.1.1,a1.1.2.1.1.1.2),a1.1.2.1.1.2),((a1.1.2.1.2.1.1,a1.1.2.1.2.1.2),a1.1.2.1.2.2)),a1.1.2.2)),())).bind fun y1=>
 bif y1.1 then((w_sameBound.F ((a0.2.1,((((a0.2.2.1.1.1.1,a0.2.2.1.1.1.2),a0.2.2.1.1.2),((a0.2.2.1.2.1.1,a0.2.2.1.2.1.2),a0.2.2.1.2.2)),a0.2.2.2)),(a1.2.1,((((a1.2.2.1.1.1.1,a1.2.2.1.1.1.2),a1.2.2.1.1.2),((a1.2.2.1.2.1.1,a1.2.2.1.2.1.2),a1.2.2.1.2.2)),a1.2.2.2)),())).bind fun y2=>
 some (y2.1,()))
 else(some (false,()))
theorem eval (k:Nat)(a0:Dt68)(a1:Dt68):evalF spec cals T Tryz.f38 k (a0,a1,())=e a0 a1:=by kernel_rfl
theorem of (k:Nat)(a0:Dt68)(a1:Dt68){y:Bool×Unit}(h:e a0 a1=some y):F (a0,a1,())=some y:=limF_of k ((eval k a0 a1).trans h)
end w_sameLimit
namespace w_sameState
def spec:Spec:=⟨[(true,Kt32),(true,Kt32)],[(false,.bool)],.own,fun j=>match j with|4=>[(2,.box 32 [.z 68 Kt68 false,.v false,.z 70 Kt70 false]),(3,.box 32 [.z 68 Kt68 false,.v false,.z 70 Kt70 false]),(5,.lf (.v true))]|10=>[(2,.box 32 [.z 68 Kt68 false,.v false,.z 70 Kt70 false]),(3,.box 32 [.z 68 Kt68 false,.v false,.z 70 Kt70 false]),(7,.lf (.v true))]|_=>[]⟩
def cals:Cals:=(Cals.cons 38 w_sameLimit.sig (Cals.cons 45 w_sameBound.sig (Cals.base tabs)))
def sig:Sig:=spec.sig cals T Tryz.f13
def F (x:Dt32×Dt32×Unit):Option (Bool×Unit):=limF spec cals T Tryz.f13 x
theorem ck:CalsOk Tryz.prog cals:=(CalsOk.cons w_sameLimit.cal (CalsOk.cons w_sameBound.cal (CalsOk.base tabsOk)))
theorem cal:CalOk Tryz.prog tabs 13 sig:=calOk_lim' tabOk ck mix Tryz.func13 (by kernel_rfl) (by kernel_rfl) (by kernel_rfl) (by kernel_rfl)
def m4 (x2_0:Dt29)(x2_1:Int)(x2_2:Dt30)(x3_0:Dt29)(x3_1:Int)(x3_2:Dt30)(x5:Int):S:=⟨[(2,.box 0 0),(3,.box 1 0),(5,.one (.lf (.val true (.int .i64) x5)))],⟨[],[some ⟨32,[.val false Kt29 x2_0,.val false (.int .i64) x2_1,.val false Kt30 x2_2]⟩,some ⟨32,[.val false Kt29 x3_0,.val false (.int .i64) x3_1,.val false Kt30 x3_2]⟩]⟩⟩
def m10 (x2_0:Dt29)(x2_1:Int)(x2_2:Dt30)(x3_0:Dt29)(x3_1:Int)(x3_2:Dt30)(x7:Int):S:=⟨[(2,.box 0 0),(3,.box 1 0),(7,.one (.lf (.val true (.int .i64) x7)))],⟨[],[some ⟨32,[.val false Kt29 x2_0,.val false (.int .i64) x2_1,.val false Kt30 x2_2]⟩,some ⟨32,[.val false Kt29 x3_0,.val false (.int .i64) x3_1,.val false Kt30 x3_2]⟩]⟩⟩
def b4 (f4:Dt29→Int→Dt30→Dt29→Int→Dt30→Int→Option (Bool×Unit))(f10:Dt29→Int→Dt30→Dt29→Int→Dt30→Int→Option (Bool×Unit))(x2_0:Dt29)(x2_1:Int)(x2_2:Dt30)(x3_0:Dt29)(x3_1:Int)(x3_2:Dt30)(x5:Int):Option (Bool×Unit):=
 let v1:=(List.length x2_0:Int)
 let v2:=decide (x5<v1)
 bif v2 then(bif decide (0≤x5)&&decide (x5<(List.length x2_0:Int))then(let v3:=((List.getD x2_0 (Int.toNat x5) zt68).1).1
 let v4:=((((((List.getD x2_0 (Int.toNat x5) zt68).1).2).1).1).1).1
 let v5:=((((((List.getD x2_0 (Int.toNat x5) zt68).1).2).1).1).1).2
 let v6:=(((((List.getD x2_0 (Int.toNat x5) zt68).1).2).1).1).2
 let v7:=((((((List.getD x2_0 (Int.toNat x5) zt68).1).2).1).2).1).1
 let v8:=((((((List.getD x2_0 (Int.toNat x5) zt68).1).2).1).2).1).2
 let v9:=(((((List.getD x2_0 (Int.toNat x5) zt68).1).2).1).2).2
 let v10:=(((List.getD x2_0 (Int.toNat x5) zt68).1).2).2
 let v11:=((List.getD x2_0 (Int.toNat x5) zt68).2).1
 let v12:=((((((List.getD x2_0 (Int.toNat x5) zt68).2).2).1).1).1).1
 let v13:=((((((List.getD x2_0 (Int.toNat x5) zt68).2).2).1).1).1).2
 let v14:=(((((List.getD x2_0 (Int.toNat x5) zt68).2).2).1).1).2
 let v15:=((((((List.getD x2_0 (Int.toNat x5) zt68).2).2).1).2).1).1
 let v16:=((((((List.getD x2_0 (Int.toNat x5) zt68).2).2).1).2).1).2
 let v17:=(((((List.getD x2_0 (Int.toNat x5) zt68).2).2).1).2).2
 let v18:=(((List.getD x2_0 (Int.toNat x5) zt68).2).2).2
 bif decide (0≤x5)&&decide (x5<(List.length x3_0:Int))then(let v19:=((List.getD x3_0 (Int.toNat x5) zt68).1).1
 let v20:=((((((List.getD x3_0 (Int.toNat x5) zt68).1).2).1).1).1).1
 let v21:=((((((List.getD x3_0 (Int.toNat x5) zt68).1).2).1).1).1).2
 let v22:=(((((List.getD x3_0 (Int.toNat x5) zt68).1).2).1).1).2
 let v23:=((((((List.getD x3_0 (Int.toNat x5) zt68).1).2).1).2).1).1
 let v24:=((((((List.getD x3_0 (Int.toNat x5) zt68).1).2).1).2).1).2
 let v25:=(((((List.getD x3_0 (Int.toNat x5) zt68).1).2).1).2).2
 let v26:=(((List.getD x3_0 (Int.toNat x5) zt68).1).2).2
 let v27:=((List.getD x3_0 (Int.toNat x5) zt68).2).1
 let v28:=((((((List.getD x3_0 (Int.toNat x5) zt68).2).2).1).1).1).1
 let v29:=((((((List.getD x3_0 (Int.toNat x5) zt68).2).2).1).1).1).2
 let v30:=(((((List.getD x3_0 (Int.toNat x5) zt68).2).2).1).1).2
 let v31:=((((((List.getD x3_0 (Int.toNat x5) zt68).2).2).1).2).1).1
 let v32:=((((((List.getD x3_0 (Int.toNat x5) zt68).2).2).1).2).1).2
 let v33:=(((((List.getD x3_0 (Int.toNat x5) zt68).2).2).1).2).2
 let v34:=(((List.getD x3_0 (Int.toNat x5) zt68).2).2).2
 (w_sameLimit.F (((v3,((((v4,v5),v6),((v7,v8),v9)),v10)),(v11,((((v12,v13),v14),((v15,v16),v17)),v18))),((v19,((((v20,v21),v22),((v23,v24),v25)),v26)),(v27,((((v28,v29),v30),((v31,v32),v33)),v34))),())).bind fun y35=>
 let v36:=not y35.1
 bif v36 then(some (false,()))
 else(let v37:=IntKind.i64.wrap (x5+(1:Int))
 f4 x2_0 x2_1 x2_2 x3_0 x3_1 x3_2 v37))
 else none)
 else none)
 else(f10 x2_0 x2_1 x2_2 x3_0 x3_1 x3_2 (0:Int))
def b10 (f4:Dt29→Int→Dt30→Dt29→Int→Dt30→Int→Option (Bool×Unit))(f10:Dt29→Int→Dt30→Dt29→Int→Dt30→Int→Option (Bool×Unit))(x2_0:Dt29)(x2_1:Int)(x2_2:Dt30)(x3_0:Dt29)(x3_1:Int)(x3_2:Dt30)(x7:Int):Option (Bool×Unit):=
 let v1:=(List.length x2_2:Int)
 let v2:=decide (x7<v1)
 bif v2 then(bif decide (0≤x7)&&decide (x7<(List.length x2_2:Int))then(let v3:=(List.getD x2_2 (Int.toNat x7) zt70).1
 let v4:=((List.getD x2_2 (Int.toNat x7) zt70).2).1
 let v5:=(((List.getD x2_2 (Int.toNat x7) zt70).2).2).1
 let v6:=((((List.getD x2_2 (Int.toNat x7) zt70).2).2).2).1
 let v7:=((((((((List.getD x2_2 (Int.toNat x7) zt70).2).2).2).2).1).1).1).1
 let v8:=((((((((List.getD x2_2 (Int.toNat x7) zt70).2).2).2).2).1).1).1).2
 let v9:=(((((((List.getD x2_2 (Int.toNat x7) zt70).2).2).2).2).1).1).2
 let v10:=((((((((List.getD x2_2 (Int.toNat x7) zt70).2).2).2).2).1).2).1).1
 let v11:=((((((((List.getD x2_2 (Int.toNat x7) zt70).2).2).2).2).1).2).1).2
 let v12:=(((((((List.getD x2_2 (Int.toNat x7) zt70).2).2).2).2).1).2).2
 let v13:=(((((List.getD x2_2 (Int.toNat x7) zt70).2).2).2).2).2
 bif decide (0≤x7)&&decide (x7<(List.length x3_2:Int))then(let v14:=(List.getD x3_2 (Int.toNat x7) zt70).1
 let v15:=((List.getD x3_2 (Int.toNat x7) zt70).2).1
 let v16:=(((List.getD x3_2 (Int.toNat x7) zt70).2).2).1
 let v17:=((((List.getD x3_2 (Int.toNat x7) zt70).2).2).2).1
 let v18:=((((((((List.getD x3_2 (Int.toNat x7) zt70).2).2).2).2).1).1).1).1
 let v19:=((((((((List.getD x3_2 (Int.toNat x7) zt70).2).2).2).2).1).1).1).2
 let v20:=(((((((List.getD x3_2 (Int.toNat x7) zt70).2).2).2).2).1).1).2
 let v21:=((((((((List.getD x3_2 (Int.toNat x7) zt70).2).2).2).2).1).2).1).1
 let v22:=((((((((List.getD x3_2 (Int.toNat x7) zt70).2).2).2).2).1).2).1).2
 let v23:=(((((((List.getD x3_2 (Int.toNat x7) zt70).2).2).2).2).1).2).2
 let v24:=(((((List.getD x3_2 (Int.toNat x7) zt70).2).2).2).2).2
 let v25:=(v3 != v14)
 bif v25 then(some (false,()))
 else(let v26:=(!(v4==v15))
 bif v26 then(some (false,()))
 else(let v27:=(v5 != v16)
 bif v27 then(some (false,()))
 else((w_sameBound.F ((v6,((((v7,v8),v9),((v10,v11),v12)),v13)),(v17,((((v18,v19),v20),((v21,v22),v23)),v24)),())).bind fun y28=>
 let v29:=not y28.1
 bif v29 then(some (false,()))
 else(let v30:=IntKind.i64.wrap (x7+(1:Int))
 f10 x2_0 x2_1 x2_2 x3_0 x3_1 x3_2 v30)))))
 else none)
 else none)
 else(some (true,()))
def e (f4:Dt29→Int→Dt30→Dt29→Int→Dt30→Int→Option (Bool×Unit))(f10:Dt29→Int→Dt30→Dt29→Int→Dt30→Int→Option (Bool×Unit))(a0:Dt32)(a1:Dt32):Option (Bool×Unit):=
 let v1:=(List.length a0.1:Int)
 let v2:=(List.length a1.1:Int)
 let v3:=(v1 != v2)
 bif v3 then(some (false,()))
 else(let v4:=(a0.2.1 != a1.2.1)
 bif v4 then(some (false,()))
 else(let v5:=(List.length a0.2.2:Int)
 let v6:=(List.length a1.2.2:Int)
 let v7:=(v5 != v6)
 bif v7 then(some (false,()))
 else(f4 a0.1 a0.2.1 a0.2.2 a1.1 a1.2.1 a1.2.2 (0:Int))))
def L4 (k:Nat)(x2_0:Dt29)(x2_1:Int)(x2_2:Dt30)(x3_0:Dt29)(x3_1:Int)(x3_2:Dt30)(x5:Int):Option (Bool×Unit):=heads (spec.env cals T Tryz.f13) (Func.pts Tryz.f13) k 4 (m4 x2_0 x2_1 x2_2 x3_0 x3_1 x3_2 x5)
def L10 (k:Nat)(x2_0:Dt29)(x2_1:Int)(x2_2:Dt30)(x3_0:Dt29)(x3_1:Int)(x3_2:Dt30)(x7:Int):Option (Bool×Unit):=heads (spec.env cals T Tryz.f13) (Func.pts Tryz.f13) k 10 (m10 x2_0 x2_1 x2_2 x3_0 x3_1 x3_2 x7)
theorem L4_succ (k:Nat)(x2_0:Dt29)(x2_1:Int)(x2_2:Dt30)(x3_0:Dt29)(x3_1:Int)(x3_2:Dt30)(x5:Int):L4 (k+1) x2_0 x2_1 x2_2 x3_0 x3_1 x3_2 x5=b4 (L4 k) (L10 k) x2_0 x2_1 x2_2 x3_0 x3_1 x3_2 x5:=by kernel_rfl
theorem L10_succ (k:Nat)(x2_0:Dt29)(x2_1:Int)(x2_2:Dt30)(x3_0:Dt29)(x3_1:Int)(x3_2:Dt30)(x7:Int):L10 (k+1) x2_0 x2_1 x2_2 x3_0 x3_1 x3_2 x7=b10 (L4 k) (L10 k) x2_0 x2_1 x2_2 x3_0 x3_1 x3_2 x7:=by kernel_rfl
theorem eval (k:Nat)(a0:Dt32)(a1:Dt32):evalF spec cals T Tryz.f13 k (a0,a1,())=e (L4 k) (L10 k) a0 a1:=by kernel_rfl
theorem of (k:Nat)(a0:Dt32)(a1:Dt32){y:Bool×Unit}(h:e (L4 k) (L10 k) a0 a1=some y):F (a0,a1,())=some y:=limF_of k ((eval k a0 a1).trans h)
end w_sameState
namespace bounds_copied
def spec:Spec:=⟨[(true,Kt66)],[(true,Kt66)],.own,fun j=>match j with|_=>[]⟩
def cals:Cals:=(Cals.cons 62 delta_Norm.sig (Cals.base tabs))
def sig:Sig:=spec.sig cals T Tryz.f72
def F (x:Dt66×Unit):Option (Dt66×Unit):=limF spec cals T Tryz.f72 x
theorem ck:CalsOk Tryz.prog cals:=(CalsOk.cons delta_Norm.cal (CalsOk.base tabsOk))
theorem cal:CalOk Tryz.prog tabs 72 sig:=calOk_lim' tabOk ck mix Tryz.func72 (by kernel_rfl) (by kernel_rfl) (by kernel_rfl) (by kernel_rfl)
def e (a0:Dt66):Option (Dt66×Unit):=
 let v1:=not a0.1
 bif v1 then(some (zt66,()))
 else((delta_Norm.F ((((a0.2.1.1.1.1,a0.2.1.1.1.2),a0.2.1.1.2),((a0.2.1.2.1.1,a0.2.1.2.1.2),a0.2.1.2.2)),())).bind fun y2=>
 some ((true,((((y2.1.1.1.1,y2.1.1.1.2),y2.1.1.2),((y2.1.2.1.1,y2.1.2.1.2),y2.1.2.2)),a0.2.2)),()))
theorem eval (k:Nat)(a0:Dt66):evalF spec cals T Tryz.f72 k (a0,())=e a0:=by kernel_rfl
theorem of (k:Nat)(a0:Dt66){y:Dt66×Unit}(h:e a0=some y):F (a0,())=some y:=limF_of k ((eval k a0).trans h)
end bounds_copied
namespace bounds_copiedLimit
def spec:Spec:=⟨[(true,Kt68)],[(true,Kt68)],.own,fun j=>match j with|_=>[]⟩
def cals:Cals:=(Cals.cons 72 bounds_copied.sig (Cals.base tabs))
def sig:Sig:=spec.sig cals T Tryz.f46
def F (x:Dt68×Unit):Option (Dt68×Unit):=limF spec cals T Tryz.f46 x
theorem ck:CalsOk Tryz.prog cals:=(CalsOk.cons bounds_copied.cal (CalsOk.base tabsOk))
theorem cal:CalOk Tryz.prog tabs 46 sig:=calOk_lim' tabOk ck mix Tryz.func46 (by kernel_rfl) (by kernel_rfl) (by kernel_rfl) (by kernel_rfl)
def e (a0:Dt68):Option (Dt68×Unit):=
 (bounds_copied.F ((a0.1.1,((((a0.1.2.1.1.1.1,a0.1.2.1.1.1.2),a0.1.2.1.1.2),((a0.1.2.1.2.1.1,a0.1.2.1.2.1.2),a0.1.2.1.2.2)),a0.1.2.2)),())).bind fun y1=>
 (bounds_copied.F ((a0.2.1,((((a0.2.2.1.1.1.1,a0.2.2.1.1.1.2),a0.2.2.1.1.2),((a0.2.2.1.2.1.1,a0.2.2.1.2.1.2),a0.2.2.1.2.2)),a0.2.2.2)),())).bind fun y2=>
 some (((y1.1.1,((((y1.1.2.1.1.1.1,y1.1.2.1.1.1.2),y1.1.2.1.1.2),((y1.1.2.1.2.1.1,y1.1.2.1.2.1.2),y1.1.2.1.2.2)),y1.1.2.2)),(y2.1.1,((((y2.1.2.1.1.1.1,y2.1.2.1.1.1.2),y2.1.2.1.1.2),((y2.1.2.1.2.1.1,y2.1.2.1.2.1.2),y2.1.2.1.2.2)),y2.1.2.2))),())
theorem eval (k:Nat)(a0:Dt68):evalF spec cals T Tryz.f46 k (a0,())=e a0:=by kernel_rfl
theorem of (k:Nat)(a0:Dt68){y:Dt68×Unit}(h:e a0=some y):F (a0,())=some y:=limF_of k ((eval k a0).trans h)
end bounds_copiedLimit
namespace bounds_copiedChange
def spec:Spec:=⟨[(true,Kt70)],[(true,Kt70)],.own,fun j=>match j with|_=>[]⟩
def cals:Cals:=(Cals.cons 72 bounds_copied.sig (Cals.base tabs))
def sig:Sig:=spec.sig cals T Tryz.f47
def F (x:Dt70×Unit):Option (Dt70×Unit):=limF spec cals T Tryz.f47 x
theorem ck:CalsOk Tryz.prog cals:=(CalsOk.cons bounds_copied.cal (CalsOk.base tabsOk))
theorem cal:CalOk Tryz.prog tabs 47 sig:=calOk_lim' tabOk ck mix Tryz.func47 (by kernel_rfl) (by kernel_rfl) (by kernel_rfl) (by kernel_rfl)
def e (a0:Dt70):Option (Dt70×Unit):=
 (bounds_copied.F ((a0.2.2.2.1,((((a0.2.2.2.2.1.1.1.1,a0.2.2.2.2.1.1.1.2),a0.2.2.2.2.1.1.2),((a0.2.2.2.2.1.2.1.1,a0.2.2.2.2.1.2.1.2),a0.2.2.2.2.1.2.2)),a0.2.2.2.2.2)),())).bind fun y1=>
 some ((a0.1,(a0.2.1,(a0.2.2.1,(y1.1.1,((((y1.1.2.1.1.1.1,y1.1.2.1.1.1.2),y1.1.2.1.1.2),((y1.1.2.1.2.1.1,y1.1.2.1.2.1.2),y1.1.2.1.2.2)),y1.1.2.2))))),())
theorem eval (k:Nat)(a0:Dt70):evalF spec cals T Tryz.f47 k (a0,())=e a0:=by kernel_rfl
theorem of (k:Nat)(a0:Dt70){y:Dt70×Unit}(h:e a0=some y):F (a0,())=some y:=limF_of k ((eval k a0).trans h)
end bounds_copiedChange
namespace bounds_Store_State
def spec:XSpec:=⟨some ⟨81,0,Kt81,0⟩,false,[],false,none,[(true,Kt32)],false,fun j=>match j with|5=>[(0,.pbox 81 [.v true,.o 70 Kt70 true,.v true,.o 68 Kt68 true]),(2,.box 32 [.v true,.v true,.v true]),(3,.box 32 [.o 68 Kt68 true,.v true,.v true]),(21,.lf (.o 68 Kt68 true)),(22,.lf (.v true)),(23,.lf (.v true))]|10=>[(0,.pbox 81 [.v true,.o 70 Kt70 true,.v true,.o 68 Kt68 true]),(2,.box 32 [.v true,.v true,.v true]),(3,.box 32 [.o 68 Kt68 true,.v true,.o 70 Kt70 true]),(39,.lf (.o 70 Kt70 true)),(40,.lf (.v true)),(41,.lf (.v true))]|_=>[]⟩
def cals:Cals:=(Cals.consX 36 false bounds_Store_is.sig (Cals.cons 46 bounds_copiedLimit.sig (Cals.cons 47 bounds_copiedChange.sig (Cals.base tabs))))
def sig:XSig:=spec.sig cals T Tryz.f14
def F (d:Dt81)(x:Unit):Option (Unit×(Dt32×Unit)×Dt81):=limX spec cals T Tryz.f14 d x
theorem ck:CalsOk Tryz.prog cals:=(CalsOk.consX bounds_Store_is.cal (CalsOk.cons bounds_copiedLimit.cal (CalsOk.cons bounds_copiedChange.cal (CalsOk.base tabsOk))))
theorem cal:XOk Tryz.prog tabs 14 sig:=xok_of tabOk ck mix Tryz.func14 (by kernel_rfl) (by kernel_rfl) (by kernel_rfl) (by kernel_rfl)
def m5 (x0_g:Nat)(x0_0:Int)(x0_1:Dt30)(x0_2:Bool)(x2_1:Int)(x3_0:Dt29)(x3_1:Int)(x21:Dt29)(x22:Int)(x23:Int):S:=⟨[(0,.pbox 0 0 x0_g),(2,.box 1 0),(3,.box 2 0),(21,.one (.lf (.own 0))),(22,.one (.lf (.val true (.int .i64) x22))),(23,.one (.lf (.val true (.int .i64) x23)))],⟨[some ⟨68,Kt68,true,true,x21⟩,some ⟨70,Kt70,true,true,x0_1⟩,some ⟨68,Kt68,true,true,x3_0⟩],[some ⟨81,[.val true (.int .i64) x0_0,.own 1,.val true .bool x0_2,.own 0]⟩,some ⟨32,[.nil,.val true (.int .i64) x2_1,.nil]⟩,some ⟨32,[.own 2,.val true (.int .i64) x3_1,.nil]⟩]⟩⟩
def m10 (x0_g:Nat)(x0_0:Int)(x0_2:Bool)(x0_3:Dt29)(x2_1:Int)(x3_0:Dt29)(x3_1:Int)(x3_2:Dt30)(x39:Dt30)(x40:Int)(x41:Int):S:=⟨[(0,.pbox 0 0 x0_g),(2,.box 1 0),(3,.box 2 0),(39,.one (.lf (.own 0))),(40,.one (.lf (.val true (.int .i64) x40))),(41,.one (.lf (.val true (.int .i64) x41)))],⟨[some ⟨70,Kt70,true,true,x39⟩,some ⟨68,Kt68,true,true,x0_3⟩,some ⟨68,Kt68,true,true,x3_0⟩,some ⟨70,Kt70,true,true,x3_2⟩],[some ⟨81,[.val true (.int .i64) x0_0,.own 0,.val true .bool x0_2,.own 1]⟩,some ⟨32,[.nil,.val true (.int .i64) x2_1,.nil]⟩,some ⟨32,[.own 2,.val true (.int .i64) x3_1,.own 3]⟩]⟩⟩
def b5 (f5:Nat→Int→Dt30→Bool→Int→Dt29→Int→Dt29→Int→Int→Option ((Unit×(Dt32×Unit)×Dt81)×Nat×List Value))(f10:Nat→Int→Bool→Dt29→Int→Dt29→Int→Dt30→Dt30→Int→Int→Option ((Unit×(Dt32×Unit)×Dt81)×Nat×List Value))(x0_g:Nat)(x0_0:Int)(x0_1:Dt30)(x0_2:Bool)(x2_1:Int)(x3_0:Dt29)(x3_1:Int)(x21:Dt29)(x22:Int)(x23:Int):Option ((Unit×(Dt32×Unit)×Dt81)×Nat×List Value):=
 let v1:=decide (x23<x22)
 bif v1 then(bif decide (0≤x23)&&decide (x23<(List.length x21:Int))then(let v2:=((List.getD x21 (Int.toNat x23) zt68).1).1
 let v3:=((((((List.getD x21 (Int.toNat x23) zt68).1).2).1).1).1).1
 let v4:=((((((List.getD x21 (Int.toNat x23) zt68).1).2).1).1).1).2
 let v5:=(((((List.getD x21 (Int.toNat x23) zt68).1).2).1).1).2
 let v6:=((((((List.getD x21 (Int.toNat x23) zt68).1).2).1).2).1).1
 let v7:=((((((List.getD x21 (Int.toNat x23) zt68).1).2).1).2).1).2
 let v8:=(((((List.getD x21 (Int.toNat x23) zt68).1).2).1).2).2
 let v9:=(((List.getD x21 (Int.toNat x23) zt68).1).2).2
 let v10:=((List.getD x21 (Int.toNat x23) zt68).2).1
 let v11:=((((((List.getD x21 (Int.toNat x23) zt68).2).2).1).1).1).1
 let v12:=((((((List.getD x21 (Int.toNat x23) zt68).2).2).1).1).1).2
 let v13:=(((((List.getD x21 (Int.toNat x23) zt68).2).2).1).1).2
 let v14:=((((((List.getD x21 (Int.toNat x23) zt68).2).2).1).2).1).1
 let v15:=((((((List.getD x21 (Int.toNat x23) zt68).2).2).1).2).1).2
 let v16:=(((((List.getD x21 (Int.toNat x23) zt68).2).2).1).2).2
 let v17:=(((List.getD x21 (Int.toNat x23) zt68).2).2).2
 (bounds_copiedLimit.F (((v2,((((v3,v4),v5),((v6,v7),v8)),v9)),(v10,((((v11,v12),v13),((v14,v15),v16)),v17))),())).bind fun y18=>
 let v19:=([((y18.1.1.1,((((y18.1.1.2.1.1.1.1,y18.1.1.2.1.1.1.2),y18.1.1.2.1.1.2),((y18.1.1.2.1.2.1.1,y18.1.1.2.1.2.1.2),y18.1.1.2.1.2.2)),y18.1.1.2.2)),(y18.1.2.1,((((y18.1.2.2.1.1.1.1,y18.1.2.2.1.1.1.2),y18.1.2.2.1.1.2),((y18.1.2.2.1.2.1.1,y18.1.2.2.1.2.1.2),y18.1.2.2.1.2.2)),y18.1.2.2.2)))]:List Dt68)
 bif decide (List.length x3_0+List.length v19<549755813888)then(let v20:=List.append x3_0 v19
 let v21:=IntKind.i64.wrap (x23+(1:Int))
 f5 x0_g x0_0 x0_1 x0_2 x2_1 v20 x3_1 x21 x22 v21)
 else none)
 else none)
 else(let v22:=(List.length x0_1:Int)
 f10 x0_g x0_0 x0_2 x21 x2_1 x3_0 x3_1 zt30 x0_1 v22 (0:Int))
def b10 (f5:Nat→Int→Dt30→Bool→Int→Dt29→Int→Dt29→Int→Int→Option ((Unit×(Dt32×Unit)×Dt81)×Nat×List Value))(f10:Nat→Int→Bool→Dt29→Int→Dt29→Int→Dt30→Dt30→Int→Int→Option ((Unit×(Dt32×Unit)×Dt81)×Nat×List Value))(x0_g:Nat)(x0_0:Int)(x0_2:Bool)(x0_3:Dt29)(x2_1:Int)(x3_0:Dt29)(x3_1:Int)(x3_2:Dt30)(x39:Dt30)(x40:Int)(x41:Int):Option ((Unit×(Dt32×Unit)×Dt81)×Nat×List Value):=
 let v1:=decide (x41<x40)
 bif v1 then(bif decide (0≤x41)&&decide (x41<(List.length x39:Int))then(let v2:=(List.getD x39 (Int.toNat x41) zt70).1
 let v3:=((List.getD x39 (Int.toNat x41) zt70).2).1
 let v4:=(((List.getD x39 (Int.toNat x41) zt70).2).2).1
 let v5:=((((List.getD x39 (Int.toNat x41) zt70).2).2).2).1
 let v6:=((((((((List.getD x39 (Int.toNat x41) zt70).2).2).2).2).1).1).1).1
 let v7:=((((((((List.getD x39 (Int.toNat x41) zt70).2).2).2).2).1).1).1).2
 let v8:=(((((((List.getD x39 (Int.toNat x41) zt70).2).2).2).2).1).1).2
 let v9:=((((((((List.getD x39 (Int.toNat x41) zt70).2).2).2).2).1).2).1).1
 let v10:=((((((((List.getD x39 (Int.toNat x41) zt70).2).2).2).2).1).2).1).2
 let v11:=(((((((List.getD x39 (Int.toNat x41) zt70).2).2).2).2).1).2).2
 let v12:=(((((List.getD x39 (Int.toNat x41) zt70).2).2).2).2).2
 (bounds_copiedChange.F ((v2,(v3,(v4,(v5,((((v6,v7),v8),((v9,v10),v11)),v12))))),())).bind fun y13=>
 let v14:=([(y13.1.1,(y13.1.2.1,(y13.1.2.2.1,(y13.1.2.2.2.1,((((y13.1.2.2.2.2.1.1.1.1,y13.1.2.2.2.2.1.1.1.2),y13.1.2.2.2.2.1.1.2),((y13.1.2.2.2.2.1.2.1.1,y13.1.2.2.2.2.1.2.1.2),y13.1.2.2.2.2.1.2.2)),y13.1.2.2.2.2.2)))))]:List Dt70)
 bif decide (List.length x3_2+List.length v14<925904528653)then(let v15:=List.append x3_2 v14
 let v16:=IntKind.i64.wrap (x41+(1:Int))
 f10 x0_g x0_0 x0_2 x0_3 x2_1 x3_0 x3_1 v15 x39 x40 v16)
 else none)
 else none)
 else(some (((),((x3_0,(x3_1,x3_2)),()),((x0_0,x39),(x0_2,x0_3))),x0_g,[]))
def e (f5:Nat→Int→Dt30→Bool→Int→Dt29→Int→Dt29→Int→Int→Option ((Unit×(Dt32×Unit)×Dt81)×Nat×List Value))(f10:Nat→Int→Bool→Dt29→Int→Dt29→Int→Dt30→Dt30→Int→Int→Option ((Unit×(Dt32×Unit)×Dt81)×Nat×List Value))(G:Gh)(d:Dt81):Option ((Unit×(Dt32×Unit)×Dt81)×Nat×List Value):=
 (bounds_Store_is.F ((d.1.1,d.1.2),(d.2.1,d.2.2)) ()).bind fun y1=>
 let v2:=not y1.2.1.1
 bif v2 then(some (((),(zt32,()),((y1.2.2.1.1,y1.2.2.1.2),(y1.2.2.2.1,y1.2.2.2.2))),G.b,[]))
 else(let v3:=(List.length y1.2.2.2.2:Int)
 f5 G.b y1.2.2.1.1 y1.2.2.1.2 y1.2.2.2.1 (0:Int) zt29 y1.2.2.1.1 y1.2.2.2.2 v3 (0:Int))
def L5 (k:Nat)(x0_g:Nat)(x0_0:Int)(x0_1:Dt30)(x0_2:Bool)(x2_1:Int)(x3_0:Dt29)(x3_1:Int)(x21:Dt29)(x22:Int)(x23:Int):Option ((Unit×(Dt32×Unit)×Dt81)×Nat×List Value):=heads (spec.env cals T Tryz.f14) (Func.pts Tryz.f14) k 5 (m5 x0_g x0_0 x0_1 x0_2 x2_1 x3_0 x3_1 x21 x22 x23)
def L10 (k:Nat)(x0_g:Nat)(x0_0:Int)(x0_2:Bool)(x0_3:Dt29)(x2_1:Int)(x3_0:Dt29)(x3_1:Int)(x3_2:Dt30)(x39:Dt30)(x40:Int)(x41:Int):Option ((Unit×(Dt32×Unit)×Dt81)×Nat×List Value):=heads (spec.env cals T Tryz.f14) (Func.pts Tryz.f14) k 10 (m10 x0_g x0_0 x0_2 x0_3 x2_1 x3_0 x3_1 x3_2 x39 x40 x41)
theorem L5_succ (k:Nat)(x0_g:Nat)(x0_0:Int)(x0_1:Dt30)(x0_2:Bool)(x2_1:Int)(x3_0:Dt29)(x3_1:Int)(x21:Dt29)(x22:Int)(x23:Int):L5 (k+1) x0_g x0_0 x0_1 x0_2 x2_1 x3_0 x3_1 x21 x22 x23=b5 (L5 k) (L10 k) x0_g x0_0 x0_1 x0_2 x2_1 x3_0 x3_1 x21 x22 x23:=by kernel_rfl
theorem L10_succ (k:Nat)(x0_g:Nat)(x0_0:Int)(x0_2:Bool)(x0_3:Dt29)(x2_1:Int)(x3_0:Dt29)(x3_1:Int)(x3_2:Dt30)(x39:Dt30)(x40:Int)(x41:Int):L10 (k+1) x0_g x0_0 x0_2 x0_3 x2_1 x3_0 x3_1 x3_2 x39 x40 x41=b10 (L5 k) (L10 k) x0_g x0_0 x0_2 x0_3 x2_1 x3_0 x3_1 x3_2 x39 x40 x41:=by kernel_rfl
theorem eval (k:Nat)(G:Gh)(d:Dt81):evalX spec cals T Tryz.f14 k G d ()=e (L5 k) (L10 k) G d:=by kernel_rfl
theorem of (d:Dt81)(y:(Unit×(Dt32×Unit)×Dt81))(h:∀G:Gh,∃k:Nat,e (L5 k) (L10 k) G d=some (y,(G.b,[]))):F d ()=some y:=limX_of (q:=spec) (C:=cals) (T:=T) (f:=Tryz.f14) (d:=d) (x:=()) y fun G=>(h G).imp fun k hk=>(eval k G d).trans hk
end bounds_Store_State
namespace bounds_Store_Limit
def spec:XSpec:=⟨some ⟨81,0,Kt81,0⟩,false,[(false,(.int .i64))],false,none,[(true,Kt68),(false,(.int .i64))],false,fun j=>match j with|_=>[]⟩
def cals:Cals:=(Cals.consX 55 false bounds_Store_wrong.sig (Cals.cons 46 bounds_copiedLimit.sig (Cals.base tabs)))
def sig:XSig:=spec.sig cals T Tryz.f22
def F (d:Dt81)(x:Int×Unit):Option (Unit×(Dt68×Int×Unit)×Dt81):=limX spec cals T Tryz.f22 d x
theorem ck:CalsOk Tryz.prog cals:=(CalsOk.consX bounds_Store_wrong.cal (CalsOk.cons bounds_copiedLimit.cal (CalsOk.base tabsOk)))
theorem cal:XOk Tryz.prog tabs 22 sig:=xok_of tabOk ck mix Tryz.func22 (by kernel_rfl) (by kernel_rfl) (by kernel_rfl) (by kernel_rfl)
def e (G:Gh)(d:Dt81)(a0:Int):Option ((Unit×(Dt68×Int×Unit)×Dt81)×Nat×List Value):=
 (bounds_Store_wrong.F ((d.1.1,d.1.2),(d.2.1,d.2.2)) (a0,())).bind fun y1=>
 let v2:=(y1.2.1.1 != (0:Int))
 bif v2 then(some (((),(zt68,y1.2.1.1,()),((y1.2.2.1.1,y1.2.2.1.2),(y1.2.2.2.1,y1.2.2.2.2))),G.b,[]))
 else(bif decide (0≤a0)&&decide (a0<(List.length y1.2.2.2.2:Int))then(let v3:=((List.getD y1.2.2.2.2 (Int.toNat a0) zt68).1).1
 let v4:=((((((List.getD y1.2.2.2.2 (Int.toNat a0) zt68).1).2).1).1).1).1
 let v5:=((((((List.getD y1.2.2.2.2 (Int.toNat a0) zt68).1).2).1).1).1).2
 let v6:=(((((List.getD y1.2.2.2.2 (Int.toNat a0) zt68).1).2).1).1).2
 let v7:=((((((List.getD y1.2.2.2.2 (Int.toNat a0) zt68).1).2).1).2).1).1
 let v8:=((((((List.getD y1.2.2.2.2 (Int.toNat a0) zt68).1).2).1).2).1).2
 let v9:=(((((List.getD y1.2.2.2.2 (Int.toNat a0) zt68).1).2).1).2).2
 let v10:=(((List.getD y1.2.2.2.2 (Int.toNat a0) zt68).1).2).2
 let v11:=((List.getD y1.2.2.2.2 (Int.toNat a0) zt68).2).1
 let v12:=((((((List.getD y1.2.2.2.2 (Int.toNat a0) zt68).2).2).1).1).1).1
 let v13:=((((((List.getD y1.2.2.2.2 (Int.toNat a0) zt68).2).2).1).1).1).2
 let v14:=(((((List.getD y1.2.2.2.2 (Int.toNat a0) zt68).2).2).1).1).2
 let v15:=((((((List.getD y1.2.2.2.2 (Int.toNat a0) zt68).2).2).1).2).1).1
 let v16:=((((((List.getD y1.2.2.2.2 (Int.toNat a0) zt68).2).2).1).2).1).2
 let v17:=(((((List.getD y1.2.2.2.2 (Int.toNat a0) zt68).2).2).1).2).2
 let v18:=(((List.getD y1.2.2.2.2 (Int.toNat a0) zt68).2).2).2
 (bounds_copiedLimit.F (((v3,((((v4,v5),v6),((v7,v8),v9)),v10)),(v11,((((v12,v13),v14),((v15,v16),v17)),v18))),())).bind fun y19=>
 some (((),(((y19.1.1.1,((((y19.1.1.2.1.1.1.1,y19.1.1.2.1.1.1.2),y19.1.1.2.1.1.2),((y19.1.1.2.1.2.1.1,y19.1.1.2.1.2.1.2),y19.1.1.2.1.2.2)),y19.1.1.2.2)),(y19.1.2.1,((((y19.1.2.2.1.1.1.1,y19.1.2.2.1.1.1.2),y19.1.2.2.1.1.2),((y19.1.2.2.1.2.1.1,y19.1.2.2.1.2.1.2),y19.1.2.2.1.2.2)),y19.1.2.2.2))),(0:Int),()),((y1.2.2.1.1,y1.2.2.1.2),(y1.2.2.2.1,y1.2.2.2.2))),G.b,[]))
 else none)
theorem eval (k:Nat)(G:Gh)(d:Dt81)(a0:Int):evalX spec cals T Tryz.f22 k G d (a0,())=e G d a0:=by kernel_rfl
theorem of (d:Dt81)(a0:Int)(y:(Unit×(Dt68×Int×Unit)×Dt81))(h:∀G:Gh,∃k:Nat,e G d a0=some (y,(G.b,[]))):F d (a0,())=some y:=limX_of (q:=spec) (C:=cals) (T:=T) (f:=Tryz.f22) (d:=d) (x:=(a0,())) y fun G=>(h G).imp fun k hk=>(eval k G d a0).trans hk
end bounds_Store_Limit
namespace bounds_Store_Fixed
def spec:XSpec:=⟨some ⟨81,0,Kt81,0⟩,false,[(false,(.int .i64))],false,none,[(false,.bool),(false,(.int .i64))],false,fun j=>match j with|_=>[]⟩
def cals:Cals:=(Cals.consX 55 false bounds_Store_wrong.sig (Cals.cons 68 delta_Cmp.sig (Cals.base tabs)))
def sig:XSig:=spec.sig cals T Tryz.f39
def F (d:Dt81)(x:Int×Unit):Option (Unit×(Bool×Int×Unit)×Dt81):=limX spec cals T Tryz.f39 d x
theorem ck:CalsOk Tryz.prog cals:=(CalsOk.consX bounds_Store_wrong.cal (CalsOk.cons delta_Cmp.cal (CalsOk.base tabsOk)))
theorem cal:XOk Tryz.prog tabs 39 sig:=xok_of tabOk ck mix Tryz.func39 (by kernel_rfl) (by kernel_rfl) (by kernel_rfl) (by kernel_rfl)
def e (G:Gh)(d:Dt81)(a0:Int):Option ((Unit×(Bool×Int×Unit)×Dt81)×Nat×List Value):=
 (bounds_Store_wrong.F ((d.1.1,d.1.2),(d.2.1,d.2.2)) (a0,())).bind fun y1=>
 let v2:=(y1.2.1.1 != (0:Int))
 bif v2 then(some (((),(false,y1.2.1.1,()),((y1.2.2.1.1,y1.2.2.1.2),(y1.2.2.2.1,y1.2.2.2.2))),G.b,[]))
 else(bif decide (0≤a0)&&decide (a0<(List.length y1.2.2.2.2:Int))then(let v3:=((List.getD y1.2.2.2.2 (Int.toNat a0) zt68).1).1
 let v4:=((((((List.getD y1.2.2.2.2 (Int.toNat a0) zt68).1).2).1).1).1).1
 let v5:=((((((List.getD y1.2.2.2.2 (Int.toNat a0) zt68).1).2).1).1).1).2
 let v6:=(((((List.getD y1.2.2.2.2 (Int.toNat a0) zt68).1).2).1).1).2
 let v7:=((((((List.getD y1.2.2.2.2 (Int.toNat a0) zt68).1).2).1).2).1).1
 let v8:=((((((List.getD y1.2.2.2.2 (Int.toNat a0) zt68).1).2).1).2).1).2
 let v9:=(((((List.getD y1.2.2.2.2 (Int.toNat a0) zt68).1).2).1).2).2
 let v10:=(((List.getD y1.2.2.2.2 (Int.toNat a0) zt68).1).2).2
 let v11:=((List.getD y1.2.2.2.2 (Int.toNat a0) zt68).2).1
 let v12:=((((((List.getD y1.2.2.2.2 (Int.toNat a0) zt68).2).2).1).1).1).1
 let v13:=((((((List.getD y1.2.2.2.2 (Int.toNat a0) zt68).2).2).1).1).1).2
 let v14:=(((((List.getD y1.2.2.2.2 (Int.toNat a0) zt68).2).2).1).1).2
 let v15:=((((((List.getD y1.2.2.2.2 (Int.toNat a0) zt68).2).2).1).2).1).1
 let v16:=((((((List.getD y1.2.2.2.2 (Int.toNat a0) zt68).2).2).1).2).1).2
 let v17:=(((((List.getD y1.2.2.2.2 (Int.toNat a0) zt68).2).2).1).2).2
 let v18:=(((List.getD y1.2.2.2.2 (Int.toNat a0) zt68).2).2).2
 bif v3 then(bif v11 then((delta_Cmp.F ((((v4,v5),v6),((v7,v8),v9)),(((v12,v13),v14),((v15,v16),v17)),())).bind fun y19=>
 let v20:=(y19.1==(0:Int))
 some (((),(v20,(0:Int),()),((y1.2.2.1.1,y1.2.2.1.2),(y1.2.2.2.1,y1.2.2.2.2))),G.b,[]))
 else(some (((),(false,(0:Int),()),((y1.2.2.1.1,y1.2.2.1.2),(y1.2.2.2.1,y1.2.2.2.2))),G.b,[])))
 else(some (((),(false,(0:Int),()),((y1.2.2.1.1,y1.2.2.1.2),(y1.2.2.2.1,y1.2.2.2.2))),G.b,[])))
 else none)
theorem eval (k:Nat)(G:Gh)(d:Dt81)(a0:Int):evalX spec cals T Tryz.f39 k G d (a0,())=e G d a0:=by kernel_rfl
theorem of (d:Dt81)(a0:Int)(y:(Unit×(Bool×Int×Unit)×Dt81))(h:∀G:Gh,∃k:Nat,e G d a0=some (y,(G.b,[]))):F d (a0,())=some y:=limX_of (q:=spec) (C:=cals) (T:=T) (f:=Tryz.f39) (d:=d) (x:=(a0,())) y fun G=>(h G).imp fun k hk=>(eval k G d a0).trans hk
end bounds_Store_Fixed
namespace r08_Fixed
def spec:Spec:=⟨[(true,Kt32),(false,(.int .i64))],[(false,.bool),(false,(.int .i64))],.own,fun j=>match j with|_=>[]⟩
def cals:Cals:=(Cals.cons 37 r08_Is.sig (Cals.cons 69 r05_Cmp.sig (Cals.base tabs)))
def sig:Sig:=spec.sig cals T Tryz.f40
def F (x:Dt32×Int×Unit):Option (Bool×Int×Unit):=limF spec cals T Tryz.f40 x
theorem ck:CalsOk Tryz.prog cals:=(CalsOk.cons r08_Is.cal (CalsOk.cons r05_Cmp.cal (CalsOk.base tabsOk)))
theorem cal:CalOk Tryz.prog tabs 40 sig:=calOk_lim' tabOk ck mix Tryz.func40 (by kernel_rfl) (by kernel_rfl) (by kernel_rfl) (by kernel_rfl)
def e (a0:Dt32)(a1:Int):Option (Bool×Int×Unit):=
 (r08_Is.F ((a0.1,(a0.2.1,a0.2.2)),a1,())).bind fun y1=>
 let v2:=not y1.1
 bif v2 then(some (false,(61:Int),()))
 else(bif decide (0≤a1)&&decide (a1<(List.length a0.1:Int))then(let v3:=((List.getD a0.1 (Int.toNat a1) zt68).1).1
 let v4:=((((((List.getD a0.1 (Int.toNat a1) zt68).1).2).1).1).1).1
 let v5:=((((((List.getD a0.1 (Int.toNat a1) zt68).1).2).1).1).1).2
 let v6:=(((((List.getD a0.1 (Int.toNat a1) zt68).1).2).1).1).2
 let v7:=((((((List.getD a0.1 (Int.toNat a1) zt68).1).2).1).2).1).1
 let v8:=((((((List.getD a0.1 (Int.toNat a1) zt68).1).2).1).2).1).2
 let v9:=(((((List.getD a0.1 (Int.toNat a1) zt68).1).2).1).2).2
 let v10:=(((List.getD a0.1 (Int.toNat a1) zt68).1).2).2
 let v11:=((List.getD a0.1 (Int.toNat a1) zt68).2).1
 let v12:=((((((List.getD a0.1 (Int.toNat a1) zt68).2).2).1).1).1).1
 let v13:=((((((List.getD a0.1 (Int.toNat a1) zt68).2).2).1).1).1).2
 let v14:=(((((List.getD a0.1 (Int.toNat a1) zt68).2).2).1).1).2
 let v15:=((((((List.getD a0.1 (Int.toNat a1) zt68).2).2).1).2).1).1
 let v16:=((((((List.getD a0.1 (Int.toNat a1) zt68).2).2).1).2).1).2
 let v17:=(((((List.getD a0.1 (Int.toNat a1) zt68).2).2).1).2).2
 let v18:=(((List.getD a0.1 (Int.toNat a1) zt68).2).2).2
 bif v3 then(bif v11 then((r05_Cmp.F ((((v4,v5),v6),((v7,v8),v9)),(((v12,v13),v14),((v15,v16),v17)),())).bind fun y19=>
 let v20:=(y19.1==(0:Int))
 some (v20,(0:Int),()))
 else(some (false,(0:Int),())))
 else(some (false,(0:Int),())))
 else none)
theorem eval (k:Nat)(a0:Dt32)(a1:Int):evalF spec cals T Tryz.f40 k (a0,a1,())=e a0 a1:=by kernel_rfl
theorem of (k:Nat)(a0:Dt32)(a1:Int){y:Bool×Int×Unit}(h:e a0 a1=some y):F (a0,a1,())=some y:=limF_of k ((eval k a0 a1).trans h)
end r08_Fixed
namespace bounds_keeps
def spec:Spec:=⟨[(true,Kt68),(true,Kt44)],[(false,.bool)],.own,fun j=>match j with|_=>[]⟩
def cals:Cals:=(Cals.cons 63 bounds_above.sig (Cals.cons 49 bounds_below.sig (Cals.base tabs)))
def sig:Sig:=spec.sig cals T Tryz.f70
def F (x:Dt68×Dt44×Unit):Option (Bool×Unit):=limF spec cals T Tryz.f70 x
theorem ck:CalsOk Tryz.prog cals:=(CalsOk.cons bounds_above.cal (CalsOk.cons bounds_below.cal (CalsOk.base tabsOk)))
theorem cal:CalOk Tryz.prog tabs 70 sig:=calOk_lim' tabOk ck mix Tryz.func70 (by kernel_rfl) (by kernel_rfl) (by kernel_rfl) (by kernel_rfl)
def e (a0:Dt68)(a1:Dt44):Option (Bool×Unit):=
 (bounds_above.F ((a0.1.1,((((a0.1.2.1.1.1.1,a0.1.2.1.1.1.2),a0.1.2.1.1.2),((a0.1.2.1.2.1.1,a0.1.2.1.2.1.2),a0.1.2.1.2.2)),a0.1.2.2)),(((a1.1.1.1,a1.1.1.2),a1.1.2),((a1.2.1.1,a1.2.1.2),a1.2.2)),())).bind fun y1=>
 let v2:=not y1.1
 bif v2 then((bounds_below.F ((a0.2.1,((((a0.2.2.1.1.1.1,a0.2.2.1.1.1.2),a0.2.2.1.1.2),((a0.2.2.1.2.1.1,a0.2.2.1.2.1.2),a0.2.2.1.2.2)),a0.2.2.2)),(((a1.1.1.1,a1.1.1.2),a1.1.2),((a1.2.1.1,a1.2.1.2),a1.2.2)),())).bind fun y3=>
 let v4:=not y3.1
 some (v4,()))
 else(some (false,()))
theorem eval (k:Nat)(a0:Dt68)(a1:Dt44):evalF spec cals T Tryz.f70 k (a0,a1,())=e a0 a1:=by kernel_rfl
theorem of (k:Nat)(a0:Dt68)(a1:Dt44){y:Bool×Unit}(h:e a0 a1=some y):F (a0,a1,())=some y:=limF_of k ((eval k a0 a1).trans h)
end bounds_keeps
namespace bounds_Store_Inside
def spec:XSpec:=⟨some ⟨81,0,Kt81,0⟩,false,[(false,(.int .i64)),(true,Kt44)],false,none,[(false,.bool),(false,(.int .i64))],false,fun j=>match j with|_=>[]⟩
def cals:Cals:=(Cals.consX 55 false bounds_Store_wrong.sig (Cals.cons 70 bounds_keeps.sig (Cals.base tabs)))
def sig:XSig:=spec.sig cals T Tryz.f41
def F (d:Dt81)(x:Int×Dt44×Unit):Option (Unit×(Bool×Int×Unit)×Dt81):=limX spec cals T Tryz.f41 d x
theorem ck:CalsOk Tryz.prog cals:=(CalsOk.consX bounds_Store_wrong.cal (CalsOk.cons bounds_keeps.cal (CalsOk.base tabsOk)))
theorem cal:XOk Tryz.prog tabs 41 sig:=xok_of tabOk ck mix Tryz.func41 (by kernel_rfl) (by kernel_rfl) (by kernel_rfl) (by kernel_rfl)
def e (G:Gh)(d:Dt81)(a0:Int)(a1:Dt44):Option ((Unit×(Bool×Int×Unit)×Dt81)×Nat×List Value):=
 (bounds_Store_wrong.F ((d.1.1,d.1.2),(d.2.1,d.2.2)) (a0,())).bind fun y1=>
 let v2:=(y1.2.1.1 != (0:Int))
 bif v2 then(some (((),(false,y1.2.1.1,()),((y1.2.2.1.1,y1.2.2.1.2),(y1.2.2.2.1,y1.2.2.2.2))),G.b,[]))
 else(bif decide (0≤a0)&&decide (a0<(List.length y1.2.2.2.2:Int))then(let v3:=((List.getD y1.2.2.2.2 (Int.toNat a0) zt68).1).1
 let v4:=((((((List.getD y1.2.2.2.2 (Int.toNat a0) zt68).1).2).1).1).1).1
 let v5:=((((((List.getD y1.2.2.2.2 (Int.toNat a0) zt68).1).2).1).1).1).2
 let v6:=(((((List.getD y1.2.2.2.2 (Int.toNat a0) zt68).1).2).1).1).2
 let v7:=((((((List.getD y1.2.2.2.2 (Int.toNat a0) zt68).1).2).1).2).1).1
 let v8:=((((((List.getD y1.2.2.2.2 (Int.toNat a0) zt68).1).2).1).2).1).2
 let v9:=(((((List.getD y1.2.2.2.2 (Int.toNat a0) zt68).1).2).1).2).2
 let v10:=(((List.getD y1.2.2.2.2 (Int.toNat a0) zt68).1).2).2
 let v11:=((List.getD y1.2.2.2.2 (Int.toNat a0) zt68).2).1
 let v12:=((((((List.getD y1.2.2.2.2 (Int.toNat a0) zt68).2).2).1).1).1).1
 let v13:=((((((List.getD y1.2.2.2.2 (Int.toNat a0) zt68).2).2).1).1).1).2
 let v14:=(((((List.getD y1.2.2.2.2 (Int.toNat a0) zt68).2).2).1).1).2
 let v15:=((((((List.getD y1.2.2.2.2 (Int.toNat a0) zt68).2).2).1).2).1).1
 let v16:=((((((List.getD y1.2.2.2.2 (Int.toNat a0) zt68).2).2).1).2).1).2
 let v17:=(((((List.getD y1.2.2.2.2 (Int.toNat a0) zt68).2).2).1).2).2
 let v18:=(((List.getD y1.2.2.2.2 (Int.toNat a0) zt68).2).2).2
 (bounds_keeps.F (((v3,((((v4,v5),v6),((v7,v8),v9)),v10)),(v11,((((v12,v13),v14),((v15,v16),v17)),v18))),(((a1.1.1.1,a1.1.1.2),a1.1.2),((a1.2.1.1,a1.2.1.2),a1.2.2)),())).bind fun y19=>
 some (((),(y19.1,(0:Int),()),((y1.2.2.1.1,y1.2.2.1.2),(y1.2.2.2.1,y1.2.2.2.2))),G.b,[]))
 else none)
theorem eval (k:Nat)(G:Gh)(d:Dt81)(a0:Int)(a1:Dt44):evalX spec cals T Tryz.f41 k G d (a0,a1,())=e G d a0 a1:=by kernel_rfl
theorem of (d:Dt81)(a0:Int)(a1:Dt44)(y:(Unit×(Bool×Int×Unit)×Dt81))(h:∀G:Gh,∃k:Nat,e G d a0 a1=some (y,(G.b,[]))):F d (a0,a1,())=some y:=limX_of (q:=spec) (C:=cals) (T:=T) (f:=Tryz.f41) (d:=d) (x:=(a0,a1,())) y fun G=>(h G).imp fun k hk=>(eval k G d a0 a1).trans hk
end bounds_Store_Inside
namespace r08_Keeps
def spec:Spec:=⟨[(true,Kt68),(true,Kt44)],[(false,.bool)],.own,fun j=>match j with|_=>[]⟩
def cals:Cals:=(Cals.cons 69 r05_Cmp.sig (Cals.base tabs))
def sig:Sig:=spec.sig cals T Tryz.f71
def F (x:Dt68×Dt44×Unit):Option (Bool×Unit):=limF spec cals T Tryz.f71 x
theorem ck:CalsOk Tryz.prog cals:=(CalsOk.cons r05_Cmp.cal (CalsOk.base tabsOk))
theorem cal:CalOk Tryz.prog tabs 71 sig:=calOk_lim' tabOk ck mix Tryz.func71 (by kernel_rfl) (by kernel_rfl) (by kernel_rfl) (by kernel_rfl)
def e (a0:Dt68)(a1:Dt44):Option (Bool×Unit):=
 bif a0.1.1 then((r05_Cmp.F ((((a1.1.1.1,a1.1.1.2),a1.1.2),((a1.2.1.1,a1.2.1.2),a1.2.2)),(((a0.1.2.1.1.1.1,a0.1.2.1.1.1.2),a0.1.2.1.1.2),((a0.1.2.1.2.1.1,a0.1.2.1.2.1.2),a0.1.2.1.2.2)),())).bind fun y1=>
 let v2:=decide (y1.1<(0:Int))
 bif v2 then(some (false,()))
 else(let v3:=not a0.2.1
 bif v3 then(some (true,()))
 else((r05_Cmp.F ((((a1.1.1.1,a1.1.1.2),a1.1.2),((a1.2.1.1,a1.2.1.2),a1.2.2)),(((a0.2.2.1.1.1.1,a0.2.2.1.1.1.2),a0.2.2.1.1.2),((a0.2.2.1.2.1.1,a0.2.2.1.2.1.2),a0.2.2.1.2.2)),())).bind fun y4=>
 let v5:=decide (y4.1≤(0:Int))
 some (v5,()))))
 else(let v6:=not a0.2.1
 bif v6 then(some (true,()))
 else((r05_Cmp.F ((((a1.1.1.1,a1.1.1.2),a1.1.2),((a1.2.1.1,a1.2.1.2),a1.2.2)),(((a0.2.2.1.1.1.1,a0.2.2.1.1.1.2),a0.2.2.1.1.2),((a0.2.2.1.2.1.1,a0.2.2.1.2.1.2),a0.2.2.1.2.2)),())).bind fun y7=>
 let v8:=decide (y7.1≤(0:Int))
 some (v8,())))
theorem eval (k:Nat)(a0:Dt68)(a1:Dt44):evalF spec cals T Tryz.f71 k (a0,a1,())=e a0 a1:=by kernel_rfl
theorem of (k:Nat)(a0:Dt68)(a1:Dt44){y:Bool×Unit}(h:e a0 a1=some y):F (a0,a1,())=some y:=limF_of k ((eval k a0 a1).trans h)
end r08_Keeps
namespace r08_Inside
def spec:Spec:=⟨[(true,Kt32),(false,(.int .i64)),(true,Kt44)],[(false,.bool),(false,(.int .i64))],.own,fun j=>match j with|_=>[]⟩
def cals:Cals:=(Cals.cons 37 r08_Is.sig (Cals.cons 71 r08_Keeps.sig (Cals.base tabs)))
def sig:Sig:=spec.sig cals T Tryz.f42
def F (x:Dt32×Int×Dt44×Unit):Option (Bool×Int×Unit):=limF spec cals T Tryz.f42 x
theorem ck:CalsOk Tryz.prog cals:=(CalsOk.cons r08_Is.cal (CalsOk.cons r08_Keeps.cal (CalsOk.base tabsOk)))
theorem cal:CalOk Tryz.prog tabs 42 sig:=calOk_lim' tabOk ck mix Tryz.func42 (by kernel_rfl) (by kernel_rfl) (by kernel_rfl) (by kernel_rfl)
def e (a0:Dt32)(a1:Int)(a2:Dt44):Option (Bool×Int×Unit):=
 (r08_Is.F ((a0.1,(a0.2.1,a0.2.2)),a1,())).bind fun y1=>
 let v2:=not y1.1
 bif v2 then(some (false,(61:Int),()))
 else(bif decide (0≤a1)&&decide (a1<(List.length a0.1:Int))then(let v3:=((List.getD a0.1 (Int.toNat a1) zt68).1).1
 let v4:=((((((List.getD a0.1 (Int.toNat a1) zt68).1).2).1).1).1).1
 let v5:=((((((List.getD a0.1 (Int.toNat a1) zt68).1).2).1).1).1).2
 let v6:=(((((List.getD a0.1 (Int.toNat a1) zt68).1).2).1).1).2
 let v7:=((((((List.getD a0.1 (Int.toNat a1) zt68).1).2).1).2).1).1
 let v8:=((((((List.getD a0.1 (Int.toNat a1) zt68).1).2).1).2).1).2
 let v9:=(((((List.getD a0.1 (Int.toNat a1) zt68).1).2).1).2).2
 let v10:=(((List.getD a0.1 (Int.toNat a1) zt68).1).2).2
 let v11:=((List.getD a0.1 (Int.toNat a1) zt68).2).1
 let v12:=((((((List.getD a0.1 (Int.toNat a1) zt68).2).2).1).1).1).1
 let v13:=((((((List.getD a0.1 (Int.toNat a1) zt68).2).2).1).1).1).2
 let v14:=(((((List.getD a0.1 (Int.toNat a1) zt68).2).2).1).1).2
 let v15:=((((((List.getD a0.1 (Int.toNat a1) zt68).2).2).1).2).1).1
 let v16:=((((((List.getD a0.1 (Int.toNat a1) zt68).2).2).1).2).1).2
 let v17:=(((((List.getD a0.1 (Int.toNat a1) zt68).2).2).1).2).2
 let v18:=(((List.getD a0.1 (Int.toNat a1) zt68).2).2).2
 (r08_Keeps.F (((v3,((((v4,v5),v6),((v7,v8),v9)),v10)),(v11,((((v12,v13),v14),((v15,v16),v17)),v18))),(((a2.1.1.1,a2.1.1.2),a2.1.2),((a2.2.1.1,a2.2.1.2),a2.2.2)),())).bind fun y19=>
 some (y19.1,(0:Int),()))
 else none)
theorem eval (k:Nat)(a0:Dt32)(a1:Int)(a2:Dt44):evalF spec cals T Tryz.f42 k (a0,a1,a2,())=e a0 a1 a2:=by kernel_rfl
theorem of (k:Nat)(a0:Dt32)(a1:Int)(a2:Dt44){y:Bool×Int×Unit}(h:e a0 a1 a2=some y):F (a0,a1,a2,())=some y:=limF_of k ((eval k a0 a1 a2).trans h)
end r08_Inside
namespace bounds_Store_Fits
def spec:XSpec:=⟨some ⟨81,0,Kt81,0⟩,false,[(false,Kt45)],false,none,[(false,(.int .i64))],false,fun j=>match j with|4=>[(0,.pbox 81 [.v true,.o 70 Kt70 true,.v true,.o 68 Kt68 true]),(1,.lf (.z 44 Kt44 true)),(14,.lf (.o 68 Kt68 true)),(15,.lf (.v true)),(16,.lf (.v true))]|_=>[]⟩
def cals:Cals:=(Cals.consX 36 false bounds_Store_is.sig (Cals.cons 70 bounds_keeps.sig (Cals.base tabs)))
def sig:XSig:=spec.sig cals T Tryz.f43
def F (d:Dt81)(x:Dt45×Unit):Option (Unit×(Int×Unit)×Dt81):=limX spec cals T Tryz.f43 d x
theorem ck:CalsOk Tryz.prog cals:=(CalsOk.consX bounds_Store_is.cal (CalsOk.cons bounds_keeps.cal (CalsOk.base tabsOk)))
theorem cal:XOk Tryz.prog tabs 43 sig:=xok_of tabOk ck mix Tryz.func43 (by kernel_rfl) (by kernel_rfl) (by kernel_rfl) (by kernel_rfl)
def m4 (x0_g:Nat)(x0_0:Int)(x0_1:Dt30)(x0_2:Bool)(x1:Dt45)(x14:Dt29)(x15:Int)(x16:Int):S:=⟨[(0,.pbox 0 0 x0_g),(1,.one (.lf (.val true Kt45 x1))),(14,.one (.lf (.own 0))),(15,.one (.lf (.val true (.int .i64) x15))),(16,.one (.lf (.val true (.int .i64) x16)))],⟨[some ⟨68,Kt68,true,true,x14⟩,some ⟨70,Kt70,true,true,x0_1⟩],[some ⟨81,[.val true (.int .i64) x0_0,.own 1,.val true .bool x0_2,.own 0]⟩]⟩⟩
def b4 (f4:Nat→Int→Dt30→Bool→Dt45→Dt29→Int→Int→Option ((Unit×(Int×Unit)×Dt81)×Nat×List Value))(x0_g:Nat)(x0_0:Int)(x0_1:Dt30)(x0_2:Bool)(x1:Dt45)(x14:Dt29)(x15:Int)(x16:Int):Option ((Unit×(Int×Unit)×Dt81)×Nat×List Value):=
 let v1:=decide (x16<x15)
 bif v1 then(bif decide (0≤x16)&&decide (x16<(List.length x14:Int))then(let v2:=((List.getD x14 (Int.toNat x16) zt68).1).1
 let v3:=((((((List.getD x14 (Int.toNat x16) zt68).1).2).1).1).1).1
 let v4:=((((((List.getD x14 (Int.toNat x16) zt68).1).2).1).1).1).2
 let v5:=(((((List.getD x14 (Int.toNat x16) zt68).1).2).1).1).2
 let v6:=((((((List.getD x14 (Int.toNat x16) zt68).1).2).1).2).1).1
 let v7:=((((((List.getD x14 (Int.toNat x16) zt68).1).2).1).2).1).2
 let v8:=(((((List.getD x14 (Int.toNat x16) zt68).1).2).1).2).2
 let v9:=(((List.getD x14 (Int.toNat x16) zt68).1).2).2
 let v10:=((List.getD x14 (Int.toNat x16) zt68).2).1
 let v11:=((((((List.getD x14 (Int.toNat x16) zt68).2).2).1).1).1).1
 let v12:=((((((List.getD x14 (Int.toNat x16) zt68).2).2).1).1).1).2
 let v13:=(((((List.getD x14 (Int.toNat x16) zt68).2).2).1).1).2
 let v14:=((((((List.getD x14 (Int.toNat x16) zt68).2).2).1).2).1).1
 let v15:=((((((List.getD x14 (Int.toNat x16) zt68).2).2).1).2).1).2
 let v16:=(((((List.getD x14 (Int.toNat x16) zt68).2).2).1).2).2
 let v17:=(((List.getD x14 (Int.toNat x16) zt68).2).2).2
 let v18:=(List.length x1:Int)
 let v19:=decide (x16<v18)
 bif v19 then(bif decide (0≤x16)&&decide (x16<(List.length x1:Int))then(let v20:=(((List.getD x1 (Int.toNat x16) zt44).1).1).1
 let v21:=(((List.getD x1 (Int.toNat x16) zt44).1).1).2
 let v22:=((List.getD x1 (Int.toNat x16) zt44).1).2
 let v23:=(((List.getD x1 (Int.toNat x16) zt44).2).1).1
 let v24:=(((List.getD x1 (Int.toNat x16) zt44).2).1).2
 let v25:=((List.getD x1 (Int.toNat x16) zt44).2).2
 (bounds_keeps.F (((v2,((((v3,v4),v5),((v6,v7),v8)),v9)),(v10,((((v11,v12),v13),((v14,v15),v16)),v17))),(((v20,v21),v22),((v23,v24),v25)),())).bind fun y26=>
 let v27:=not y26.1
 bif v27 then(some (((),(x16,()),((x0_0,x0_1),(x0_2,x14))),x0_g,[]))
 else(let v28:=IntKind.i64.wrap (x16+(1:Int))
 f4 x0_g x0_0 x0_1 x0_2 x1 x14 x15 v28))
 else none)
 else((bounds_keeps.F (((v2,((((v3,v4),v5),((v6,v7),v8)),v9)),(v10,((((v11,v12),v13),((v14,v15),v16)),v17))),zt44,())).bind fun y29=>
 let v30:=not y29.1
 bif v30 then(some (((),(x16,()),((x0_0,x0_1),(x0_2,x14))),x0_g,[]))
 else(let v31:=IntKind.i64.wrap (x16+(1:Int))
 f4 x0_g x0_0 x0_1 x0_2 x1 x14 x15 v31)))
 else none)
 else(some (((),((-1:Int),()),((x0_0,x0_1),(x0_2,x14))),x0_g,[]))
def e (f4:Nat→Int→Dt30→Bool→Dt45→Dt29→Int→Int→Option ((Unit×(Int×Unit)×Dt81)×Nat×List Value))(G:Gh)(d:Dt81)(a0:Dt45):Option ((Unit×(Int×Unit)×Dt81)×Nat×List Value):=
 (bounds_Store_is.F ((d.1.1,d.1.2),(d.2.1,d.2.2)) ()).bind fun y1=>
 let v2:=not y1.2.1.1
 bif v2 then(some (((),((-1:Int),()),((y1.2.2.1.1,y1.2.2.1.2),(y1.2.2.2.1,y1.2.2.2.2))),G.b,[]))
 else(let v3:=(List.length y1.2.2.2.2:Int)
 f4 G.b y1.2.2.1.1 y1.2.2.1.2 y1.2.2.2.1 a0 y1.2.2.2.2 v3 (0:Int))
def L4 (k:Nat)(x0_g:Nat)(x0_0:Int)(x0_1:Dt30)(x0_2:Bool)(x1:Dt45)(x14:Dt29)(x15:Int)(x16:Int):Option ((Unit×(Int×Unit)×Dt81)×Nat×List Value):=heads (spec.env cals T Tryz.f43) (Func.pts Tryz.f43) k 4 (m4 x0_g x0_0 x0_1 x0_2 x1 x14 x15 x16)
theorem L4_succ (k:Nat)(x0_g:Nat)(x0_0:Int)(x0_1:Dt30)(x0_2:Bool)(x1:Dt45)(x14:Dt29)(x15:Int)(x16:Int):L4 (k+1) x0_g x0_0 x0_1 x0_2 x1 x14 x15 x16=b4 (L4 k) x0_g x0_0 x0_1 x0_2 x1 x14 x15 x16:=by kernel_rfl
theorem eval (k:Nat)(G:Gh)(d:Dt81)(a0:Dt45):evalX spec cals T Tryz.f43 k G d (a0,())=e (L4 k) G d a0:=by kernel_rfl
theorem of (d:Dt81)(a0:Dt45)(y:(Unit×(Int×Unit)×Dt81))(h:∀G:Gh,∃k:Nat,e (L4 k) G d a0=some (y,(G.b,[]))):F d (a0,())=some y:=limX_of (q:=spec) (C:=cals) (T:=T) (f:=Tryz.f43) (d:=d) (x:=(a0,())) y fun G=>(h G).imp fun k hk=>(eval k G d a0).trans hk
end bounds_Store_Fits
namespace r08_Fits
def spec:Spec:=⟨[(true,Kt32),(false,Kt45)],[(false,(.int .i64))],.own,fun j=>match j with|2=>[(1,.lf (.z 44 Kt44 false)),(2,.box 32 [.z 68 Kt68 false,.v false,.z 70 Kt70 false]),(5,.lf (.v true))]|_=>[]⟩
def cals:Cals:=(Cals.cons 71 r08_Keeps.sig (Cals.base tabs))
def sig:Sig:=spec.sig cals T Tryz.f44
def F (x:Dt32×Dt45×Unit):Option (Int×Unit):=limF spec cals T Tryz.f44 x
theorem ck:CalsOk Tryz.prog cals:=(CalsOk.cons r08_Keeps.cal (CalsOk.base tabsOk))
theorem cal:CalOk Tryz.prog tabs 44 sig:=calOk_lim' tabOk ck mix Tryz.func44 (by kernel_rfl) (by kernel_rfl) (by kernel_rfl) (by kernel_rfl)
def m2 (x1:Dt45)(x2_0:Dt29)(x2_1:Int)(x2_2:Dt30)(x5:Int):S:=⟨[(1,.one (.lf (.val false Kt45 x1))),(2,.box 0 0),(5,.one (.lf (.val true (.int .i64) x5)))],⟨[],[some ⟨32,[.val false Kt29 x2_0,.val false (.int .i64) x2_1,.val false Kt30 x2_2]⟩]⟩⟩
def b2 (f2:Dt45→Dt29→Int→Dt30→Int→Option (Int×Unit))(x1:Dt45)(x2_0:Dt29)(x2_1:Int)(x2_2:Dt30)(x5:Int):Option (Int×Unit):=
 let v1:=(List.length x2_0:Int)
 let v2:=decide (x5<v1)
 bif v2 then(let v3:=(List.length x1:Int)
 let v4:=decide (x5<v3)
 bif v4 then(bif decide (0≤x5)&&decide (x5<(List.length x1:Int))then(let v5:=(((List.getD x1 (Int.toNat x5) zt44).1).1).1
 let v6:=(((List.getD x1 (Int.toNat x5) zt44).1).1).2
 let v7:=((List.getD x1 (Int.toNat x5) zt44).1).2
 let v8:=(((List.getD x1 (Int.toNat x5) zt44).2).1).1
 let v9:=(((List.getD x1 (Int.toNat x5) zt44).2).1).2
 let v10:=((List.getD x1 (Int.toNat x5) zt44).2).2
 bif decide (0≤x5)&&decide (x5<(List.length x2_0:Int))then(let v11:=((List.getD x2_0 (Int.toNat x5) zt68).1).1
 let v12:=((((((List.getD x2_0 (Int.toNat x5) zt68).1).2).1).1).1).1
 let v13:=((((((List.getD x2_0 (Int.toNat x5) zt68).1).2).1).1).1).2
 let v14:=(((((List.getD x2_0 (Int.toNat x5) zt68).1).2).1).1).2
 let v15:=((((((List.getD x2_0 (Int.toNat x5) zt68).1).2).1).2).1).1
 let v16:=((((((List.getD x2_0 (Int.toNat x5) zt68).1).2).1).2).1).2
 let v17:=(((((List.getD x2_0 (Int.toNat x5) zt68).1).2).1).2).2
 let v18:=(((List.getD x2_0 (Int.toNat x5) zt68).1).2).2
 let v19:=((List.getD x2_0 (Int.toNat x5) zt68).2).1
 let v20:=((((((List.getD x2_0 (Int.toNat x5) zt68).2).2).1).1).1).1
 let v21:=((((((List.getD x2_0 (Int.toNat x5) zt68).2).2).1).1).1).2
 let v22:=(((((List.getD x2_0 (Int.toNat x5) zt68).2).2).1).1).2
 let v23:=((((((List.getD x2_0 (Int.toNat x5) zt68).2).2).1).2).1).1
 let v24:=((((((List.getD x2_0 (Int.toNat x5) zt68).2).2).1).2).1).2
 let v25:=(((((List.getD x2_0 (Int.toNat x5) zt68).2).2).1).2).2
 let v26:=(((List.getD x2_0 (Int.toNat x5) zt68).2).2).2
 (r08_Keeps.F (((v11,((((v12,v13),v14),((v15,v16),v17)),v18)),(v19,((((v20,v21),v22),((v23,v24),v25)),v26))),(((v5,v6),v7),((v8,v9),v10)),())).bind fun y27=>
 let v28:=not y27.1
 bif v28 then(some (x5,()))
 else(let v29:=IntKind.i64.wrap (x5+(1:Int))
 f2 x1 x2_0 x2_1 x2_2 v29))
 else none)
 else none)
 else(bif decide (0≤x5)&&decide (x5<(List.length x2_0:Int))then(let v30:=((List.getD x2_0 (Int.toNat x5) zt68).1).1
 let v31:=((((((List.getD x2_0 (Int.toNat x5) zt68).1).2).1).1).1).1
 let v32:=((((((List.getD x2_0 (Int.toNat x5) zt68).1).2).1).1).1).2
 let v33:=(((((List.getD x2_0 (Int.toNat x5) zt68).1).2).1).1).2
 let v34:=((((((List.getD x2_0 (Int.toNat x5) zt68).1).2).1).2).1).1
 let v35:=((((((List.getD x2_0 (Int.toNat x5) zt68).1).2).1).2).1).2
 let v36:=(((((List.getD x2_0 (Int.toNat x5) zt68).1).2).1).2).2
 let v37:=(((List.getD x2_0 (Int.toNat x5) zt68).1).2).2
 let v38:=((List.getD x2_0 (Int.toNat x5) zt68).2).1
 let v39:=((((((List.getD x2_0 (Int.toNat x5) zt68).2).2).1).1).1).1
 let v40:=((((((List.getD x2_0 (Int.toNat x5) zt68).2).2).1).1).1).2
 let v41:=(((((List.getD x2_0 (Int.toNat x5) zt68).2).2).1).1).2
 let v42:=((((((List.getD x2_0 (Int.toNat x5) zt68).2).2).1).2).1).1
 let v43:=((((((List.getD x2_0 (Int.toNat x5) zt68).2).2).1).2).1).2
 let v44:=(((((List.getD x2_0 (Int.toNat x5) zt68).2).2).1).2).2
 let v45:=(((List.getD x2_0 (Int.toNat x5) zt68).2).2).2
 (r08_Keeps.F (((v30,((((v31,v32),v33),((v34,v35),v36)),v37)),(v38,((((v39,v40),v41),((v42,v43),v44)),v45))),zt44,())).bind fun y46=>
 let v47:=not y46.1
 bif v47 then(some (x5,()))
 else(let v48:=IntKind.i64.wrap (x5+(1:Int))
 f2 x1 x2_0 x2_1 x2_2 v48))
 else none))
 else(some ((-1:Int),()))
def e (f2:Dt45→Dt29→Int→Dt30→Int→Option (Int×Unit))(a0:Dt32)(a1:Dt45):Option (Int×Unit):=
 f2 a1 a0.1 a0.2.1 a0.2.2 (0:Int)
def L2 (k:Nat)(x1:Dt45)(x2_0:Dt29)(x2_1:Int)(x2_2:Dt30)(x5:Int):Option (Int×Unit):=heads (spec.env cals T Tryz.f44) (Func.pts Tryz.f44) k 2 (m2 x1 x2_0 x2_1 x2_2 x5)
theorem L2_succ (k:Nat)(x1:Dt45)(x2_0:Dt29)(x2_1:Int)(x2_2:Dt30)(x5:Int):L2 (k+1) x1 x2_0 x2_1 x2_2 x5=b2 (L2 k) x1 x2_0 x2_1 x2_2 x5:=by kernel_rfl
theorem eval (k:Nat)(a0:Dt32)(a1:Dt45):evalF spec cals T Tryz.f44 k (a0,a1,())=e (L2 k) a0 a1:=by kernel_rfl
theorem of (k:Nat)(a0:Dt32)(a1:Dt45){y:Int×Unit}(h:e (L2 k) a0 a1=some y):F (a0,a1,())=some y:=limF_of k ((eval k a0 a1).trans h)
end r08_Fits
namespace w_look
def spec:XSpec:=⟨some ⟨81,0,Kt81,0⟩,false,[(true,Kt32),(true,Kt47)],false,none,[(false,.bool)],false,fun j=>match j with|_=>[]⟩
def cals:Cals:=(Cals.consX 22 false bounds_Store_Limit.sig (Cals.consX 39 false bounds_Store_Fixed.sig (Cals.consX 41 false bounds_Store_Inside.sig (Cals.consX 43 false bounds_Store_Fits.sig (Cals.consX 14 false bounds_Store_State.sig (Cals.cons 37 r08_Is.sig (Cals.cons 38 w_sameLimit.sig (Cals.cons 40 r08_Fixed.sig (Cals.cons 42 r08_Inside.sig (Cals.cons 44 r08_Fits.sig (Cals.cons 13 w_sameState.sig (Cals.base tabs))))))))))))
def sig:XSig:=spec.sig cals T Tryz.f12
def F (d:Dt81)(x:Dt32×Dt47×Unit):Option (Unit×(Bool×Unit)×Dt81):=limX spec cals T Tryz.f12 d x
theorem ck:CalsOk Tryz.prog cals:=(CalsOk.consX bounds_Store_Limit.cal (CalsOk.consX bounds_Store_Fixed.cal (CalsOk.consX bounds_Store_Inside.cal (CalsOk.consX bounds_Store_Fits.cal (CalsOk.consX bounds_Store_State.cal (CalsOk.cons r08_Is.cal (CalsOk.cons w_sameLimit.cal (CalsOk.cons r08_Fixed.cal (CalsOk.cons r08_Inside.cal (CalsOk.cons r08_Fits.cal (CalsOk.cons w_sameState.cal (CalsOk.base tabsOk))))))))))))
theorem cal:XOk Tryz.prog tabs 12 sig:=xok_of tabOk ck mix Tryz.func12 (by kernel_rfl) (by kernel_rfl) (by kernel_rfl) (by kernel_rfl)
def e (G:Gh)(d:Dt81)(a0:Dt32)(a1:Dt47):Option ((Unit×(Bool×Unit)×Dt81)×Nat×List Value):=
 let v1:=(a1.1==(5:Int))
 bif v1 then((bounds_Store_Limit.F ((d.1.1,d.1.2),(d.2.1,d.2.2)) (a1.2.1,())).bind fun y2=>
 (r08_Is.F ((a0.1,(a0.2.1,a0.2.2)),a1.2.1,())).bind fun y3=>
 let v4:=not y3.1
 bif v4 then(let v5:=(y2.2.1.2.1==(61:Int))
 bif v5 then((w_sameLimit.F (((y2.2.1.1.1.1,((((y2.2.1.1.1.2.1.1.1.1,y2.2.1.1.1.2.1.1.1.2),y2.2.1.1.1.2.1.1.2),((y2.2.1.1.1.2.1.2.1.1,y2.2.1.1.1.2.1.2.1.2),y2.2.1.1.1.2.1.2.2)),y2.2.1.1.1.2.2)),(y2.2.1.1.2.1,((((y2.2.1.1.2.2.1.1.1.1,y2.2.1.1.2.2.1.1.1.2),y2.2.1.1.2.2.1.1.2),((y2.2.1.1.2.2.1.2.1.1,y2.2.1.1.2.2.1.2.1.2),y2.2.1.1.2.2.1.2.2)),y2.2.1.1.2.2.2))),zt68,())).bind fun y6=>
 some (((),(y6.1,()),((y2.2.2.1.1,y2.2.2.1.2),(y2.2.2.2.1,y2.2.2.2.2))),G.b,[]))
 else(some (((),(false,()),((y2.2.2.1.1,y2.2.2.1.2),(y2.2.2.2.1,y2.2.2.2.2))),G.b,[])))
 else(let v7:=(y2.2.1.2.1==(0:Int))
 bif v7 then(bif decide (0≤a1.2.1)&&decide (a1.2.1<(List.length a0.1:Int))then(let v8:=((List.getD a0.1 (Int.toNat a1.2.1) zt68).1).1
 let v9:=((((((List.getD a0.1 (Int.toNat a1.2.1) zt68).1).2).1).1).1).1
 let v10:=((((((List.getD a0.1 (Int.toNat a1.2.1) zt68).1).2).1).1).1).2
 let v11:=(((((List.getD a0.1 (Int.toNat a1.2.1) zt68).1).2).1).1).2
 let v12:=((((((List.getD a0.1 (Int.toNat a1.2.1) zt68).1).2).1).2).1).1
 let v13:=((((((List.getD a0.1 (Int.toNat a1.2.1) zt68).1).2).1).2).1).2
 let v14:=(((((List.getD a0.1 (Int.toNat a1.2.1) zt68).1).2).1).2).2
 let v15:=(((List.getD a0.1 (Int.toNat a1.2.1) zt68).1).2).2
 let v16:=((List.getD a0.1 (Int.toNat a1.2.1) zt68).2).1
 let v17:=((((((List.getD a0.1 (Int.toNat a1.2.1) zt68).2).2).1).1).1).1
 let v18:=((((((List.getD a0.1 (Int.toNat a1.2.1) zt68).2).2).1).1).1).2
 let v19:=(((((List.getD a0.1 (Int.toNat a1.2.1) zt68).2).2).1).1).2
 let v20:=((((((List.getD a0.1 (Int.toNat a1.2.1) zt68).2).2).1).2).1).1
 let v21:=((((((List.getD a0.1 (Int.toNat a1.2.1) zt68).2).2).1).2).1).2
 let v22:=(((((List.getD a0.1 (Int.toNat a1.2.1) zt68).2).2).1).2).2
 let v23:=(((List.getD a0.1 (Int.toNat a1.2.1) zt68).2).2).2
 (w_sameLimit.F (((y2.2.1.1.1.1,((((y2.2.1.1.1.2.1.1.1.1,y2.2.1.1.1.2.1.1.1.2),y2.2.1.1.1.2.1.1.2),((y2.2.1.1.1.2.1.2.1.1,y2.2.1.1.1.2.1.2.1.2),y2.2.1.1.1.2.1.2.2)),y2.2.1.1.1.2.2)),(y2.2.1.1.2.1,((((y2.2.1.1.2.2.1.1.1.1,y2.2.1.1.2.2.1.1.1.2),y2.2.1.1.2.2.1.1.2),((y2.2.1.1.2.2.1.2.1.1,y2.2.1.1.2.2.1.2.1.2),y2.2.1.1.2.2.1.2.2)),y2.2.1.1.2.2.2))),((v8,((((v9,v10),v11),((v12,v13),v14)),v15)),(v16,((((v17,v18),v19),((v20,v21),v22)),v23))),())).bind fun y24=>
 some (((),(y24.1,()),((y2.2.2.1.1,y2.2.2.1.2),(y2.2.2.2.1,y2.2.2.2.2))),G.b,[]))
 else none)
 else(some (((),(false,()),((y2.2.2.1.1,y2.2.2.1.2),(y2.2.2.2.1,y2.2.2.2.2))),G.b,[]))))
 else(let v25:=(a1.1==(6:Int))
 bif v25 then((bounds_Store_Fixed.F ((d.1.1,d.1.2),(d.2.1,d.2.2)) (a1.2.1,())).bind fun y26=>
 (r08_Fixed.F ((a0.1,(a0.2.1,a0.2.2)),a1.2.1,())).bind fun y27=>
 let v28:=(y26.2.1.1==y27.1)
 bif v28 then(let v29:=(y26.2.1.2.1==y27.2.1)
 some (((),(v29,()),((y26.2.2.1.1,y26.2.2.1.2),(y26.2.2.2.1,y26.2.2.2.2))),G.b,[]))
 else(some (((),(false,()),((y26.2.2.1.1,y26.2.2.1.2),(y26.2.2.2.1,y26.2.2.2.2))),G.b,[])))
 else(let v30:=(a1.1==(7:Int))
 bif v30 then((bounds_Store_Inside.F ((d.1.1,d.1.2),(d.2.1,d.2.2)) (a1.2.1,(((a1.2.2.1.1.1.1,a1.2.2.1.1.1.2),a1.2.2.1.1.2),((a1.2.2.1.2.1.1,a1.2.2.1.2.1.2),a1.2.2.1.2.2)),())).bind fun y31=>
 (r08_Inside.F ((a0.1,(a0.2.1,a0.2.2)),a1.2.1,(((a1.2.2.1.1.1.1,a1.2.2.1.1.1.2),a1.2.2.1.1.2),((a1.2.2.1.2.1.1,a1.2.2.1.2.1.2),a1.2.2.1.2.2)),())).bind fun y32=>
 let v33:=(y31.2.1.1==y32.1)
 bif v33 then(let v34:=(y31.2.1.2.1==y32.2.1)
 some (((),(v34,()),((y31.2.2.1.1,y31.2.2.1.2),(y31.2.2.2.1,y31.2.2.2.2))),G.b,[]))
 else(some (((),(false,()),((y31.2.2.1.1,y31.2.2.1.2),(y31.2.2.2.1,y31.2.2.2.2))),G.b,[])))
 else(let v35:=(a1.1==(8:Int))
 bif v35 then((bounds_Store_Fits.F ((d.1.1,d.1.2),(d.2.1,d.2.2)) (a1.2.2.2.2,())).bind fun y36=>
 (r08_Fits.F ((a0.1,(a0.2.1,a0.2.2)),a1.2.2.2.2,())).bind fun y37=>
 let v38:=(y36.2.1.1==y37.1)
 some (((),(v38,()),((y36.2.2.1.1,y36.2.2.1.2),(y36.2.2.2.1,y36.2.2.2.2))),G.b,[]))
 else(let v39:=(a1.1==(9:Int))
 bif v39 then((bounds_Store_State.F ((d.1.1,d.1.2),(d.2.1,d.2.2)) ()).bind fun y40=>
 (w_sameState.F ((y40.2.1.1.1,(y40.2.1.1.2.1,y40.2.1.1.2.2)),(a0.1,(a0.2.1,a0.2.2)),())).bind fun y41=>
 some (((),(y41.1,()),((y40.2.2.1.1,y40.2.2.1.2),(y40.2.2.2.1,y40.2.2.2.2))),G.b,[]))
 else(some (((),(true,()),((d.1.1,d.1.2),(d.2.1,d.2.2))),G.b,[]))))))
theorem eval (k:Nat)(G:Gh)(d:Dt81)(a0:Dt32)(a1:Dt47):evalX spec cals T Tryz.f12 k G d (a0,a1,())=e G d a0 a1:=by kernel_rfl
theorem of (d:Dt81)(a0:Dt32)(a1:Dt47)(y:(Unit×(Bool×Unit)×Dt81))(h:∀G:Gh,∃k:Nat,e G d a0 a1=some (y,(G.b,[]))):F d (a0,a1,())=some y:=limX_of (q:=spec) (C:=cals) (T:=T) (f:=Tryz.f12) (d:=d) (x:=(a0,a1,())) y fun G=>(h G).imp fun k hk=>(eval k G d a0 a1).trans hk
end w_look
namespace bounds_zero_1
def spec:Spec:=⟨[(true,Kt42)],[(false,.bool)],.own,fun j=>match j with|_=>[]⟩
def cals:Cals:=(Cals.base tabs)
def sig:Sig:=spec.sig cals T Tryz.f73
def F (x:Dt42×Unit):Option (Bool×Unit):=limF spec cals T Tryz.f73 x
theorem ck:CalsOk Tryz.prog cals:=(CalsOk.base tabsOk)
theorem cal:CalOk Tryz.prog tabs 73 sig:=calOk_lim' tabOk ck mix Tryz.func73 (by kernel_rfl) (by kernel_rfl) (by kernel_rfl) (by kernel_rfl)
def e (a0:Dt42):Option (Bool×Unit):=
 let v1:=not a0.1.1
 bif v1 then(let v2:=(List.length a0.1.2:Int)
 let v3:=(List.length a0.2:Int)
 let v4:=IntKind.i64.wrap (v2+v3)
 let v5:=(v4==(0:Int))
 some (v5,()))
 else(some (false,()))
theorem eval (k:Nat)(a0:Dt42):evalF spec cals T Tryz.f73 k (a0,())=e a0:=by kernel_rfl
theorem of (k:Nat)(a0:Dt42){y:Bool×Unit}(h:e a0=some y):F (a0,())=some y:=limF_of k ((eval k a0).trans h)
end bounds_zero_1
namespace bounds_zero
def spec:Spec:=⟨[(true,Kt66)],[(false,.bool)],.own,fun j=>match j with|_=>[]⟩
def cals:Cals:=(Cals.cons 73 bounds_zero_1.sig (Cals.base tabs))
def sig:Sig:=spec.sig cals T Tryz.f48
def F (x:Dt66×Unit):Option (Bool×Unit):=limF spec cals T Tryz.f48 x
theorem ck:CalsOk Tryz.prog cals:=(CalsOk.cons bounds_zero_1.cal (CalsOk.base tabsOk))
theorem cal:CalOk Tryz.prog tabs 48 sig:=calOk_lim' tabOk ck mix Tryz.func48 (by kernel_rfl) (by kernel_rfl) (by kernel_rfl) (by kernel_rfl)
def e (a0:Dt66):Option (Bool×Unit):=
 bif a0.1 then(some (true,()))
 else(let v1:=(a0.2.2==(0:Int))
 bif v1 then((bounds_zero_1.F (((a0.2.1.1.1.1,a0.2.1.1.1.2),a0.2.1.1.2),())).bind fun y2=>
 bif y2.1 then((bounds_zero_1.F (((a0.2.1.2.1.1,a0.2.1.2.1.2),a0.2.1.2.2),())).bind fun y3=>
 some (y3.1,()))
 else(some (false,())))
 else(some (false,())))
theorem eval (k:Nat)(a0:Dt66):evalF spec cals T Tryz.f48 k (a0,())=e a0:=by kernel_rfl
theorem of (k:Nat)(a0:Dt66){y:Bool×Unit}(h:e a0=some y):F (a0,())=some y:=limF_of k ((eval k a0).trans h)
end bounds_zero
end
end Go.Fx.Tryz
