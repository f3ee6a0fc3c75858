import Derived.Test.YthmdbafinpmojaaGreatGA
import Derived.Test.YthmdbafinpmojaaGreatGB
namespace Go.Fx.Tryz
open Go Go.Proofs Go.Fx
set_option linter.unusedVariables false
set_option maxRecDepth 100000
def bounds_Load.spec:XSpec:=⟨none,false,[(true,Kt32)],false,some ⟨81,Kt81⟩,[(false,(.int .i64))],false,fun j=>match j with|6=>[(1,.box 32 [.z 68 Kt68 true,.v true,.z 70 Kt70 true]),(4,.box 81 [.v true,.v true,.v true,.o 68 Kt68 true]),(32,.lf (.z 68 Kt68 true)),(33,.lf (.v true)),(34,.lf (.v true))]|13=>[(1,.box 32 [.z 68 Kt68 true,.v true,.z 70 Kt70 true]),(4,.box 81 [.v true,.o 70 Kt70 true,.v true,.o 68 Kt68 true]),(74,.lf (.z 70 Kt70 true)),(75,.lf (.v true)),(76,.lf (.v true))]|_=>[]⟩
noncomputable def bounds_Load.cals:Cals:=(Cals.consO 51 slices_Clone_Limit.oth (Cals.consO 50 bounds_goesBack.oth (Cals.cons 48 bounds_zero.sig (Cals.cons 49 bounds_below.sig (Cals.cons 46 bounds_copiedLimit.sig (Cals.cons 47 bounds_copiedChange.sig (Cals.base tabs)))))))
noncomputable def bounds_Load.sig:XSig:=bounds_Load.spec.sig bounds_Load.cals T Tryz.f16
noncomputable def bounds_Load.F (d:Unit)(x:Dt32×Unit):Option ((Option Dt81)×(Int×Unit)×Unit):=limX bounds_Load.spec bounds_Load.cals T Tryz.f16 d x
theorem bounds_Load.ck:CalsOk Tryz.prog bounds_Load.cals:=(CalsOk.consO slices_Clone_Limit.ok (CalsOk.consO bounds_goesBack.ok (CalsOk.cons bounds_zero.cal (CalsOk.cons bounds_below.cal (CalsOk.cons bounds_copiedLimit.cal (CalsOk.cons bounds_copiedChange.cal (CalsOk.base tabsOk)))))))
theorem bounds_Load.cal:XOk Tryz.prog tabs 16 bounds_Load.sig:=xok_of tabOk bounds_Load.ck mix Tryz.func16 (by kernel_rfl) (by kernel_rfl) (by kernel_rfl) (by kernel_rfl)
def bounds_Load.m6 (x1_0:Dt29)(x1_1:Int)(x1_2:Dt30)(x4_0:Int)(x4_2:Bool)(x4_3:Dt29)(x32:Dt29)(x33:Int)(x34:Int):S:=⟨[(1,.box 0 0),(4,.box 1 0),(32,.one (.lf (.val true Kt29 x32))),(33,.one (.lf (.val true (.int .i64) x33))),(34,.one (.lf (.val true (.int .i64) x34)))],⟨[some ⟨68,Kt68,true,true,x4_3⟩],[some ⟨32,[.val true Kt29 x1_0,.val true (.int .i64) x1_1,.val true Kt30 x1_2]⟩,some ⟨81,[.val true (.int .i64) x4_0,.nil,.val true .bool x4_2,.own 0]⟩]⟩⟩
def bounds_Load.m13 (x1_0:Dt29)(x1_1:Int)(x1_2:Dt30)(x4_0:Int)(x4_1:Dt30)(x4_2:Bool)(x4_3:Dt29)(x74:Dt30)(x75:Int)(x76:Int):S:=⟨[(1,.box 0 0),(4,.box 1 0),(74,.one (.lf (.val true Kt30 x74))),(75,.one (.lf (.val true (.int .i64) x75))),(76,.one (.lf (.val true (.int .i64) x76)))],⟨[some ⟨70,Kt70,true,true,x4_1⟩,some ⟨68,Kt68,true,true,x4_3⟩],[some ⟨32,[.val true Kt29 x1_0,.val true (.int .i64) x1_1,.val true Kt30 x1_2]⟩,some ⟨81,[.val true (.int .i64) x4_0,.own 0,.val true .bool x4_2,.own 1]⟩]⟩⟩
noncomputable def bounds_Load.b6 (f6:Dt29→Int→Dt30→Int→Bool→Dt29→Dt29→Int→Int→Option (((Option Dt81)×(Int×Unit)×Unit)×Nat×List Value))(f13:Dt29→Int→Dt30→Int→Dt30→Bool→Dt29→Dt30→Int→Int→Option (((Option Dt81)×(Int×Unit)×Unit)×Nat×List Value))(x1_0:Dt29)(x1_1:Int)(x1_2:Dt30)(x4_0:Int)(x4_2:Bool)(x4_3:Dt29)(x32:Dt29)(x33:Int)(x34:Int):Option (((Option Dt81)×(Int×Unit)×Unit)×Nat×List Value):=
  let v1:=decide (x34<x33)
  bif v1 then(bif decide (0≤x34)&&decide (x34<(List.length x32:Int))then(let v2:=((List.getD x32 (Int.toNat x34) zt68).1).1
  let v3:=((((((List.getD x32 (Int.toNat x34) zt68).1).2).1).1).1).1
  let v4:=((((((List.getD x32 (Int.toNat x34) zt68).1).2).1).1).1).2
  let v5:=(((((List.getD x32 (Int.toNat x34) zt68).1).2).1).1).2
  let v6:=((((((List.getD x32 (Int.toNat x34) zt68).1).2).1).2).1).1
  let v7:=((((((List.getD x32 (Int.toNat x34) zt68).1).2).1).2).1).2
  let v8:=(((((List.getD x32 (Int.toNat x34) zt68).1).2).1).2).2
  let v9:=(((List.getD x32 (Int.toNat x34) zt68).1).2).2
  let v10:=((List.getD x32 (Int.toNat x34) zt68).2).1
  let v11:=((((((List.getD x32 (Int.toNat x34) zt68).2).2).1).1).1).1
  let v12:=((((((List.getD x32 (Int.toNat x34) zt68).2).2).1).1).1).2
  let v13:=(((((List.getD x32 (Int.toNat x34) zt68).2).2).1).1).2
  let v14:=((((((List.getD x32 (Int.toNat x34) zt68).2).2).1).2).1).1
  let v15:=((((((List.getD x32 (Int.toNat x34) zt68).2).2).1).2).1).2
  let v16:=(((((List.getD x32 (Int.toNat x34) zt68).2).2).1).2).2
  let v17:=(((List.getD x32 (Int.toNat x34) zt68).2).2).2
  (bounds_zero.F ((v2,((((v3,v4),v5),((v6,v7),v8)),v9)),())).bind fun y18=>
  let v19:=not y18.1
  bif v19 then(some ((none,((81:Int),()),()),0,[]))
  else((bounds_zero.F ((v10,((((v11,v12),v13),((v14,v15),v16)),v17)),())).bind fun y20=>
  let v21:=not y20.1
  bif v21 then(some ((none,((81:Int),()),()),0,[]))
  else(bif v2 then((bounds_below.F ((v10,((((v11,v12),v13),((v14,v15),v16)),v17)),(((v3,v4),v5),((v6,v7),v8)),())).bind fun y22=>
  bif y22.1 then(some ((none,((81:Int),()),()),0,[]))
  else((bounds_copiedLimit.F (((v2,((((v3,v4),v5),((v6,v7),v8)),v9)),(v10,((((v11,v12),v13),((v14,v15),v16)),v17))),())).bind fun y23=>
  let v24:=([((y23.1.1.1,((((y23.1.1.2.1.1.1.1,y23.1.1.2.1.1.1.2),y23.1.1.2.1.1.2),((y23.1.1.2.1.2.1.1,y23.1.1.2.1.2.1.2),y23.1.1.2.1.2.2)),y23.1.1.2.2)),(y23.1.2.1,((((y23.1.2.2.1.1.1.1,y23.1.2.2.1.1.1.2),y23.1.2.2.1.1.2),((y23.1.2.2.1.2.1.1,y23.1.2.2.1.2.1.2),y23.1.2.2.1.2.2)),y23.1.2.2.2)))]:List Dt68)
  bif decide (List.length x4_3+List.length v24<549755813888)then(let v25:=List.append x4_3 v24
  let v26:=IntKind.i64.wrap (x34+(1:Int))
  f6 x1_0 x1_1 x1_2 x4_0 x4_2 v25 x32 x33 v26)
  else none))
  else((bounds_copiedLimit.F (((v2,((((v3,v4),v5),((v6,v7),v8)),v9)),(v10,((((v11,v12),v13),((v14,v15),v16)),v17))),())).bind fun y27=>
  let v28:=([((y27.1.1.1,((((y27.1.1.2.1.1.1.1,y27.1.1.2.1.1.1.2),y27.1.1.2.1.1.2),((y27.1.1.2.1.2.1.1,y27.1.1.2.1.2.1.2),y27.1.1.2.1.2.2)),y27.1.1.2.2)),(y27.1.2.1,((((y27.1.2.2.1.1.1.1,y27.1.2.2.1.1.1.2),y27.1.2.2.1.1.2),((y27.1.2.2.1.2.1.1,y27.1.2.2.1.2.1.2),y27.1.2.2.1.2.2)),y27.1.2.2.2)))]:List Dt68)
  bif decide (List.length x4_3+List.length v28<549755813888)then(let v29:=List.append x4_3 v28
  let v30:=IntKind.i64.wrap (x34+(1:Int))
  f6 x1_0 x1_1 x1_2 x4_0 x4_2 v29 x32 x33 v30)
  else none))))
  else none)
  else(let v31:=(List.length x1_2:Int)
  f13 x1_0 x1_1 x1_2 x4_0 zt30 x4_2 x4_3 x1_2 v31 (0:Int))
noncomputable def bounds_Load.b13 (f6:Dt29→Int→Dt30→Int→Bool→Dt29→Dt29→Int→Int→Option (((Option Dt81)×(Int×Unit)×Unit)×Nat×List Value))(f13:Dt29→Int→Dt30→Int→Dt30→Bool→Dt29→Dt30→Int→Int→Option (((Option Dt81)×(Int×Unit)×Unit)×Nat×List Value))(x1_0:Dt29)(x1_1:Int)(x1_2:Dt30)(x4_0:Int)(x4_1:Dt30)(x4_2:Bool)(x4_3:Dt29)(x74:Dt30)(x75:Int)(x76:Int):Option (((Option Dt81)×(Int×Unit)×Unit)×Nat×List Value):=
  let v1:=decide (x76<x75)
  bif v1 then(bif decide (0≤x76)&&decide (x76<(List.length x74:Int))then(let v2:=(List.getD x74 (Int.toNat x76) zt70).1
  let v3:=((List.getD x74 (Int.toNat x76) zt70).2).1
  let v4:=(((List.getD x74 (Int.toNat x76) zt70).2).2).1
  let v5:=((((List.getD x74 (Int.toNat x76) zt70).2).2).2).1
  let v6:=((((((((List.getD x74 (Int.toNat x76) zt70).2).2).2).2).1).1).1).1
  let v7:=((((((((List.getD x74 (Int.toNat x76) zt70).2).2).2).2).1).1).1).2
  let v8:=(((((((List.getD x74 (Int.toNat x76) zt70).2).2).2).2).1).1).2
  let v9:=((((((((List.getD x74 (Int.toNat x76) zt70).2).2).2).2).1).2).1).1
  let v10:=((((((((List.getD x74 (Int.toNat x76) zt70).2).2).2).2).1).2).1).2
  let v11:=(((((((List.getD x74 (Int.toNat x76) zt70).2).2).2).2).1).2).2
  let v12:=(((((List.getD x74 (Int.toNat x76) zt70).2).2).2).2).2
  let v13:=decide (v2<(0:Int))
  bif v13 then(some ((none,((81:Int),()),()),0,[]))
  else(let v14:=(List.length x4_3:Int)
  let v15:=decide (v2≥v14)
  bif v15 then(some ((none,((81:Int),()),()),0,[]))
  else(let v16:=decide (v4<(0:Int))
  bif v16 then(some ((none,((81:Int),()),()),0,[]))
  else(let v17:=decide (v4>x4_0)
  bif v17 then(some ((none,((81:Int),()),()),0,[]))
  else(let v18:=decide (x76>(0:Int))
  bif v18 then(let v19:=IntKind.i64.wrap (x76-(1:Int))
  bif decide (0≤v19)&&decide (v19<(List.length x1_2:Int))then(let v20:=(((List.getD x1_2 (Int.toNat v19) zt70).2).2).1
  let v21:=decide (v4<v20)
  bif v21 then(some ((none,((81:Int),()),()),0,[]))
  else((bounds_zero.F ((v5,((((v6,v7),v8),((v9,v10),v11)),v12)),())).bind fun y22=>
  let v23:=not y22.1
  bif v23 then(some ((none,((81:Int),()),()),0,[]))
  else((bounds_copiedChange.F ((v2,(v3,(v4,(v5,((((v6,v7),v8),((v9,v10),v11)),v12))))),())).bind fun y24=>
  let v25:=([(y24.1.1,(y24.1.2.1,(y24.1.2.2.1,(y24.1.2.2.2.1,((((y24.1.2.2.2.2.1.1.1.1,y24.1.2.2.2.2.1.1.1.2),y24.1.2.2.2.2.1.1.2),((y24.1.2.2.2.2.1.2.1.1,y24.1.2.2.2.2.1.2.1.2),y24.1.2.2.2.2.1.2.2)),y24.1.2.2.2.2.2)))))]:List Dt70)
  bif decide (List.length x4_1+List.length v25<925904528653)then(let v26:=List.append x4_1 v25
  let v27:=IntKind.i64.wrap (x76+(1:Int))
  f13 x1_0 x1_1 x1_2 x4_0 v26 x4_2 x4_3 x74 x75 v27)
  else none)))
  else none)
  else((bounds_zero.F ((v5,((((v6,v7),v8),((v9,v10),v11)),v12)),())).bind fun y28=>
  let v29:=not y28.1
  bif v29 then(some ((none,((81:Int),()),()),0,[]))
  else((bounds_copiedChange.F ((v2,(v3,(v4,(v5,((((v6,v7),v8),((v9,v10),v11)),v12))))),())).bind fun y30=>
  let v31:=([(y30.1.1,(y30.1.2.1,(y30.1.2.2.1,(y30.1.2.2.2.1,((((y30.1.2.2.2.2.1.1.1.1,y30.1.2.2.2.2.1.1.1.2),y30.1.2.2.2.2.1.1.2),((y30.1.2.2.2.2.1.2.1.1,y30.1.2.2.2.2.1.2.1.2),y30.1.2.2.2.2.1.2.2)),y30.1.2.2.2.2.2)))))]:List Dt70)
  bif decide (List.length x4_1+List.length v31<925904528653)then(let v32:=List.append x4_1 v31
  let v33:=IntKind.i64.wrap (x76+(1:Int))
  f13 x1_0 x1_1 x1_2 x4_0 v32 x4_2 x4_3 x74 x75 v33)
  else none)))))))
  else none)
  else(bif decide (List.length x4_3<549755813888)then((bounds_goesBack.fn x4_3 (x4_1,())).bind fun y34=>
  let v35:=not y34.1
  bif v35 then(some ((none,((81:Int),()),()),0,[]))
  else(some ((some ((x4_0,x4_1),(x4_2,x4_3)),((0:Int),()),()),0,[])))
  else none)
noncomputable def bounds_Load.e (f6:Dt29→Int→Dt30→Int→Bool→Dt29→Dt29→Int→Int→Option (((Option Dt81)×(Int×Unit)×Unit)×Nat×List Value))(f13:Dt29→Int→Dt30→Int→Dt30→Bool→Dt29→Dt30→Int→Int→Option (((Option Dt81)×(Int×Unit)×Unit)×Nat×List Value))(G:Gh)(d:Unit)(a0:Dt32):Option (((Option Dt81)×(Int×Unit)×Unit)×Nat×List Value):=
  let v1:=(List.length a0.1:Int)
  let v2:=decide (v1>(65536:Int))
  bif v2 then(some ((none,((81:Int),()),()),0,[]))
  else(let v3:=decide (a0.2.1<(0:Int))
  bif v3 then(some ((none,((81:Int),()),()),0,[]))
  else(let v4:=decide (a0.2.1>(2147483647:Int))
  bif v4 then(some ((none,((81:Int),()),()),0,[]))
  else(let v5:=(List.length a0.1:Int)
  f6 a0.1 a0.2.1 a0.2.2 a0.2.1 true zt29 a0.1 v5 (0:Int))))
noncomputable def bounds_Load.L6 (k:Nat)(x1_0:Dt29)(x1_1:Int)(x1_2:Dt30)(x4_0:Int)(x4_2:Bool)(x4_3:Dt29)(x32:Dt29)(x33:Int)(x34:Int):Option (((Option Dt81)×(Int×Unit)×Unit)×Nat×List Value):=heads (bounds_Load.spec.env bounds_Load.cals T Tryz.f16) (Func.pts Tryz.f16) k 6 (bounds_Load.m6 x1_0 x1_1 x1_2 x4_0 x4_2 x4_3 x32 x33 x34)
noncomputable def bounds_Load.L13 (k:Nat)(x1_0:Dt29)(x1_1:Int)(x1_2:Dt30)(x4_0:Int)(x4_1:Dt30)(x4_2:Bool)(x4_3:Dt29)(x74:Dt30)(x75:Int)(x76:Int):Option (((Option Dt81)×(Int×Unit)×Unit)×Nat×List Value):=heads (bounds_Load.spec.env bounds_Load.cals T Tryz.f16) (Func.pts Tryz.f16) k 13 (bounds_Load.m13 x1_0 x1_1 x1_2 x4_0 x4_1 x4_2 x4_3 x74 x75 x76)
theorem bounds_Load.L6_succ (k:Nat)(x1_0:Dt29)(x1_1:Int)(x1_2:Dt30)(x4_0:Int)(x4_2:Bool)(x4_3:Dt29)(x32:Dt29)(x33:Int)(x34:Int):bounds_Load.L6 (k+1) x1_0 x1_1 x1_2 x4_0 x4_2 x4_3 x32 x33 x34=bounds_Load.b6 (bounds_Load.L6 k) (bounds_Load.L13 k) x1_0 x1_1 x1_2 x4_0 x4_2 x4_3 x32 x33 x34:=by kernel_rfl
theorem bounds_Load.L13_succ (k:Nat)(x1_0:Dt29)(x1_1:Int)(x1_2:Dt30)(x4_0:Int)(x4_1:Dt30)(x4_2:Bool)(x4_3:Dt29)(x74:Dt30)(x75:Int)(x76:Int):bounds_Load.L13 (k+1) x1_0 x1_1 x1_2 x4_0 x4_1 x4_2 x4_3 x74 x75 x76=bounds_Load.b13 (bounds_Load.L6 k) (bounds_Load.L13 k) x1_0 x1_1 x1_2 x4_0 x4_1 x4_2 x4_3 x74 x75 x76:=by kernel_rfl
theorem bounds_Load.eval (k:Nat)(G:Gh)(d:Unit)(a0:Dt32):evalX bounds_Load.spec bounds_Load.cals T Tryz.f16 k G d (a0,())=bounds_Load.e (bounds_Load.L6 k) (bounds_Load.L13 k) G d a0:=by kernel_rfl
theorem bounds_Load.of (d:Unit)(a0:Dt32)(y:((Option Dt81)×(Int×Unit)×Unit))(h:∀G:Gh,∃k:Nat,bounds_Load.e (bounds_Load.L6 k) (bounds_Load.L13 k) G d a0=some (y,(0,[]))):bounds_Load.F d (a0,())=some y:=limX_of (q:=bounds_Load.spec) (C:=bounds_Load.cals) (T:=T) (f:=Tryz.f16) (d:=d) (x:=(a0,())) y fun G=>(h G).imp fun k hk=>(bounds_Load.eval k G d a0).trans hk
def r08_empty.spec:Spec:=⟨[(true,Kt66)],[(false,.bool)],.own,fun j=>match j with|_=>[]⟩
noncomputable def r08_empty.cals:Cals:=(Cals.base tabs)
noncomputable def r08_empty.sig:Sig:=r08_empty.spec.sig r08_empty.cals T Tryz.f85
noncomputable def r08_empty.F (x:Dt66×Unit):Option (Bool×Unit):=limF r08_empty.spec r08_empty.cals T Tryz.f85 x
theorem r08_empty.ck:CalsOk Tryz.prog r08_empty.cals:=(CalsOk.base tabsOk)
theorem r08_empty.cal:CalOk Tryz.prog tabs 85 r08_empty.sig:=calOk_lim' tabOk r08_empty.ck mix Tryz.func85 (by kernel_rfl) (by kernel_rfl) (by kernel_rfl) (by kernel_rfl)
noncomputable def r08_empty.e (a0:Dt66):Option (Bool×Unit):=
  bif a0.1 then(some (true,()))
  else(let v1:=(List.length a0.2.1.1.1.2:Int)
  let v2:=(List.length a0.2.1.1.2:Int)
  let v3:=IntKind.i64.wrap (v1+v2)
  let v4:=(List.length a0.2.1.2.1.2:Int)
  let v5:=IntKind.i64.wrap (v3+v4)
  let v6:=(List.length a0.2.1.2.2:Int)
  let v7:=IntKind.i64.wrap (v5+v6)
  let v8:=(v7==(0:Int))
  bif v8 then(let v9:=(a0.2.2==(0:Int))
  bif v9 then(let v10:=not a0.2.1.1.1.1
  bif v10 then(let v11:=not a0.2.1.2.1.1
  some (v11,()))
  else(some (false,())))
  else(some (false,())))
  else(some (false,())))
theorem r08_empty.eval (k:Nat)(a0:Dt66):evalF r08_empty.spec r08_empty.cals T Tryz.f85 k (a0,())=r08_empty.e a0:=by kernel_rfl
theorem r08_empty.F_eq (a0:Dt66):r08_empty.F (a0,())=limF r08_empty.spec r08_empty.cals T Tryz.f85 (a0,()):=by kernel_rfl
theorem r08_empty.of (k:Nat)(a0:Dt66){y:Bool×Unit}(h:r08_empty.e a0=some y):r08_empty.F (a0,())=some y:=(r08_empty.F_eq a0).trans (limF_of (q:=r08_empty.spec) (C:=r08_empty.cals) (T:=T) (f:=Tryz.f85) (x:=(a0,())) (y:=y) k ((r08_empty.eval k a0).trans h))
def r08_crossed.spec:Spec:=⟨[(true,Kt68)],[(false,.bool)],.own,fun j=>match j with|_=>[]⟩
noncomputable def r08_crossed.cals:Cals:=(Cals.cons 69 r05_Cmp.sig (Cals.base tabs))
noncomputable def r08_crossed.sig:Sig:=r08_crossed.spec.sig r08_crossed.cals T Tryz.f86
noncomputable def r08_crossed.F (x:Dt68×Unit):Option (Bool×Unit):=limF r08_crossed.spec r08_crossed.cals T Tryz.f86 x
theorem r08_crossed.ck:CalsOk Tryz.prog r08_crossed.cals:=(CalsOk.cons r05_Cmp.cal (CalsOk.base tabsOk))
theorem r08_crossed.cal:CalOk Tryz.prog tabs 86 r08_crossed.sig:=calOk_lim' tabOk r08_crossed.ck mix Tryz.func86 (by kernel_rfl) (by kernel_rfl) (by kernel_rfl) (by kernel_rfl)
noncomputable def r08_crossed.e (a0:Dt68):Option (Bool×Unit):=
  bif a0.1.1 then(bif a0.2.1 then((r05_Cmp.F ((((a0.1.2.1.1.1.1,a0.1.2.1.1.1.2),a0.1.2.1.1.2),((a0.1.2.1.2.1.1,a0.1.2.1.2.1.2),a0.1.2.1.2.2)),(((a0.2.2.1.1.1.1,a0.2.2.1.1.1.2),a0.2.2.1.1.2),((a0.2.2.1.2.1.1,a0.2.2.1.2.1.2),a0.2.2.1.2.2)),())).bind fun y1=>
  let v2:=decide (y1.1>(0:Int))
  some (v2,()))
  else(some (false,())))
  else(some (false,()))
theorem r08_crossed.eval (k:Nat)(a0:Dt68):evalF r08_crossed.spec r08_crossed.cals T Tryz.f86 k (a0,())=r08_crossed.e a0:=by kernel_rfl
theorem r08_crossed.F_eq (a0:Dt68):r08_crossed.F (a0,())=limF r08_crossed.spec r08_crossed.cals T Tryz.f86 (a0,()):=by kernel_rfl
theorem r08_crossed.of (k:Nat)(a0:Dt68){y:Bool×Unit}(h:r08_crossed.e a0=some y):r08_crossed.F (a0,())=some y:=(r08_crossed.F_eq a0).trans (limF_of (q:=r08_crossed.spec) (C:=r08_crossed.cals) (T:=T) (f:=Tryz.f86) (x:=(a0,())) (y:=y) k ((r08_crossed.eval k a0).trans h))
def r08_Check.spec:Spec:=⟨[(true,Kt32)],[(false,.bool)],.own,fun j=>match j with|4=>[(1,.box 32 [.z 68 Kt68 false,.v false,.z 70 Kt70 false]),(3,.lf (.v true))]|11=>[(1,.box 32 [.z 68 Kt68 false,.v false,.z 70 Kt70 false]),(5,.lf (.v false)),(6,.lf (.v true))]|20=>[(10,.box 32 [.o 68 Kt68 true,.v true,.o 70 Kt70 true])]|_=>[]⟩
noncomputable def r08_Check.cals:Cals:=(Cals.consX 67 false r08_undo.sig (Cals.cons 85 r08_empty.sig (Cals.cons 86 r08_crossed.sig (Cals.cons 37 r08_Is.sig (Cals.cons 60 r08_Copy.sig (Cals.cons 64 r08_tighter.sig (Cals.base tabs)))))))
noncomputable def r08_Check.sig:Sig:=r08_Check.spec.sig r08_Check.cals T Tryz.f59
noncomputable def r08_Check.F (x:Dt32×Unit):Option (Bool×Unit):=limF r08_Check.spec r08_Check.cals T Tryz.f59 x
theorem r08_Check.ck:CalsOk Tryz.prog r08_Check.cals:=(CalsOk.consX r08_undo.cal (CalsOk.cons r08_empty.cal (CalsOk.cons r08_crossed.cal (CalsOk.cons r08_Is.cal (CalsOk.cons r08_Copy.cal (CalsOk.cons r08_tighter.cal (CalsOk.base tabsOk)))))))
theorem r08_Check.cal:CalOk Tryz.prog tabs 59 r08_Check.sig:=calOk_lim' tabOk r08_Check.ck mix Tryz.func59 (by kernel_rfl) (by kernel_rfl) (by kernel_rfl) (by kernel_rfl)
def r08_Check.m4 (x1_0:Dt29)(x1_1:Int)(x1_2:Dt30)(x3:Int):S:=⟨[(1,.box 0 0),(3,.one (.lf (.val true (.int .i64) x3)))],⟨[],[some ⟨32,[.val false Kt29 x1_0,.val false (.int .i64) x1_1,.val false Kt30 x1_2]⟩]⟩⟩
def r08_Check.m11 (x1_0:Dt29)(x1_1:Int)(x1_2:Dt30)(x5:Int)(x6:Int):S:=⟨[(1,.box 0 0),(5,.one (.lf (.val false (.int .i64) x5))),(6,.one (.lf (.val true (.int .i64) x6)))],⟨[],[some ⟨32,[.val false Kt29 x1_0,.val false (.int .i64) x1_1,.val false Kt30 x1_2]⟩]⟩⟩
def r08_Check.m20 (x10_0:Dt29)(x10_1:Int)(x10_2:Dt30):S:=⟨[(10,.box 0 0)],⟨[some ⟨68,Kt68,true,true,x10_0⟩,some ⟨70,Kt70,true,true,x10_2⟩],[some ⟨32,[.own 0,.val true (.int .i64) x10_1,.own 1]⟩]⟩⟩
noncomputable def r08_Check.b4 (f4:Dt29→Int→Dt30→Int→Option (Bool×Unit))(f11:Dt29→Int→Dt30→Int→Int→Option (Bool×Unit))(f20:Dt29→Int→Dt30→Option (Bool×Unit))(x1_0:Dt29)(x1_1:Int)(x1_2:Dt30)(x3:Int):Option (Bool×Unit):=
  let v1:=(List.length x1_0:Int)
  let v2:=decide (x3<v1)
  bif v2 then(bif decide (0≤x3)&&decide (x3<(List.length x1_0:Int))then(let v3:=((List.getD x1_0 (Int.toNat x3) zt68).1).1
  let v4:=((((((List.getD x1_0 (Int.toNat x3) zt68).1).2).1).1).1).1
  let v5:=((((((List.getD x1_0 (Int.toNat x3) zt68).1).2).1).1).1).2
  let v6:=(((((List.getD x1_0 (Int.toNat x3) zt68).1).2).1).1).2
  let v7:=((((((List.getD x1_0 (Int.toNat x3) zt68).1).2).1).2).1).1
  let v8:=((((((List.getD x1_0 (Int.toNat x3) zt68).1).2).1).2).1).2
  let v9:=(((((List.getD x1_0 (Int.toNat x3) zt68).1).2).1).2).2
  let v10:=(((List.getD x1_0 (Int.toNat x3) zt68).1).2).2
  let v11:=((List.getD x1_0 (Int.toNat x3) zt68).2).1
  let v12:=((((((List.getD x1_0 (Int.toNat x3) zt68).2).2).1).1).1).1
  let v13:=((((((List.getD x1_0 (Int.toNat x3) zt68).2).2).1).1).1).2
  let v14:=(((((List.getD x1_0 (Int.toNat x3) zt68).2).2).1).1).2
  let v15:=((((((List.getD x1_0 (Int.toNat x3) zt68).2).2).1).2).1).1
  let v16:=((((((List.getD x1_0 (Int.toNat x3) zt68).2).2).1).2).1).2
  let v17:=(((((List.getD x1_0 (Int.toNat x3) zt68).2).2).1).2).2
  let v18:=(((List.getD x1_0 (Int.toNat x3) zt68).2).2).2
  (r08_empty.F ((v3,((((v4,v5),v6),((v7,v8),v9)),v10)),())).bind fun y19=>
  let v20:=not y19.1
  bif v20 then(some (false,()))
  else((r08_empty.F ((v11,((((v12,v13),v14),((v15,v16),v17)),v18)),())).bind fun y21=>
  let v22:=not y21.1
  bif v22 then(some (false,()))
  else((r08_crossed.F (((v3,((((v4,v5),v6),((v7,v8),v9)),v10)),(v11,((((v12,v13),v14),((v15,v16),v17)),v18))),())).bind fun y23=>
  bif y23.1 then(some (false,()))
  else(let v24:=IntKind.i64.wrap (x3+(1:Int))
  f4 x1_0 x1_1 x1_2 v24))))
  else none)
  else(f11 x1_0 x1_1 x1_2 (0:Int) (0:Int))
noncomputable def r08_Check.b11 (f4:Dt29→Int→Dt30→Int→Option (Bool×Unit))(f11:Dt29→Int→Dt30→Int→Int→Option (Bool×Unit))(f20:Dt29→Int→Dt30→Option (Bool×Unit))(x1_0:Dt29)(x1_1:Int)(x1_2:Dt30)(x5:Int)(x6:Int):Option (Bool×Unit):=
  let v1:=(List.length x1_2:Int)
  let v2:=decide (x6<v1)
  bif v2 then(bif decide (0≤x6)&&decide (x6<(List.length x1_2:Int))then(let v3:=(List.getD x1_2 (Int.toNat x6) zt70).1
  let v4:=((List.getD x1_2 (Int.toNat x6) zt70).2).1
  let v5:=(((List.getD x1_2 (Int.toNat x6) zt70).2).2).1
  let v6:=((((List.getD x1_2 (Int.toNat x6) zt70).2).2).2).1
  let v7:=((((((((List.getD x1_2 (Int.toNat x6) zt70).2).2).2).2).1).1).1).1
  let v8:=((((((((List.getD x1_2 (Int.toNat x6) zt70).2).2).2).2).1).1).1).2
  let v9:=(((((((List.getD x1_2 (Int.toNat x6) zt70).2).2).2).2).1).1).2
  let v10:=((((((((List.getD x1_2 (Int.toNat x6) zt70).2).2).2).2).1).2).1).1
  let v11:=((((((((List.getD x1_2 (Int.toNat x6) zt70).2).2).2).2).1).2).1).2
  let v12:=(((((((List.getD x1_2 (Int.toNat x6) zt70).2).2).2).2).1).2).2
  let v13:=(((((List.getD x1_2 (Int.toNat x6) zt70).2).2).2).2).2
  (r08_Is.F ((x1_0,(x1_1,x1_2)),v3,())).bind fun y14=>
  (r08_empty.F ((v6,((((v7,v8),v9),((v10,v11),v12)),v13)),())).bind fun y15=>
  let v16:=not y14.1
  bif v16 then(some (false,()))
  else(let v17:=not y15.1
  bif v17 then(some (false,()))
  else(let v18:=decide (v5<x5)
  bif v18 then(some (false,()))
  else(let v19:=decide (v5>x1_1)
  bif v19 then(some (false,()))
  else(let v20:=IntKind.i64.wrap (x6+(1:Int))
  f11 x1_0 x1_1 x1_2 v5 v20)))))
  else none)
  else((r08_Copy.F ((x1_0,(x1_1,x1_2)),())).bind fun y21=>
  f20 y21.1.1 y21.1.2.1 y21.1.2.2)
noncomputable def r08_Check.b20 (f4:Dt29→Int→Dt30→Int→Option (Bool×Unit))(f11:Dt29→Int→Dt30→Int→Int→Option (Bool×Unit))(f20:Dt29→Int→Dt30→Option (Bool×Unit))(x10_0:Dt29)(x10_1:Int)(x10_2:Dt30):Option (Bool×Unit):=
  let v1:=(List.length x10_2:Int)
  let v2:=decide (v1>(0:Int))
  bif v2 then(let v3:=(List.length x10_2:Int)
  let v4:=IntKind.i64.wrap (v3-(1:Int))
  bif decide (0≤v4)&&decide (v4<(List.length x10_2:Int))then(let v5:=(List.getD x10_2 (Int.toNat v4) zt70).1
  let v6:=((List.getD x10_2 (Int.toNat v4) zt70).2).1
  let v7:=(((List.getD x10_2 (Int.toNat v4) zt70).2).2).1
  let v8:=((((List.getD x10_2 (Int.toNat v4) zt70).2).2).2).1
  let v9:=((((((((List.getD x10_2 (Int.toNat v4) zt70).2).2).2).2).1).1).1).1
  let v10:=((((((((List.getD x10_2 (Int.toNat v4) zt70).2).2).2).2).1).1).1).2
  let v11:=(((((((List.getD x10_2 (Int.toNat v4) zt70).2).2).2).2).1).1).2
  let v12:=((((((((List.getD x10_2 (Int.toNat v4) zt70).2).2).2).2).1).2).1).1
  let v13:=((((((((List.getD x10_2 (Int.toNat v4) zt70).2).2).2).2).1).2).1).2
  let v14:=(((((((List.getD x10_2 (Int.toNat v4) zt70).2).2).2).2).1).2).2
  let v15:=(((((List.getD x10_2 (Int.toNat v4) zt70).2).2).2).2).2
  bif decide (0≤v5)&&decide (v5<(List.length x10_0:Int))then(let v16:=((List.getD x10_0 (Int.toNat v5) zt68).1).1
  let v17:=((((((List.getD x10_0 (Int.toNat v5) zt68).1).2).1).1).1).1
  let v18:=((((((List.getD x10_0 (Int.toNat v5) zt68).1).2).1).1).1).2
  let v19:=(((((List.getD x10_0 (Int.toNat v5) zt68).1).2).1).1).2
  let v20:=((((((List.getD x10_0 (Int.toNat v5) zt68).1).2).1).2).1).1
  let v21:=((((((List.getD x10_0 (Int.toNat v5) zt68).1).2).1).2).1).2
  let v22:=(((((List.getD x10_0 (Int.toNat v5) zt68).1).2).1).2).2
  let v23:=(((List.getD x10_0 (Int.toNat v5) zt68).1).2).2
  bif v6 then(bif decide (0≤v5)&&decide (v5<(List.length x10_0:Int))then(let v24:=((List.getD x10_0 (Int.toNat v5) zt68).2).1
  let v25:=((((((List.getD x10_0 (Int.toNat v5) zt68).2).2).1).1).1).1
  let v26:=((((((List.getD x10_0 (Int.toNat v5) zt68).2).2).1).1).1).2
  let v27:=(((((List.getD x10_0 (Int.toNat v5) zt68).2).2).1).1).2
  let v28:=((((((List.getD x10_0 (Int.toNat v5) zt68).2).2).1).2).1).1
  let v29:=((((((List.getD x10_0 (Int.toNat v5) zt68).2).2).1).2).1).2
  let v30:=(((((List.getD x10_0 (Int.toNat v5) zt68).2).2).1).2).2
  let v31:=(((List.getD x10_0 (Int.toNat v5) zt68).2).2).2
  let v32:=not v24
  bif v32 then(some (false,()))
  else(bif v8 then((r08_tighter.F (v6,(((v25,v26),v27),((v28,v29),v30)),(((v9,v10),v11),((v12,v13),v14)),())).bind fun y33=>
  let v34:=not y33.1
  bif v34 then(some (false,()))
  else((r08_undo.F () ((x10_0,(x10_1,x10_2)),())).bind fun y35=>
  f20 y35.2.1.1.1 y35.2.1.1.2.1 y35.2.1.1.2.2))
  else((r08_undo.F () ((x10_0,(x10_1,x10_2)),())).bind fun y36=>
  f20 y36.2.1.1.1 y36.2.1.1.2.1 y36.2.1.1.2.2)))
  else none)
  else(let v37:=not v16
  bif v37 then(some (false,()))
  else(bif v8 then((r08_tighter.F (v6,(((v17,v18),v19),((v20,v21),v22)),(((v9,v10),v11),((v12,v13),v14)),())).bind fun y38=>
  let v39:=not y38.1
  bif v39 then(some (false,()))
  else((r08_undo.F () ((x10_0,(x10_1,x10_2)),())).bind fun y40=>
  f20 y40.2.1.1.1 y40.2.1.1.2.1 y40.2.1.1.2.2))
  else((r08_undo.F () ((x10_0,(x10_1,x10_2)),())).bind fun y41=>
  f20 y41.2.1.1.1 y41.2.1.1.2.1 y41.2.1.1.2.2))))
  else none)
  else none)
  else(some (true,()))
noncomputable def r08_Check.e (f4:Dt29→Int→Dt30→Int→Option (Bool×Unit))(f11:Dt29→Int→Dt30→Int→Int→Option (Bool×Unit))(f20:Dt29→Int→Dt30→Option (Bool×Unit))(a0:Dt32):Option (Bool×Unit):=
  let v1:=(List.length a0.1:Int)
  let v2:=decide (v1>(65536:Int))
  bif v2 then(some (false,()))
  else(let v3:=decide (a0.2.1<(0:Int))
  bif v3 then(some (false,()))
  else(let v4:=decide (a0.2.1>(2147483647:Int))
  bif v4 then(some (false,()))
  else(f4 a0.1 a0.2.1 a0.2.2 (0:Int))))
noncomputable def r08_Check.L4 (k:Nat)(x1_0:Dt29)(x1_1:Int)(x1_2:Dt30)(x3:Int):Option (Bool×Unit):=heads (r08_Check.spec.env r08_Check.cals T Tryz.f59) (Func.pts Tryz.f59) k 4 (r08_Check.m4 x1_0 x1_1 x1_2 x3)
noncomputable def r08_Check.L11 (k:Nat)(x1_0:Dt29)(x1_1:Int)(x1_2:Dt30)(x5:Int)(x6:Int):Option (Bool×Unit):=heads (r08_Check.spec.env r08_Check.cals T Tryz.f59) (Func.pts Tryz.f59) k 11 (r08_Check.m11 x1_0 x1_1 x1_2 x5 x6)
noncomputable def r08_Check.L20 (k:Nat)(x10_0:Dt29)(x10_1:Int)(x10_2:Dt30):Option (Bool×Unit):=heads (r08_Check.spec.env r08_Check.cals T Tryz.f59) (Func.pts Tryz.f59) k 20 (r08_Check.m20 x10_0 x10_1 x10_2)
theorem r08_Check.L4_succ (k:Nat)(x1_0:Dt29)(x1_1:Int)(x1_2:Dt30)(x3:Int):r08_Check.L4 (k+1) x1_0 x1_1 x1_2 x3=r08_Check.b4 (r08_Check.L4 k) (r08_Check.L11 k) (r08_Check.L20 k) x1_0 x1_1 x1_2 x3:=by kernel_rfl
theorem r08_Check.L11_succ (k:Nat)(x1_0:Dt29)(x1_1:Int)(x1_2:Dt30)(x5:Int)(x6:Int):r08_Check.L11 (k+1) x1_0 x1_1 x1_2 x5 x6=r08_Check.b11 (r08_Check.L4 k) (r08_Check.L11 k) (r08_Check.L20 k) x1_0 x1_1 x1_2 x5 x6:=by kernel_rfl
theorem r08_Check.L20_succ (k:Nat)(x10_0:Dt29)(x10_1:Int)(x10_2:Dt30):r08_Check.L20 (k+1) x10_0 x10_1 x10_2=r08_Check.b20 (r08_Check.L4 k) (r08_Check.L11 k) (r08_Check.L20 k) x10_0 x10_1 x10_2:=by kernel_rfl
theorem r08_Check.eval (k:Nat)(a0:Dt32):evalF r08_Check.spec r08_Check.cals T Tryz.f59 k (a0,())=r08_Check.e (r08_Check.L4 k) (r08_Check.L11 k) (r08_Check.L20 k) a0:=by kernel_rfl
theorem r08_Check.F_eq (a0:Dt32):r08_Check.F (a0,())=limF r08_Check.spec r08_Check.cals T Tryz.f59 (a0,()):=by kernel_rfl
theorem r08_Check.of (k:Nat)(a0:Dt32){y:Bool×Unit}(h:r08_Check.e (r08_Check.L4 k) (r08_Check.L11 k) (r08_Check.L20 k) a0=some y):r08_Check.F (a0,())=some y:=(r08_Check.F_eq a0).trans (limF_of (q:=r08_Check.spec) (C:=r08_Check.cals) (T:=T) (f:=Tryz.f59) (x:=(a0,())) (y:=y) k ((r08_Check.eval k a0).trans h))
def r08_Load.spec:Spec:=⟨[(true,Kt32)],[(true,Kt32),(false,(.int .i64))],.own,fun j=>match j with|_=>[]⟩
noncomputable def r08_Load.cals:Cals:=(Cals.cons 59 r08_Check.sig (Cals.cons 60 r08_Copy.sig (Cals.base tabs)))
noncomputable def r08_Load.sig:Sig:=r08_Load.spec.sig r08_Load.cals T Tryz.f26
noncomputable def r08_Load.F (x:Dt32×Unit):Option (Dt32×Int×Unit):=limF r08_Load.spec r08_Load.cals T Tryz.f26 x
theorem r08_Load.ck:CalsOk Tryz.prog r08_Load.cals:=(CalsOk.cons r08_Check.cal (CalsOk.cons r08_Copy.cal (CalsOk.base tabsOk)))
theorem r08_Load.cal:CalOk Tryz.prog tabs 26 r08_Load.sig:=calOk_lim' tabOk r08_Load.ck mix Tryz.func26 (by kernel_rfl) (by kernel_rfl) (by kernel_rfl) (by kernel_rfl)
noncomputable def r08_Load.e (a0:Dt32):Option (Dt32×Int×Unit):=
  (r08_Check.F ((a0.1,(a0.2.1,a0.2.2)),())).bind fun y1=>
  let v2:=not y1.1
  bif v2 then(some (zt32,(81:Int),()))
  else((r08_Copy.F ((a0.1,(a0.2.1,a0.2.2)),())).bind fun y3=>
  some ((y3.1.1,(y3.1.2.1,y3.1.2.2)),(0:Int),()))
theorem r08_Load.eval (k:Nat)(a0:Dt32):evalF r08_Load.spec r08_Load.cals T Tryz.f26 k (a0,())=r08_Load.e a0:=by kernel_rfl
theorem r08_Load.F_eq (a0:Dt32):r08_Load.F (a0,())=limF r08_Load.spec r08_Load.cals T Tryz.f26 (a0,()):=by kernel_rfl
theorem r08_Load.of (k:Nat)(a0:Dt32){y:Dt32×Int×Unit}(h:r08_Load.e a0=some y):r08_Load.F (a0,())=some y:=(r08_Load.F_eq a0).trans (limF_of (q:=r08_Load.spec) (C:=r08_Load.cals) (T:=T) (f:=Tryz.f26) (x:=(a0,())) (y:=y) k ((r08_Load.eval k a0).trans h))
def bounds_Store_is_nil.spec:XSpec:=⟨none,true,[],false,none,[(false,.bool)],false,fun j=>match j with|_=>[]⟩
noncomputable def bounds_Store_is_nil.cals:Cals:=(Cals.base tabs)
noncomputable def bounds_Store_is_nil.sig:XSig:=bounds_Store_is_nil.spec.sig bounds_Store_is_nil.cals T Tryz.f36
theorem bounds_Store_is_nil.ck:CalsOk Tryz.prog bounds_Store_is_nil.cals:=(CalsOk.base tabsOk)
theorem bounds_Store_is_nil.cal:XOk Tryz.prog tabs 36 bounds_Store_is_nil.sig:=xok_of tabOk bounds_Store_is_nil.ck mix Tryz.func36 (by kernel_rfl) (by kernel_rfl) (by kernel_rfl) (by kernel_rfl)
def bounds_Store_State_nil.spec:XSpec:=⟨none,true,[],false,none,[(true,Kt32)],false,fun j=>match j with|_=>[]⟩
noncomputable def bounds_Store_State_nil.cals:Cals:=(Cals.withSubs [31,49] (Cals.consX 36 true bounds_Store_is_nil.sig (Cals.base tabs)))
noncomputable def bounds_Store_State_nil.sig:XSig:=bounds_Store_State_nil.spec.sig bounds_Store_State_nil.cals T Tryz.f14
noncomputable def bounds_Store_State_nil.F (d:Unit)(x:Unit):Option (Unit×(Dt32×Unit)×Unit):=limX bounds_Store_State_nil.spec bounds_Store_State_nil.cals T Tryz.f14 d x
theorem bounds_Store_State_nil.ck:CalsOk Tryz.prog bounds_Store_State_nil.cals:=(CalsOk.withSubs [31,49] (CalsOk.consX bounds_Store_is_nil.cal (CalsOk.base tabsOk)))
theorem bounds_Store_State_nil.cal:XOk Tryz.prog tabs 14 bounds_Store_State_nil.sig:=xok_of tabOk bounds_Store_State_nil.ck mix Tryz.func14 (by kernel_rfl) (by kernel_rfl) (by kernel_rfl) (by kernel_rfl)
def w_BoundsLoads.spec:Spec:=⟨[(true,Kt32),(true,Kt47)],[(false,.bool)],.shared,fun j=>match j with|_=>[]⟩
noncomputable def w_BoundsLoads.cals:Cals:=(Cals.consX 16 false bounds_Load.sig (Cals.consX 14 true bounds_Store_State_nil.sig (Cals.consX 14 false bounds_Store_State.sig (Cals.consX 9 false w_move.sig (Cals.consX 12 false w_look.sig (Cals.cons 26 r08_Load.sig (Cals.cons 13 w_sameState.sig (Cals.base tabs))))))))
noncomputable def w_BoundsLoads.sig:Sig:=w_BoundsLoads.spec.sig w_BoundsLoads.cals T Tryz.f6
noncomputable def w_BoundsLoads.F (x:Dt32×Dt47×Unit):Option (Bool×Unit):=limF w_BoundsLoads.spec w_BoundsLoads.cals T Tryz.f6 x
theorem w_BoundsLoads.ck:CalsOk Tryz.prog w_BoundsLoads.cals:=(CalsOk.consX bounds_Load.cal (CalsOk.consX bounds_Store_State_nil.cal (CalsOk.consX bounds_Store_State.cal (CalsOk.consX w_move.cal (CalsOk.consX w_look.cal (CalsOk.cons r08_Load.cal (CalsOk.cons w_sameState.cal (CalsOk.base tabsOk))))))))
theorem w_BoundsLoads.cal:CalOk Tryz.prog tabs 6 w_BoundsLoads.sig:=calOk_lim' tabOk w_BoundsLoads.ck mix Tryz.func6 (by kernel_rfl) (by kernel_rfl) (by kernel_rfl) (by kernel_rfl)
noncomputable def w_BoundsLoads.e (a0:Dt32)(a1:Dt47):Option (Bool×Unit):=
  (bounds_Load.F () ((a0.1,(a0.2.1,a0.2.2)),())).bind fun y1=>
  match y1.1 with
  |none=>((r08_Load.F ((a0.1,(a0.2.1,a0.2.2)),())).bind fun y3=>
  let v4:=(y1.2.1.1 != y3.2.1)
  bif v4 then(some (false,()))
  else(let v5:=(y1.2.1.1==(0:Int))
  let v6:=(!(false==v5))
  bif v6 then(some (false,()))
  else(let v7:=(y1.2.1.1 != (0:Int))
  bif v7 then(some (true,()))
  else((bounds_Store_State_nil.F () ()).bind fun y8=>
  (w_sameState.F ((y8.2.1.1.1,(y8.2.1.1.2.1,y8.2.1.1.2.2)),(y3.1.1,(y3.1.2.1,y3.1.2.2)),())).bind fun y9=>
  let v10:=not y9.1
  bif v10 then(some (false,()))
  else(none)))))
  |some z2=>((r08_Load.F ((a0.1,(a0.2.1,a0.2.2)),())).bind fun y11=>
  let v12:=(y1.2.1.1 != y11.2.1)
  bif v12 then(some (false,()))
  else(let v13:=(y1.2.1.1==(0:Int))
  let v14:=(!(true==v13))
  bif v14 then(some (false,()))
  else(let v15:=(y1.2.1.1 != (0:Int))
  bif v15 then(some (true,()))
  else((bounds_Store_State.F ((z2.1.1,z2.1.2),(z2.2.1,z2.2.2)) ()).bind fun y16=>
  (w_sameState.F ((y16.2.1.1.1,(y16.2.1.1.2.1,y16.2.1.1.2.2)),(y11.1.1,(y11.1.2.1,y11.1.2.2)),())).bind fun y17=>
  let v18:=not y17.1
  bif v18 then(some (false,()))
  else((w_move.F ((y16.2.2.1.1,y16.2.2.1.2),(y16.2.2.2.1,y16.2.2.2.2)) ((y11.1.1,(y11.1.2.1,y11.1.2.2)),(a1.1,(a1.2.1,((((a1.2.2.1.1.1.1,a1.2.2.1.1.1.2),a1.2.2.1.1.2),((a1.2.2.1.2.1.1,a1.2.2.1.2.1.2),a1.2.2.1.2.2)),(a1.2.2.2.1,a1.2.2.2.2)))),())).bind fun y19=>
  bif y19.2.1.2.1 then((w_look.F ((y19.2.2.1.1,y19.2.2.1.2),(y19.2.2.2.1,y19.2.2.2.2)) ((y19.2.1.1.1,(y19.2.1.1.2.1,y19.2.1.1.2.2)),(a1.1,(a1.2.1,((((a1.2.2.1.1.1.1,a1.2.2.1.1.1.2),a1.2.2.1.1.2),((a1.2.2.1.2.1.1,a1.2.2.1.2.1.2),a1.2.2.1.2.2)),(a1.2.2.2.1,a1.2.2.2.2)))),())).bind fun y20=>
  bif y20.2.1.1 then((bounds_Store_State.F ((y20.2.2.1.1,y20.2.2.1.2),(y20.2.2.2.1,y20.2.2.2.2)) ()).bind fun y21=>
  (w_sameState.F ((y21.2.1.1.1,(y21.2.1.1.2.1,y21.2.1.1.2.2)),(y19.2.1.1.1,(y19.2.1.1.2.1,y19.2.1.1.2.2)),())).bind fun y22=>
  some (y22.1,()))
  else(some (false,())))
  else(some (false,())))))))
theorem w_BoundsLoads.eval (k:Nat)(a0:Dt32)(a1:Dt47):evalF w_BoundsLoads.spec w_BoundsLoads.cals T Tryz.f6 k (a0,a1,())=w_BoundsLoads.e a0 a1:=by kernel_rfl
theorem w_BoundsLoads.F_eq (a0:Dt32)(a1:Dt47):w_BoundsLoads.F (a0,a1,())=limF w_BoundsLoads.spec w_BoundsLoads.cals T Tryz.f6 (a0,a1,()):=by kernel_rfl
theorem w_BoundsLoads.of (k:Nat)(a0:Dt32)(a1:Dt47){y:Bool×Unit}(h:w_BoundsLoads.e a0 a1=some y):w_BoundsLoads.F (a0,a1,())=some y:=(w_BoundsLoads.F_eq a0 a1).trans (limF_of (q:=w_BoundsLoads.spec) (C:=w_BoundsLoads.cals) (T:=T) (f:=Tryz.f6) (x:=(a0,a1,())) (y:=y) k ((w_BoundsLoads.eval k a0 a1).trans h))
end Go.Fx.Tryz
