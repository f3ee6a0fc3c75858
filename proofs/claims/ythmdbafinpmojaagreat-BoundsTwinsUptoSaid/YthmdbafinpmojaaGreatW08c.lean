import Derived.Test.YthmdbafinpmojaaGreatGA
import Derived.Test.YthmdbafinpmojaaGreatGB
namespace Go.Fx.Tryz
open Go Go.Proofs Go.Fx
set_option linter.unusedVariables false
set_option maxRecDepth 100000
def bounds_Load.spec:XSpec:=⟨none,false,[(true,Kt32)],false,some ⟨81,Kt81⟩,[(false,(.int .i64))],false,fun j=>match j with|6=>[(1,.box 32 [.z 68 Kt68 true,.v true,.z 70 Kt70 true]),(4,.box 81 [.v true,.v true,.v true,.o 68 Kt68 true]),(32,.lf (.z 68 Kt68 true)),(33,.lf (.v true)),(34,.lf (.v true))]|13=>[(1,.box 32 [.z 68 Kt68 true,.v true,.z 70 Kt70 true]),(4,.box 81 [.v true,.o 70 Kt70 true,.v true,.o 68 Kt68 true]),(74,.lf (.z 70 Kt70 true)),(75,.lf (.v true)),(76,.lf (.v true))]|_=>[]⟩
noncomputable def bounds_Load.cals:Cals:=(Cals.consO 51 slices_Clone_Limit.oth (Cals.consO 50 bounds_goesBack.oth (Cals.cons 48 bounds_zero.sig (Cals.cons 49 bounds_below.sig (Cals.cons 46 bounds_copiedLimit.sig (Cals.cons 47 bounds_copiedChange.sig (Cals.base tabs)))))))
noncomputable def bounds_Load.sig:XSig:=bounds_Load.spec.sig bounds_Load.cals T Tryz.f16
noncomputable def bounds_Load.F (d:Unit)(x:Dt32×Unit):Option ((Option Dt81)×(Int×Unit)×Unit):=limX bounds_Load.spec bounds_Load.cals T Tryz.f16 d x
theorem bounds_Load.ck:CalsOk Tryz.prog bounds_Load.cals:=(CalsOk.consO slices_Clone_Limit.ok (CalsOk.consO bounds_goesBack.ok (CalsOk.cons bounds_zero.cal (CalsOk.cons bounds_below.cal (CalsOk.cons bounds_copiedLimit.cal (CalsOk.cons bounds_copiedChange.cal (CalsOk.base tabsOk)))))))
theorem bounds_Load.cal:XOk Tryz.prog tabs 16 bounds_Load.sig:=xok_of tabOk bounds_Load.ck mix Tryz.func16 (by kernel_rfl) (by kernel_rfl) (by kernel_rfl) (by kernel_rfl)
def bounds_Load.m6 (x1_0:Dt29)(x1_1:Int)(x1_2:Dt30)(x4_0:Int)(x4_2:Bool)(x4_3:Dt29)(x32:Dt29)(x33:Int)(x34:Int):S:=⟨[(1,.box 0 0),(4,.box 1 0),(32,.one (.lf (.val true Kt29 x32))),(33,.one (.lf (.val true (.int .i64) x33))),(34,.one (.lf (.val true (.int .i64) x34)))],⟨[some ⟨68,Kt68,true,true,x4_3⟩],[some ⟨32,[.val true Kt29 x1_0,.val true (.int .i64) x1_1,.val true Kt30 x1_2]⟩,some ⟨81,[.val true (.int .i64) x4_0,.nil,.val true .bool x4_2,.own 0]⟩]⟩⟩
def bounds_Load.m13 (x1_0:Dt29)(x1_1:Int)(x1_2:Dt30)(x4_0:Int)(x4_1:Dt30)(x4_2:Bool)(x4_3:Dt29)(x74:Dt30)(x75:Int)(x76:Int):S:=⟨[(1,.box 0 0),(4,.box 1 0),(74,.one (.lf (.val true Kt30 x74))),(75,.one (.lf (.val true (.int .i64) x75))),(76,.one (.lf (.val true (.int .i64) x76)))],⟨[some ⟨70,Kt70,true,true,x4_1⟩,some ⟨68,Kt68,true,true,x4_3⟩],[some ⟨32,[.val true Kt29 x1_0,.val true (.int .i64) x1_1,.val true Kt30 x1_2]⟩,some ⟨81,[.val true (.int .i64) x4_0,.own 0,.val true .bool x4_2,.own 1]⟩]⟩⟩
noncomputable def bounds_Load.b6 (f6:Dt29→Int→Dt30→Int→Bool→Dt29→Dt29→Int→Int→Option (((Option Dt81)×(Int×Unit)×Unit)×Nat×List Value))(f13:Dt29→Int→Dt30→Int→Dt30→Bool→Dt29→Dt30→Int→Int→Option (((Option Dt81)×(Int×Unit)×Unit)×Nat×List Value))(x1_0:Dt29)(x1_1:Int)(x1_2:Dt30)(x4_0:Int)(x4_2:Bool)(x4_3:Dt29)(x32:Dt29)(x33:Int)(x34:Int):Option (((Option Dt81)×(Int×Unit)×Unit)×Nat×List Value):=
  let v1:=decide (x34<x33)
  bif v1 then(bif decide (0≤x34)&&decide (x34<(List.length x32:Int))then(let v2:=((List.getD x32 (Int.toNat x34) zt68).1).1
  let v3:=((((((List.getD x32 (Int.toNat x34) zt68).1).2).1).1).1).1
  let v4:=((((((List.getD x32 (Int.toNat x34) zt68).1).2).1).1).1).2
  let v5:=(((((List.getD x32 (Int.toNat x34) zt68).1).2).1).1).2
  let v6:=((((((List.getD x32 (Int.toNat x34) zt68).1).2).1).2).1).1
  let v7:=((((((List.getD x32 (Int.toNat x34) zt68).1).2).1).2).1).2
  let v8:=(((((List.getD x32 (Int.toNat x34) zt68).1).2).1).2).2
  let v9:=(((List.getD x32 (Int.toNat x34) zt68).1).2).2
  let v10:=((List.getD x32 (Int.toNat x34) zt68).2).1
  let v11:=((((((List.getD x32 (Int.toNat x34) zt68).2).2).1).1).1).1
  let v12:=((((((List.getD x32 (Int.toNat x34) zt68).2).2).1).1).1).2
  let v13:=(((((List.getD x32 (Int.toNat x34) zt68).2).2).1).1).2
  let v14:=((((((List.getD x32 (Int.toNat x34) zt68).2).2).1).2).1).1
  let v15:=((((((List.getD x32 (Int.toNat x34) zt68).2).2).1).2).1).2
  let v16:=(((((List.getD x32 (Int.toNat x34) zt68).2).2).1).2).2
  let v17:=(((List.getD x32 (Int.toNat x34) zt68).2).2).2
  (bounds_zero.F ((v2,((((v3,v4),v5),((v6,v7),v8)),v9)),())).bind fun y18=>
  let v19:=not y18.1
  bif v19 then(some ((none,((81:Int),()),()),0,[]))
  else((bounds_zero.F ((v10,((((v11,v12),v13),((v14,v15),v16)),v17)),())).bind fun y20=>
  let v21:=not y20.1
  bif v21 then(some ((none,((81:Int),()),()),0,[]))
  else(bif v2 then((bounds_below.F ((v10,((((v11,v12),v13),((v14,v15),v16)),v17)),(((v3,v4),v5),((v6,v7),v8)),())).bind fun y22=>
  bif y22.1 then(some ((none,((81:Int),()),()),0,[]))
  else((bounds_copiedLimit.F (((v2,((((v3,v4),v5),((v6,v7),v8)),v9)),(v10,((((v11,v12),v13),((v14,v15),v16)),v17))),())).bind fun y23=>
  let v24:=([((y23.1.1.1,((((y23.1.1.2.1.1.1.1,y23.1.1.2.1.1.1.2),y23.1.1.2.1.1.2),((y23.1.1.2.1.2.1.1,y23.1.1.2.1.2.1.2),y23.1.1.2.1.2.2)),y23.1.1.2.2)),(y23.1.2.1,((((y23.1.2.2.1.1.1.1,y23.1.2.2.1.1.1.2),y23.1.2.2.1.1.2),((y23.1.2.2.1.2.1.1,y23.1.2.2.1.2.1.2),y23.1.2.2.1.2.2)),y23.1.2.2.2)))]:List Dt68)
  bif decide (List.length x4_3+List.length v24<549755813888)then(let v25:=List.append x4_3 v24
  let v26:=IntKind.i64.wrap (x34+(1:Int))
  f6 x1_0 x1_1 x1_2 x4_0 x4_2 v25 x32 x33 v26)
  else none))
  else((bounds_copiedLimit.F (((v2,((((v3,v4),v5),((v6,v7),v8)),v9)),(v10,((((v11,v12),v13),((v14,v15),v16)),v17))),())).bind fun y27=>
  let v28:=([((y27.1.1.1,((((y27.1.1.2.1.1.1.1,y27.1.1.2.1.1.1.2),y27.1.1.2.1.1.2),((y27.1.1.2.1.2.1.1,y27.1.1.2.1.2.1.2),y27.1.1.2.1.2.2)),y27.1.1.2.2)),(y27.1.2.1,((((y27.1.2.2.1.1.1.1,y27.1.2.2.1.1.1.2),y27.1.2.2.1.1.2),((y27.1.2.2.1.2.1.1,y27.1.2.2.1.2.1.2),y27.1.2.2.1.2.2)),y27.1.2.2.2)))]:List Dt68)
  bif decide (List.length x4_3+List.length v28<549755813888)then(let v29:=List.append x4_3 v28
  let v30:=IntKind.i64.wrap (x34+(1:Int))
  f6 x1_0 x1_1 x1_2 x4_0 x4_2 v29 x32 x33 v30)
  else none))))
  else none)
  else(let v31:=(List.length x1_2:Int)
  f13 x1_0 x1_1 x1_2 x4_0 zt30 x4_2 x4_3 x1_2 v31 (0:Int))
noncomputable def bounds_Load.b13 (f6:Dt29→Int→Dt30→Int→Bool→Dt29→Dt29→Int→Int→Option (((Option Dt81)×(Int×Unit)×Unit)×Nat×List Value))(f13:Dt29→Int→Dt30→Int→Dt30→Bool→Dt29→Dt30→Int→Int→Option (((Option Dt81)×(Int×Unit)×Unit)×Nat×List Value))(x1_0:Dt29)(x1_1:Int)(x1_2:Dt30)(x4_0:Int)(x4_1:Dt30)(x4_2:Bool)(x4_3:Dt29)(x74:Dt30)(x75:Int)(x76:Int):Option (((Option Dt81)×(Int×Unit)×Unit)×Nat×List Value):=
  let v1:=decide (x76<x75)
  bif v1 then(bif decide (0≤x76)&&decide (x76<(List.length x74:Int))then(let v2:=(List.getD x74 (Int.toNat x76) zt70).1
  let v3:=((List.getD x74 (Int.toNat x76) zt70).2).1
  let v4:=(((List.getD x74 (Int.toNat x76) zt70).2).2).1
  let v5:=((((List.getD x74 (Int.toNat x76) zt70).2).2).2).1
  let v6:=((((((((List.getD x74 (Int.toNat x76) zt70).2).2).2).2).1).1).1).1
  let v7:=((((((((List.getD x74 (Int.toNat x76) zt70).2).2).2).2).1).1).1).2
  let v8:=(((((((List.getD x74 (Int.toNat x76) zt70).2).2).2).2).1).1).2
  let v9:=((((((((List.getD x74 (Int.toNat x76) zt70).2).2).2).2).1).2).1).1
  let v10:=((((((((List.getD x74 (Int.toNat x76) zt70).2).2).2).2).1).2).1).2
  let v11:=(((((((List.getD x74 (Int.toNat x76) zt70).2).2).2).2).1).2).2
  let v12:=(((((List.getD x74 (Int.toNat x76) zt70).2).2).2).2).2
  let v13:=decide (v2<(0:Int))
  bif v13 then(some ((none,((81:Int),()),()),0,[]))
  else(let v14:=(List.length x4_3:Int)
  let v15:=decide (v2≥v14)
  bif v15 then(some ((none,((81:Int),()),()),0,[]))
  else(let v16:=decide (v4<(0:Int))
  bif v16 then(some ((none,((81:Int),()),()),0,[]))
  else(let v17:=decide (v4>x4_0)
  bif v17 then(some ((none,((81:Int),()),()),0,[]))
  else(let v18:=decide (x76>(0:Int))
  bif v18 then(let v19:=IntKind.i64.wrap (x76-(1:Int))
  bif decide (0≤v19)&&decide (v19<(List.length x1_2:Int))then(let v20:=(((List.getD x1_2 (Int.toNat v19) zt70).2).2).1
  let v21:=decide (v4<v20)
  bif v21 then(some ((none,((81:Int),()),()),0,[]))
  else((bounds_zero.F ((v5,((((v6,v7),v8),((v9,v10),v11)),v12)),())).bind fun y22=>
  let v23:=not y22.1
  bif v23 then(some ((none,((81:Int),()),()),0,[]))
  else((bounds_copiedChange.F ((v2,(v3,(v4,(v5,((((v6,v7),v8),((v9,v10),v11)),v12))))),())).bind fun y24=>
  let v25:=([(y24.1.1,(y24.1.2.1,(y24.1.2.2.1,(y24.1.2.2.2.1,((((y24.1.2.2.2.2.1.1.1.1,y24.1.2.2.2.2.1.1.1.2),y24.1.2.2.2.2.1.1.2),((y24.1.2.2.2.2.1.2.1.1,y24.1.2.2.2.2.1.2.1.2),y24.1.2.2.2.2.1.2.2)),y24.1.2.2.2.2.2)))))]:List Dt70)
  bif decide (List.length x4_1+List.length v25<925904528653)then(let v26:=List.append x4_1 v25
  let v27:=IntKind.i64.wrap (x76+(1:Int))
  f13 x1_0 x1_1 x1_2 x4_0 v26 x4_2 x4_3 x74 x75 v27)
  else none)))
  else none)
  else((bounds_zero.F ((v5,((((v6,v7),v8),((v9,v10),v11)),v12)),())).bind fun y28=>
  let v29:=not y28.1
  bif v29 then(some ((none,((81:Int),()),()),0,[]))
  else((bounds_copiedChange.F ((v2,(v3,(v4,(v5,((((v6,v7),v8),((v9,v10),v11)),v12))))),())).bind fun y30=>
  let v31:=([(y30.1.1,(y30.1.2.1,(y30.1.2.2.1,(y30.1.2.2.2.1,((((y30.1.2.2.2.2.1.1.1.1,y30.1.2.2.2.2.1.1.1.2),y30.1.2.2.2.2.1.1.2),((y30.1.2.2.2.2.1.2.1.1,y30.1.2.2.2.2.1.2.1.2),y30.1.2.2.2.2.1.2.2)),y30.1.2.2.2.2.2)))))]:List Dt70)
  bif decide (List.length x4_1+List.length v31<925904528653)then(let v32:=List.append x4_1 v31
  let v33:=IntKind.i64.wrap (x76+(1:Int))
  f13 x1_0 x1_1 x1_2 x4_0 v32 x4_2 x4_3 x74 x75 v33)
  else none)))))))
  else none)
  else(bif decide (List.length x4_3<549755813888)then((bounds_goesBack.fn x4_3 (x4_1,())).bind fun y34=>
  let v35:=not y34.1
  bif v35 then(some ((none,((81:Int),()),()),0,[]))
  else(some ((some ((x4_0,x4_1),(x4_2,x4_3)),((0:Int),()),()),0,[])))
  else none)
noncomputable def bounds_Load.e (f6:Dt29→Int→Dt30→Int→Bool→Dt29→Dt29→Int→Int→Option (((Option Dt81)×(Int×Unit)×Unit)×Nat×List Value))(f13:Dt29→Int→Dt30→Int→Dt30→Bool→Dt29→Dt30→Int→Int→Option (((Option Dt81)×(Int×Unit)×Unit)×Nat×List Value))(G:Gh)(d:Unit)(a0:Dt32):Option (((Option Dt81)×(Int×Unit)×Unit)×Nat×List Value):=
  let v1:=(List.length a0.1:Int)
  let v2:=decide (v1>(65536:Int))
  bif v2 then(some ((none,((81:Int),()),()),0,[]))
  else(let v3:=decide (a0.2.1<(0:Int))
  bif v3 then(some ((none,((81:Int),()),()),0,[]))
  else(let v4:=decide (a0.2.1>(2147483647:Int))
  bif v4 then(some ((none,((81:Int),()),()),0,[]))
  else(let v5:=(List.length a0.1:Int)
  f6 a0.1 a0.2.1 a0.2.2 a0.2.1 true zt29 a0.1 v5 (0:Int))))
noncomputable def bounds_Load.L6 (k:Nat)(x1_0:Dt29)(x1_1:Int)(x1_2:Dt30)(x4_0:Int)(x4_2:Bool)(x4_3:Dt29)(x32:Dt29)(x33:Int)(x34:Int):Option (((Option Dt81)×(Int×Unit)×Unit)×Nat×List Value):=heads (bounds_Load.spec.env bounds_Load.cals T Tryz.f16) (Func.pts Tryz.f16) k 6 (bounds_Load.m6 x1_0 x1_1 x1_2 x4_0 x4_2 x4_3 x32 x33 x34)
noncomputable def bounds_Load.L13 (k:Nat)(x1_0:Dt29)(x1_1:Int)(x1_2:Dt30)(x4_0:Int)(x4_1:Dt30)(x4_2:Bool)(x4_3:Dt29)(x74:Dt30)(x75:Int)(x76:Int):Option (((Option Dt81)×(Int×Unit)×Unit)×Nat×List Value):=heads (bounds_Load.spec.env bounds_Load.cals T Tryz.f16) (Func.pts Tryz.f16) k 13 (bounds_Load.m13 x1_0 x1_1 x1_2 x4_0 x4_1 x4_2 x4_3 x74 x75 x76)
theorem bounds_Load.L6_succ (k:Nat)(x1_0:Dt29)(x1_1:Int)(x1_2:Dt30)(x4_0:Int)(x4_2:Bool)(x4_3:Dt29)(x32:Dt29)(x33:Int)(x34:Int):bounds_Load.L6 (k+1) x1_0 x1_1 x1_2 x4_0 x4_2 x4_3 x32 x33 x34=bounds_Load.b6 (bounds_Load.L6 k) (bounds_Load.L13 k) x1_0 x1_1 x1_2 x4_0 x4_2 x4_3 x32 x33 x34:=by kernel_rfl
theorem bounds_Load.L13_succ (k:Nat)(x1_0:Dt29)(x1_1:Int)(x1_2:Dt30)(x4_0:Int)(x4_1:Dt30)(x4_2:Bool)(x4_3:Dt29)(x74:Dt30)(x75:Int)(x76:Int):bounds_Load.L13 (k+1) x1_0 x1_1 x1_2 x4_0 x4_1 x4_2 x4_3 x74 x75 x76=bounds_Load.b13 (bounds_Load.L6 k) (bounds_Load.L13 k) x1_0 x1_1 x1_2 x4_0 x4_1 x4_2 x4_3 x74 x75 x76:=by kernel_rfl
theorem bounds_Load.eval (k:Nat)(G:Gh)(d:Unit)(a0:Dt32):evalX bounds_Load.spec bounds_Load.cals T Tryz.f16 k G d (a0,())=bounds_Load.e (bounds_Load.L6 k) (bounds_Load.L13 k) G d a0:=by kernel_rfl
theorem bounds_Load.of (d:Unit)(a0:Dt32)(y:((Option Dt81)×(Int×Unit)×Unit))(h:∀G:Gh,∃k:Nat,bounds_Load.e (bounds_Load.L6 k) (bounds_Load.L13 k) G d a0=some (y,(0,[]))):bounds_Load.F d (a0,())=some y:=limX_of (q:=bounds_Load.spec) (C:=bounds_Load.cals) (T:=T) (f:=Tryz.f16) (d:=d) (x:=(a0,())) y fun G=>(h G).imp fun k hk=>(bounds_Load.eval k G d a0).trans hk
def w_BoundsTwins.spec:Spec:=⟨[(true,Kt24),(false,Kt22)],[(false,.bool)],.shared,fun j=>match j with|10=>[(1,.lf (.z 47 Kt47 true)),(5,.box 81 [.v true,.o 70 Kt70 true,.v true,.o 68 Kt68 true]),(6,.box 32 [.z 68 Kt68 true,.v true,.z 70 Kt70 true]),(7,.box 81 [.v true,.o 70 Kt70 true,.v true,.o 68 Kt68 true]),(9,.lf (.v true))]|_=>[]⟩
noncomputable def w_BoundsTwins.cals:Cals:=(Cals.consX 15 false w_played.sig (Cals.consX 14 false bounds_Store_State.sig (Cals.consX 16 false bounds_Load.sig (Cals.consX 9 false w_move.sig (Cals.cons 13 w_sameState.sig (Cals.base tabs))))))
noncomputable def w_BoundsTwins.sig:Sig:=w_BoundsTwins.spec.sig w_BoundsTwins.cals T Tryz.f4
noncomputable def w_BoundsTwins.F (x:Dt24×Dt22×Unit):Option (Bool×Unit):=limF w_BoundsTwins.spec w_BoundsTwins.cals T Tryz.f4 x
theorem w_BoundsTwins.ck:CalsOk Tryz.prog w_BoundsTwins.cals:=(CalsOk.consX w_played.cal (CalsOk.consX bounds_Store_State.cal (CalsOk.consX bounds_Load.cal (CalsOk.consX w_move.cal (CalsOk.cons w_sameState.cal (CalsOk.base tabsOk))))))
theorem w_BoundsTwins.cal:CalOk Tryz.prog tabs 4 w_BoundsTwins.sig:=calOk_lim' tabOk w_BoundsTwins.ck mix Tryz.func4 (by kernel_rfl) (by kernel_rfl) (by kernel_rfl) (by kernel_rfl)
def w_BoundsTwins.m10 (x1:Dt22)(x5_0:Int)(x5_1:Dt30)(x5_2:Bool)(x5_3:Dt29)(x6_0:Dt29)(x6_1:Int)(x6_2:Dt30)(x7_0:Int)(x7_1:Dt30)(x7_2:Bool)(x7_3:Dt29)(x9:Int):S:=⟨[(1,.one (.lf (.val true Kt22 x1))),(5,.box 0 0),(6,.box 1 0),(7,.box 2 0),(9,.one (.lf (.val true (.int .i64) x9)))],⟨[some ⟨70,Kt70,true,true,x5_1⟩,some ⟨68,Kt68,true,true,x5_3⟩,some ⟨70,Kt70,true,true,x7_1⟩,some ⟨68,Kt68,true,true,x7_3⟩],[some ⟨81,[.val true (.int .i64) x5_0,.own 0,.val true .bool x5_2,.own 1]⟩,some ⟨32,[.val true Kt29 x6_0,.val true (.int .i64) x6_1,.val true Kt30 x6_2]⟩,some ⟨81,[.val true (.int .i64) x7_0,.own 2,.val true .bool x7_2,.own 3]⟩]⟩⟩
noncomputable def w_BoundsTwins.b10 (f10:Dt22→Int→Dt30→Bool→Dt29→Dt29→Int→Dt30→Int→Dt30→Bool→Dt29→Int→Option (Bool×Unit))(x1:Dt22)(x5_0:Int)(x5_1:Dt30)(x5_2:Bool)(x5_3:Dt29)(x6_0:Dt29)(x6_1:Int)(x6_2:Dt30)(x7_0:Int)(x7_1:Dt30)(x7_2:Bool)(x7_3:Dt29)(x9:Int):Option (Bool×Unit):=
  let v1:=(List.length x1:Int)
  let v2:=decide (x9<v1)
  bif v2 then(bif decide (0≤x9)&&decide (x9<(List.length x1:Int))then(let v3:=(List.getD x1 (Int.toNat x9) zt47).1
  let v4:=((List.getD x1 (Int.toNat x9) zt47).2).1
  let v5:=((((((List.getD x1 (Int.toNat x9) zt47).2).2).1).1).1).1
  let v6:=((((((List.getD x1 (Int.toNat x9) zt47).2).2).1).1).1).2
  let v7:=(((((List.getD x1 (Int.toNat x9) zt47).2).2).1).1).2
  let v8:=((((((List.getD x1 (Int.toNat x9) zt47).2).2).1).2).1).1
  let v9:=((((((List.getD x1 (Int.toNat x9) zt47).2).2).1).2).1).2
  let v10:=(((((List.getD x1 (Int.toNat x9) zt47).2).2).1).2).2
  let v11:=((((List.getD x1 (Int.toNat x9) zt47).2).2).2).1
  let v12:=((((List.getD x1 (Int.toNat x9) zt47).2).2).2).2
  (w_move.F ((x5_0,x5_1),(x5_2,x5_3)) ((x6_0,(x6_1,x6_2)),(v3,(v4,((((v5,v6),v7),((v8,v9),v10)),(v11,v12)))),())).bind fun y13=>
  bif decide (0≤x9)&&decide (x9<(List.length x1:Int))then(let v14:=(List.getD x1 (Int.toNat x9) zt47).1
  let v15:=((List.getD x1 (Int.toNat x9) zt47).2).1
  let v16:=((((((List.getD x1 (Int.toNat x9) zt47).2).2).1).1).1).1
  let v17:=((((((List.getD x1 (Int.toNat x9) zt47).2).2).1).1).1).2
  let v18:=(((((List.getD x1 (Int.toNat x9) zt47).2).2).1).1).2
  let v19:=((((((List.getD x1 (Int.toNat x9) zt47).2).2).1).2).1).1
  let v20:=((((((List.getD x1 (Int.toNat x9) zt47).2).2).1).2).1).2
  let v21:=(((((List.getD x1 (Int.toNat x9) zt47).2).2).1).2).2
  let v22:=((((List.getD x1 (Int.toNat x9) zt47).2).2).2).1
  let v23:=((((List.getD x1 (Int.toNat x9) zt47).2).2).2).2
  (w_move.F ((x7_0,x7_1),(x7_2,x7_3)) ((x6_0,(x6_1,x6_2)),(v14,(v15,((((v16,v17),v18),((v19,v20),v21)),(v22,v23)))),())).bind fun y24=>
  let v25:=(!(y13.2.1.2.1==y24.2.1.2.1))
  bif v25 then(some (false,()))
  else(let v26:=not y13.2.1.2.1
  bif v26 then(some (false,()))
  else(let v27:=IntKind.i64.wrap (x9+(1:Int))
  f10 x1 y13.2.2.1.1 y13.2.2.1.2 y13.2.2.2.1 y13.2.2.2.2 y13.2.1.1.1 y13.2.1.1.2.1 y13.2.1.1.2.2 y24.2.2.1.1 y24.2.2.1.2 y24.2.2.2.1 y24.2.2.2.2 v27)))
  else none)
  else none)
  else((bounds_Store_State.F ((x5_0,x5_1),(x5_2,x5_3)) ()).bind fun y28=>
  (bounds_Store_State.F ((x7_0,x7_1),(x7_2,x7_3)) ()).bind fun y29=>
  (w_sameState.F ((y28.2.1.1.1,(y28.2.1.1.2.1,y28.2.1.1.2.2)),(y29.2.1.1.1,(y29.2.1.1.2.1,y29.2.1.1.2.2)),())).bind fun y30=>
  bif y30.1 then((bounds_Store_State.F ((y29.2.2.1.1,y29.2.2.1.2),(y29.2.2.2.1,y29.2.2.2.2)) ()).bind fun y31=>
  (w_sameState.F ((y31.2.1.1.1,(y31.2.1.1.2.1,y31.2.1.1.2.2)),(x6_0,(x6_1,x6_2)),())).bind fun y32=>
  some (y32.1,()))
  else(some (false,())))
noncomputable def w_BoundsTwins.e (f10:Dt22→Int→Dt30→Bool→Dt29→Dt29→Int→Dt30→Int→Dt30→Bool→Dt29→Int→Option (Bool×Unit))(a0:Dt24)(a1:Dt22):Option (Bool×Unit):=
  let v1:=decide (a0.1<(0:Int))
  bif v1 then((w_played.F () (((2:Int),a0.2),())).bind fun y2=>
  match y2.1 with
  |none=>(some (false,()))
  |some z3=>((bounds_Store_State.F ((z3.1.1,z3.1.2),(z3.2.1,z3.2.2)) ()).bind fun y4=>
  (bounds_Load.F () ((y4.2.1.1.1,(y4.2.1.1.2.1,y4.2.1.1.2.2)),())).bind fun y5=>
  match y5.1 with
  |none=>(let v7:=(y5.2.1.1 != (0:Int))
  bif v7 then(some (false,()))
  else(some (false,())))
  |some z6=>(let v8:=(y5.2.1.1 != (0:Int))
  bif v8 then(some (false,()))
  else(f10 a1 y4.2.2.1.1 y4.2.2.1.2 y4.2.2.2.1 y4.2.2.2.2 y2.2.1.1.1 y2.2.1.1.2.1 y2.2.1.1.2.2 z6.1.1 z6.1.2 z6.2.1 z6.2.2 (0:Int)))))
  else(let v9:=decide (a0.1>(65536:Int))
  bif v9 then((w_played.F () (((2:Int),a0.2),())).bind fun y10=>
  match y10.1 with
  |none=>(some (false,()))
  |some z11=>((bounds_Store_State.F ((z11.1.1,z11.1.2),(z11.2.1,z11.2.2)) ()).bind fun y12=>
  (bounds_Load.F () ((y12.2.1.1.1,(y12.2.1.1.2.1,y12.2.1.1.2.2)),())).bind fun y13=>
  match y13.1 with
  |none=>(let v15:=(y13.2.1.1 != (0:Int))
  bif v15 then(some (false,()))
  else(some (false,())))
  |some z14=>(let v16:=(y13.2.1.1 != (0:Int))
  bif v16 then(some (false,()))
  else(f10 a1 y12.2.2.1.1 y12.2.2.1.2 y12.2.2.2.1 y12.2.2.2.2 y10.2.1.1.1 y10.2.1.1.2.1 y10.2.1.1.2.2 z14.1.1 z14.1.2 z14.2.1 z14.2.2 (0:Int)))))
  else((w_played.F () ((a0.1,a0.2),())).bind fun y17=>
  match y17.1 with
  |none=>(some (false,()))
  |some z18=>((bounds_Store_State.F ((z18.1.1,z18.1.2),(z18.2.1,z18.2.2)) ()).bind fun y19=>
  (bounds_Load.F () ((y19.2.1.1.1,(y19.2.1.1.2.1,y19.2.1.1.2.2)),())).bind fun y20=>
  match y20.1 with
  |none=>(let v22:=(y20.2.1.1 != (0:Int))
  bif v22 then(some (false,()))
  else(some (false,())))
  |some z21=>(let v23:=(y20.2.1.1 != (0:Int))
  bif v23 then(some (false,()))
  else(f10 a1 y19.2.2.1.1 y19.2.2.1.2 y19.2.2.2.1 y19.2.2.2.2 y17.2.1.1.1 y17.2.1.1.2.1 y17.2.1.1.2.2 z21.1.1 z21.1.2 z21.2.1 z21.2.2 (0:Int))))))
noncomputable def w_BoundsTwins.L10 (k:Nat)(x1:Dt22)(x5_0:Int)(x5_1:Dt30)(x5_2:Bool)(x5_3:Dt29)(x6_0:Dt29)(x6_1:Int)(x6_2:Dt30)(x7_0:Int)(x7_1:Dt30)(x7_2:Bool)(x7_3:Dt29)(x9:Int):Option (Bool×Unit):=heads (w_BoundsTwins.spec.env w_BoundsTwins.cals T Tryz.f4) (Func.pts Tryz.f4) k 10 (w_BoundsTwins.m10 x1 x5_0 x5_1 x5_2 x5_3 x6_0 x6_1 x6_2 x7_0 x7_1 x7_2 x7_3 x9)
theorem w_BoundsTwins.L10_succ (k:Nat)(x1:Dt22)(x5_0:Int)(x5_1:Dt30)(x5_2:Bool)(x5_3:Dt29)(x6_0:Dt29)(x6_1:Int)(x6_2:Dt30)(x7_0:Int)(x7_1:Dt30)(x7_2:Bool)(x7_3:Dt29)(x9:Int):w_BoundsTwins.L10 (k+1) x1 x5_0 x5_1 x5_2 x5_3 x6_0 x6_1 x6_2 x7_0 x7_1 x7_2 x7_3 x9=w_BoundsTwins.b10 (w_BoundsTwins.L10 k) x1 x5_0 x5_1 x5_2 x5_3 x6_0 x6_1 x6_2 x7_0 x7_1 x7_2 x7_3 x9:=by kernel_rfl
theorem w_BoundsTwins.eval (k:Nat)(a0:Dt24)(a1:Dt22):evalF w_BoundsTwins.spec w_BoundsTwins.cals T Tryz.f4 k (a0,a1,())=w_BoundsTwins.e (w_BoundsTwins.L10 k) a0 a1:=by kernel_rfl
theorem w_BoundsTwins.F_eq (a0:Dt24)(a1:Dt22):w_BoundsTwins.F (a0,a1,())=limF w_BoundsTwins.spec w_BoundsTwins.cals T Tryz.f4 (a0,a1,()):=by kernel_rfl
theorem w_BoundsTwins.of (k:Nat)(a0:Dt24)(a1:Dt22){y:Bool×Unit}(h:w_BoundsTwins.e (w_BoundsTwins.L10 k) a0 a1=some y):w_BoundsTwins.F (a0,a1,())=some y:=(w_BoundsTwins.F_eq a0 a1).trans (limF_of (q:=w_BoundsTwins.spec) (C:=w_BoundsTwins.cals) (T:=T) (f:=Tryz.f4) (x:=(a0,a1,())) (y:=y) k ((w_BoundsTwins.eval k a0 a1).trans h))
end Go.Fx.Tryz
