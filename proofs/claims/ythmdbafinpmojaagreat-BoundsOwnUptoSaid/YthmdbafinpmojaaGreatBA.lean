import Derived.Test.YthmdbafinpmojaaGreatSB
import Derived.Test.YthmdbafinpmojaaGreatWA
import Derived.Test.YthmdbafinpmojaaGreatSA
set_option linter.unusedVariables false
set_option linter.unusedSimpArgs false
namespace Go.Fx.Tryz
open Go Go.Proofs Go.Fx Go.RowKit
set_option maxRecDepth 100000
noncomputable def jW:ak:=(ak.h_ 7 false pU.sig (ak.cons 8 yc.sig (ak.cons 17 uI.sig (ak.h_ 9 false BM.sig (ak.cons 18 lF.sig (ak.h_ 16 false dU.sig (ak.h_ 22 false gX.sig (ak.cons 25 uh.sig (ak.cons 24 oW.sig (ak.h_ 14 false aF.sig (ak.cons 13 dF.sig (ak.cons 20 fB.jY.sig (ak.h_ 23 false fB.qx.sig (ak.cons 21 fB.eY.sig (ak.base aJ)))))))))))))))
theorem kT:ah Tryz.prog jW:=(ah.h_ pU.bU (ah.cons yc.bU (ah.cons uI.bU (ah.h_ BM.bU (ah.cons lF.bU (ah.h_ dU.bU (ah.h_ gX.bU (ah.cons uh.bU (ah.cons oW.bU (ah.h_ aF.bU (ah.cons dF.bU (ah.cons fB.jY.bU (ah.h_ fB.qx.bU (ah.cons fB.eY.bU (ah.base aX)))))))))))))))
noncomputable def rM (j:Nat):Code:=akc Tryz.f5 j
theorem Cc:jW.aJ=fun _=>none:=rfl
set_option maxRecDepth 100000
abbrev xK (xs:List bZ):Row:=⟨70,fU,true,true,xs⟩
abbrev xM (xs:List dJ):Row:=⟨68,fD,true,true,xs⟩
abbrev bxI (n:Int)(ops:zX):Option pF:=some ⟨24,[.val true (.int .i64) n,.val true (.sl 47 zW) ops]⟩
abbrev Vh (st:cO)(rc rl:Nat):Option pF:=some ⟨81,[.val true (.int .i64) st.1.1,.own rc,.val true .bool st.2.1,.own rl]⟩
abbrev bxM (R:b_):Option pF:=some ⟨32,[.val true (.sl 68 fD) R.1,.val true (.int .i64) R.2.1,.val true (.sl 70 fU) R.2.2]⟩
abbrev csI:Nat×CS:=(1,.box 24 [.v true,.v true])
abbrev YU:Nat×CS:=(3,.box 81 [.v true,.o 70 fU true,.v true,.o 68 fD true])
abbrev csM:Nat×CS:=(5,.box 32 [.z 68 fD true,.v true,.z 70 fU true])
abbrev SC:CS:= .lf (.v true)
def aol (e:kQ):List aT:=[.val true (.int .i64) e.1,.val true (.int .i64) e.2.1,.val true .bool e.2.2.1.1.1.1,.val true (.sl 114 (.int .u32)) e.2.2.1.1.1.2,.val true (.sl 114 (.int .u32)) e.2.2.1.1.2,.val true .bool e.2.2.1.2.1.1,.val true (.sl 114 (.int .u32)) e.2.2.1.2.1.2,.val true (.sl 114 (.int .u32)) e.2.2.1.2.2,.val true (.int .i64) e.2.2.2.1,.val true (.sl 44 nX) e.2.2.2.2]
abbrev aom:Nat×CS:=(8,.box 47 [.v true,.v true,.v true,.v true,.v true,.v true,.v true,.v true,.v true,.v true])
section
variable (n i:Int) (ops:zX) (st:cO) (R:b_) (e:kQ)
abbrev mSt:Mem:=⟨[some (xK st.1.2),some (xM st.2.2)],[bxI n ops,Vh st 0 1]⟩
theorem bnB:xH jW T 184 9 (rM 3) ⟨[(1,.box 0 0)],⟨[],[bxI n ops]⟩⟩ [csI,YU,(4,SC)]=(pU.F () (n,())).bind fun y=>match y.1 with
 |none=>none
 |some z=>some (.nrm ⟨[(1,.box 0 0),(3,.box 1 0),(4,ci .i64 y.2.1.1)],mSt n ops z⟩):=by kernel_rfl
abbrev VB:Mem:=⟨[some (xK st.1.2),some (xM st.2.2)],[bxI n ops,Vh st 0 1,bxM R]⟩
theorem bnC (er:Int):xH jW T 184 9 (rM 4) ⟨[(1,.box 0 0),(3,.box 1 0),(4,ci .i64 er)],mSt n ops st⟩ [csI,YU,csM,(4,SC)]=(yc.F (n,())).bind fun y=>some (.nrm ⟨[(1,.box 0 0),(3,.box 1 0),(5,.box 2 0),(4,ci .i64 er)],VB n ops st y.1⟩):=by kernel_rfl
theorem bnD:xH jW T 184 9 (.seq (rM 5) (.cond (.tmp 44) (.seq (rM 6) .ret) .skip)) ⟨[(1,.box 0 0),(3,.box 1 0),(5,.box 2 0),(4,ci .i64 0)],VB n ops st R⟩ [csI,YU,csM]=some (.nrm ⟨[(1,.box 0 0),(3,.box 1 0),(5,.box 2 0)],VB n ops st R⟩):=by kernel_rfl
abbrev M8:S:=⟨[(1,.box 0 0),(3,.box 1 0),(5,.box 2 0),(7,ci .i64 i)],VB n ops st R⟩
abbrev cs8:List (Nat×CS):=[csI,YU,csM,(7,SC)]
theorem bnE:xH jW T 184 9 (rM 7) ⟨[(1,.box 0 0),(3,.box 1 0),(5,.box 2 0)],VB n ops st R⟩ cs8=some (.nrm (M8 n 0 ops st R)):=by kernel_rfl
theorem bn8:xH jW T 184 9 (.seq (rM 8) (.cond (.tmp 49) .skip (.exit 0))) (M8 n i ops st R) cs8=bif decide (i<(List.length ops:Int))then some (.nrm (M8 n i ops st R))else some (.ext 0 (M8 n i ops st R)):=by kernel_rfl
theorem bn9:xH jW T 184 9 (rM 9) (M8 n i ops st R) cs8=some (.nrm (M8 n (IntKind.i64.wrap (i+1)) ops st R)):=by kernel_rfl
abbrev VD:S:=⟨(M8 n i ops st R).fr++[(8,.box 3 0)],⟨(VB n ops st R).rows,(VB n ops st R).boxes++[some ⟨47,aol e⟩]⟩⟩
theorem asA:xH jW T 184 9 (rM 10) (M8 n i ops st R) (cs8++[aom])=bif decide (0≤i)&&decide (i<(List.length ops:Int))then some (.nrm (VD n i ops st R (List.getD ops i.toNat WX)))else none:=by kernel_rfl
end
set_option maxRecDepth 100000
def akD (e:cu):List aT:=[.val true .bool e.1.1.1,.val true (.sl 114 (.int .u32)) e.1.1.2,.val true (.sl 114 (.int .u32)) e.1.2,.val true .bool e.2.1.1,.val true (.sl 114 (.int .u32)) e.2.1.2,.val true (.sl 114 (.int .u32)) e.2.2]
def uz (y:cu):List (List Int):=[y.1.1.2,y.1.2,y.2.1.2,y.2.2]
def aon (rv:List Value)(y:cu):fB.cu:=(((y.1.1.1,(List.getD rv 0 dV)),(List.getD rv 1 dV)),((y.2.1.1,(List.getD rv 2 dV)),(List.getD rv 3 dV)))
abbrev akE (rv:List Value)(y:cu):List aT:=[.val true .bool y.1.1.1,.val true .hd (List.getD rv 0 dV),.val true .hd (List.getD rv 1 dV),.val true .bool y.2.1.1,.val true .hd (List.getD rv 2 dV),.val true .hd (List.getD rv 3 dV)]
def akF (rv:List Value)(y:cu)(e:kQ):List aT:=[.val true (.int .i64) e.1,.val true (.int .i64) e.2.1,.val true .bool y.1.1.1,.val true .hd (List.getD rv 0 dV),.val true .hd (List.getD rv 1 dV),.val true .bool y.2.1.1,.val true .hd (List.getD rv 2 dV),.val true .hd (List.getD rv 3 dV),.val true (.int .i64) e.2.2.2.1,.val true (.sl 44 nX) e.2.2.2.2]
noncomputable def kF (j:Nat):Array Oper:=match rM j with
 | .region _ ops _=>ops
 |_=> #[]
theorem asB:rM 11= .region 11 (kF 11) false:=by kernel_rfl
theorem asC:rM 15= .region 15 (kF 15) false:=by kernel_rfl
theorem asD:List.range (kF 11).size=[0,1]++2::[3,4]:=by kernel_rfl
theorem akG:(kF 11).size=5:=by kernel_rfl
theorem aoo:∃o,(kF 11)[2]? =some o∧o.guard=none∧o.dst=some 59∧∃ty,o.op= .call {callee:= .value (.func 17),args:= #[.tmp 58],argTypes:=ty}:=⟨_,rfl,rfl,rfl,_,rfl⟩
theorem asE (m:Mem)(e:cu):bM m nX (akD e)=some e:=by kernel_rfl
section
variable (n i:Int) (ops:zX) (st:cO) (R:b_) (e:kQ) (y:cu) (rv:List Value)
abbrev aop:List (Nat×CS):=cs8++[aom]
theorem asF:bJ jW T 184 (kF 11) [0,1] (VD n i ops st R e) (dS (aop++[(58,.agg [.v true,.v true,.v true,.v true,.v true,.v true])]))=some ⟨(VD n i ops st R e).fr++[(58,.one (.agg (akD e.2.2.1)))],(VD n i ops st R e).m⟩:=by kernel_rfl
abbrev M11:S:=⟨(M8 n i ops st R).fr++[(8,.box 3 0)],⟨(VB n ops st R).rows,(VB n ops st R).boxes++[some ⟨47,akF rv y e⟩]⟩⟩
abbrev f11:List (Nat×SV):=(VD n i ops st R e).fr++[(59,.one (.agg (akE rv y)))]
theorem asG:bJ jW T 184 (kF 11) [3] ⟨f11 n i ops st R e y rv,(VD n i ops st R e).m⟩ (fun s'=>some (Out.nrm ([1,3,5,7,8,59,60].map s'.get) s'.m.trim))=some (.nrm ((f11 n i ops st R e y rv).map (·.2)++[.box 3 2]) (VD n i ops st R e).m):=by kernel_rfl
theorem asH:bJ jW fB.T 184 (kF 11) [4] ⟨f11 n i ops st R e y rv++[(60,.box 3 2)],(VD n i ops st R e).m⟩ (dS aop)=some (M11 n i ops st R e y rv):=by kernel_rfl
abbrev M12:S:=⟨(M8 n i ops st R).fr++[(8,.Dt 2 0 0)],⟨(VB n ops st R).rows++[some ⟨47,zW,false,false,[e]⟩],(VB n ops st R).boxes⟩⟩
end
set_option maxRecDepth 100000
theorem aeb {e y:cu}(h:uI.F (e,())=some (y,())){w:World}{v:Value}(hv:ES w (fun _=>True) (true,nX) e v):Calls Tryz.prog 17 #[v] w fun r w'=>∃u,r= .returned u∧YR w w' u (fun rv=>akE rv y) (uz y):=by
 refine(uI.bU.contract w (fun _=>True) (e,()) (y,()) [v] (fun g tb e=>by cases e) h ⟨v,[],rfl,hv,rfl⟩).mono fun r w' he=> ?_
 obtain⟨u,cs,rows,aO,rfl,hth,M,R,B⟩:=he
 cases hth
 have M':aC w' (fun b=>w.heap.size≤b) aO ⟨yK 114 (uz y),[]⟩:=M
 obtain⟨us,rfl,hF⟩:=R
 refine⟨_,rfl,aO.rv,us,rfl,fun w2 ok may ow=> ?_,M'.held,B⟩
 exact F2.YS (ls:=akE aO.rv y) rfl (akw (gV:=aO) hF)
abbrev GH (may:Nat→Prop)(lo hi:Nat):Nat→Prop:=fun b=>may b∧(b<lo∨hi≤b)
theorem asI {n:Int}{ops:zX}{st:cO}{R:b_}{e:kQ}(i:Nat)(row:Row)(h:(⟨(VB n ops st R).rows,(VB n ops st R).boxes++[some ⟨47,aol e⟩]⟩:Mem).row? i=some row):row.mp? =none:=by
 match i,h with
 |0,h=>cases h;rfl
 |1,h=>cases h;rfl
 |i+2,h=>simp[Mem.row?]at h
theorem akH {n i:Int}{ops:zX}{st:cO}{R:b_}{e:kQ}{y:cu}{may:Nat→Prop}{w:World}{ow:Ow}{a:Act}{Q:Exit→Act→World→Prop}(hy:uI.F (e.2.2.1,())=some (y,()))(I:aK jW 184 may (VD n i ops st R e) a w ow)
  (hQ:∀(lo hi:Nat) rv a' w' aO,w.heap.size≤lo→lo≤hi→aK jW 184 (GH may lo hi) (M11 n i ops st R e y rv) a' w' aO→Kp may w ow (VD n i ops st R e).m w' aO (M11 n i ops st R e y rv).m→oP 114 w' (fun b=>lo≤b∧b<hi∧ay aO (M11 n i ops st R e y rv).m b) (jm rv (uz y))→Q .normal a' w'):(rM 11).wp Tryz.prog Q a w:=by
 rw[asB]
 refine wp_region ?_
 rw[asD]
 refine kL _ _ _ _ ?_
 refine ni aH kT I (by rw[akG];decide) (asF n i ops st R e) fun a1 w1 jZ I1 K1=> ?_
 obtain⟨o,ho,RI,RJ,ty,NR⟩:=aoo
 refine o9 ho RI (oO NR uI.bU.fn rfl rfl ?_)
 have hv:ES w1 (fun _=>True) (true,nX) e.2.2.1 (a1.tmps.getD 58 undef):=by
  have h:aS w1 _ may jZ _ (.one (.agg (akD e.2.2.1))) (a1.tmps.getD 58 undef):=I1.fr 58
  obtain⟨vs,NV,hF⟩:=h
  unfold ES
  rw[if_pos rfl]
  exact⟨vs,NV,GZ I1.mem hF (asE _ _)⟩
 show Calls Tryz.prog 17 #[a1.tmps.getD 58 undef] w1 _
 refine(aeb hy hv).mono fun r w2 he=> ?_
 obtain⟨u,rfl,rv,us,rfl,hF,H,B⟩:=he
 refine⟨_,rfl,?_⟩
 rw[RJ]
 have g2:(a1.put (some 59) (.agg us.toArray)).tmps.getD 59 undef= .agg us.toArray:=lD (by rw[I1.size];decide)
 have S2:AV [1,3,5,7,8] a1 (a1.put (some 59) (.agg us.toArray)):=(AV.refl _ a1).put _ (by decide)
 generalize a1.put (some 59) (.agg us.toArray)=a2 at g2 S2
 have I1h:aK jW 184 may (VD n i ops st R e) a1 w1 jZ:=I1.head
 have I2:aK jW 184 (GH may w1.heap.size w2.heap.size) (VD n i ops st R e) a2 w2 jZ:=I1h.cut B (fun t ht=>S2.get t ht) S2.size S2.defers asI (by intro q hq;simp at hq;rcases hq with rfl|rfl|rfl|rfl|rfl<;>rfl)
 have I3:aK jW 184 (GH may w1.heap.size w2.heap.size) ⟨f11 n i ops st R e y rv,(VD n i ops st R e).m⟩ a2 w2 jZ:=I2.more ⟨⟨us,by rw[g2],hF _ _ _ _⟩,trivial⟩
 refine kL [3] [4] _ _ ?_
 refine Ap aH kT [3] _ a2 w2 jZ (by rw[akG];decide) I3.live I3.mem I3.fr I3.size (asG n i ops st R e y rv) fun s' a3 w3 qA e1 A=> ?_
 obtain⟨I4,K4⟩:=A.out I3.live I3.defers [1,3,5,7,8,59,60]
 have e1:=Option.some.inj e1
 injection e1 with e1 e2
 rw[e1,e2]at I4
 rw[e2]at K4
 generalize qA.trim s'.m=ED at I4 K4
 have I4:aK jW 184 (GH may w1.heap.size w2.heap.size) ⟨f11 n i ops st R e y rv++[(60,.box 3 2)],(VD n i ops st R e).m⟩ a3 w3 ED:=I4
 show wpOps Tryz.prog (kF 11) Q [4] a3 w3
 refine ni fB.aH kT I4 (by rw[akG];decide) (asH n i ops st R e y rv) fun a5 w5 Nc I5 K5=> ?_
 have K25:=K4.kp.trans K5
 have rU:∀b,w1.heap.size≤b→ay jZ (VD n i ops st R e).m b:=fun b hb t ht=>by
  have:=(I1h.mem.fH t b ht).2
  omega
 have asJ:Kp may w2 jZ (VD n i ops st R e).m w5 Nc (M11 n i ops st R e y rv).m:=⟨K25.stay,K25.size,fun b hb hm=>K25.frame b hb fun h=>hm h.1,K25.os,K25.tape,K25.output⟩
 refine hQ w1.heap.size w2.heap.size rv a5 w5 Nc K1.size B.size I5 ((K1.trans (dZ.sH B).kp).trans asJ) (H.aW (fun b hb hn=>(K25.stay b hb (rU b hn)).2.2) fun b hb hn=>⟨hn,hb,(K25.stay b hb (rU b hn)).1⟩)
set_option maxRecDepth 100000
abbrev GK (e:kQ)(y:cu):kQ:=(e.1,e.2.1,y,e.2.2.2.1,e.2.2.2.2)
def akI (w:World)(g:Nat)(e:kQ)(y:cu)(rv:List Value):Prop:=
 ∃u,w.heap[g]? =some (.cells #[.int .i64 e.1,.int .i64 e.2.1,.bool y.1.1.1,rv.getD 0 dV,rv.getD 1 dV,.bool y.2.1.1,rv.getD 2 dV,rv.getD 3 dV,.int .i64 e.2.2.2.1,u] 47 (0,0))
theorem Kz {w:World}{new:Nat→Prop}{rv:List Value}{ls:List (List Int)}(H:oP 114 w new (jm rv ls)){j:Nat}{xs:List Int}(h:ls[j]? =some xs){ok:Nat→Prop}(hn:∀b,new b→ok b):Rd w ok (.sl 114 (.int .u32)) xs [rv.getD j dV]:=by
 have hm:(rv.getD j dV,xs)∈jm rv ls:=by
  refine List.mem_of_getElem? (i:=j) ?_
  simp[jm,List.getElem?_mapIdx,h]
 exact oN (H.own _ hm) (rD xs) fun b e=>hn b (H.new _ hm b e)
theorem aoq {n i:Int}{ops:zX}{st:cO}{R:b_}{e:kQ}{y:cu}{rv:List Value}{may:Nat→Prop}{w:World}{ow:Ow}{a:Act}{lo hi:Nat}(I:aK jW 184 may (M11 n i ops st R e y rv) a w ow)
  (H:oP 114 w (fun b=>lo≤b∧b<hi∧ay ow (M11 n i ops st R e y rv).m b) (jm rv (uz y))):
  ∃g aO,aK jW 184 may (M12 n i ops st R (GK e y)) a w aO∧Kp may w ow (M11 n i ops st R e y rv).m w aO (M12 n i ops st R (GK e y)).m∧akI w g e y rv∧g<w.heap.size∧ay aO (M12 n i ops st R (GK e y)).m g∧a.tmps.getD 8 undef=ptr g:=by
 obtain⟨g,hg,vs,hc,hF⟩:=I.mem.boxes 3 ⟨47,akF rv y e⟩ rfl
 have h8:∃g',ow.bb[3]? =some (some g')∧a.tmps.getD 8 undef= .pointer (some ((⟨g',0,none⟩:Addr).add 0)):=I.fr 8
 obtain⟨g',zA,h8⟩:=h8
 obtain rfl:g=g':=by rw[hg]at zA;exact Option.some.inj (Option.some.inj zA)
 match vs,hF with
 |[v1,v2,b1,l0,l1,b2,l2,l3,v3,v4],hF=>
  obtain⟨h1,h2,h3,h4,h5,h6,h7,h9,h10,h11,_⟩:=hF
  have e1:=(List.cons.inj (h1:[v1]=[Value.int .i64 e.1])).1
  have e2:=(List.cons.inj (h2:[v2]=[Value.int .i64 e.2.1])).1
  have e3:=(List.cons.inj (h3:[b1]=[Value.bool y.1.1.1])).1
  have e4:=(List.cons.inj ((h4:[l0]=[rv.getD 0 dV]∧_).1)).1
  have e5:=(List.cons.inj ((h5:[l1]=[rv.getD 1 dV]∧_).1)).1
  have e6:=(List.cons.inj (h6:[b2]=[Value.bool y.2.1.1])).1
  have e7:=(List.cons.inj ((h7:[l2]=[rv.getD 2 dV]∧_).1)).1
  have e9:=(List.cons.inj ((h9:[l3]=[rv.getD 3 dV]∧_).1)).1
  have e10:=(List.cons.inj (h10:[v3]=[Value.int .i64 e.2.2.2.1])).1
  subst e1 e2 e3 e4 e5 e6 e7 e9 e10
  have hn:∀b,(lo≤b∧b<hi∧ay ow (M11 n i ops st R e y rv).m b)→ay ow (M11 n i ops st R e y rv).m b:=fun b h=>h.2.2
  have hx:Rd w (ay ow (M11 n i ops st R e y rv).m) zW (GK e y) [.int .i64 e.1,.int .i64 e.2.1,.bool y.1.1.1,rv.getD 0 dV,rv.getD 1 dV,.bool y.2.1.1,rv.getD 2 dV,rv.getD 3 dV,.int .i64 e.2.2.2.1,v4]:=by
   refine⟨[_],[_,_,_,_,_,_,_,_,_],rfl,rfl,[_],[_,_,_,_,_,_,_,_],rfl,rfl,[_,_,_,_,_,_],[_,_],rfl,⟨[_,_,_],[_,_,_],rfl,⟨[_,_],[_],rfl,⟨[_],[_],rfl,rfl,Kz H (j:=0) rfl hn⟩,Kz H (j:=1) rfl hn⟩,⟨[_,_],[_],rfl,⟨[_],[_],rfl,rfl,Kz H (j:=2) rfl hn⟩,Kz H (j:=3) rfl hn⟩⟩,[_],[_],rfl,rfl,?_⟩
   exact Rd.mono (fun b h=>h.1) (h11:Rd _ _ _ _ _)
  have I':aK jW 184 may ⟨(M8 n i ops st R).fr++[(8,.box (VB n ops st R).boxes.length 0)],⟨(VB n ops st R).rows,(VB n ops st R).boxes++[some ⟨47,akF rv y e⟩]⟩⟩ a w ow:=I
  obtain⟨J,lU⟩:=I'.ake (k:=zW) (x:=GK e y) (by intro q hq;simp at hq;rcases hq with rfl|rfl|rfl|rfl<;>rfl) (by simp) hg hc hx
  exact⟨g,_,J,Kp.look fun b _ h=>lU b (.inl h),⟨v4,hc⟩,(Array.getElem?_eq_some_iff.1 hc).1,lU g (.inr rfl),h8⟩
set_option maxRecDepth 100000
abbrev akJ (e:kQ):Row:=⟨47,zW,false,false,[e]⟩
section
variable (n i:Int) (ops:zX) (st:cO) (R R':b_) (e:kQ) (b:Bool)
abbrev m13:Mem:=⟨[none,none,some (akJ e),some (xK st.1.2),some (xM st.2.2)],[bxI n ops,Vh st 3 4,bxM R,bxM R']⟩
abbrev f13:List (Nat×SV):=[(1,.box 0 0),(3,.box 1 0),(5,.box 2 0),(7,ci .i64 i),(8,.Dt 2 0 0),(9,.box 3 0)]
theorem n12:GR jW T 184 9 (rM 12) (M12 n i ops st R e) [1,3,5,7,8,9,10]=(BM.F st (R,e,())).bind fun y=>some (.nrm ((f13 i).map (·.2)++[cb y.2.1.2.1]) (m13 n ops y.2.2 R y.2.1.1 e)):=by kernel_rfl
theorem n13:GR jW T 184 9 (.seq (rM 13) (.cond (.tmp 81) (.seq (rM 14) .ret) .skip)) ⟨f13 i++[(10,cb true)],m13 n ops st R R' e⟩ [1,3,5,7,8,9]=bif decide (0≤i)&&decide (i<(List.length ops:Int))then(lF.F (e.2.2.1,(List.getD ops i.toNat WX).2.2.1,())).bind fun y=>bif not y.1 then some (.rt ((f13 i).map (·.2)) (m13 n ops st R R' e))else some (.nrm ((f13 i).map (·.2)) (m13 n ops st R R' e))else none:=by kernel_rfl
abbrev VE:S:=⟨[(1,.box 0 0),(3,.box 1 0),(5,.box 2 0),(7,ci .i64 i),(9,.box 3 0)],⟨[some (xK st.1.2),some (xM st.2.2)],[bxI n ops,Vh st 0 1,bxM R,bxM R']⟩⟩
theorem n15:dS [csI,YU,csM,(7,SC),(9,.box 32 [.z 68 fD true,.v true,.z 70 fU true])] ⟨f13 i,m13 n ops st R R' e⟩=some (VE n i ops st R R'):=by kernel_rfl
theorem n16:xH jW T 184 9 (rM 16) (VE n i ops st R R') cs8=some (.nrm (M8 n i ops st R')):=by kernel_rfl
abbrev lvH (rv:List Value)(y:cu)(e:kQ):List aT:=[.val true (.int .i64) e.1,.val true (.int .i64) e.2.1,.val true .bool y.1.1.1,.val true .hd (List.getD rv 0 dV),.val true .hd (List.getD rv 1 dV),.val true .bool y.2.1.1,.val true .hd (List.getD rv 2 dV),.val true .hd (List.getD rv 3 dV),.val true (.int .i64) e.2.2.2.1]
end
abbrev aor:List (Nat×CS):=[csI,YU,csM,(7,SC),(9,.box 32 [.z 68 fD true,.v true,.z 70 fU true])]
abbrev YV (vs:List Value):Row:=⟨37,.hd,true,true,vs⟩
section
variable (n i:Int) (ops:zX) (st:cO) (R R':b_)
abbrev aec (vs:List Value):S:=⟨(VE n i ops st R R').fr++[(84,.one (.lf (.own 0)))],⟨[some (YV vs),some (xK st.1.2),some (xM st.2.2)],[bxI n ops,Vh st 1 2,bxM R,bxM R']⟩⟩
theorem asK (vs:List Value):dS aor (aec n i ops st R R' vs)=some (VE n i ops st R R'):=by kernel_rfl
theorem asL (rv:List Value)(y:cu)(e:kQ):bJ jW T 184 (kF 15) [0,1,2] ⟨(VE n i ops st R R').fr++[(8,.ref (lvH rv y e))],(VE n i ops st R R').m⟩ (dS (aor++[(84,.lf (.o 37 .hd true))]))=(fB.jY.F (aon rv y,())).bind fun z=>some (aec n i ops st R R' z.1):=by kernel_rfl
end
theorem aos:∃o,(kF 15)[3]? =some o∧o.guard=none∧o.dst=some 85∧∃ty,o.op= .call {callee:= .value (.func 19),args:= #[.tmp 84],argTypes:=ty}:=⟨_,rfl,rfl,rfl,_,rfl⟩
theorem asM:(kF 15).size=4:=by kernel_rfl
theorem asN:List.range (kF 15).size=[0,1,2]++[3]:=by kernel_rfl
set_option maxRecDepth 100000
section
variable {w:World} {new:Nat→Prop} {ps:List (Value×List Int)}
theorem ahe (H:oP 114 w new ps):SpV w (ps.map (·.1))∧SpR w (ps.map (·.1)) (ps.map (·.2)):=by
 refine⟨⟨fun v hv=> ?_,fun v hv b e=> ?_,fun i j v v' b hi hj e e'=> ?_⟩,by simp,fun j v ys hj hy=> ?_⟩
 ·obtain ⟨p,hp,rfl⟩:=List.mem_map.1 hv
  obtain⟨A,c,h⟩:=ownsRow.slice (H.own p hp)
  exact⟨A,_,c,h⟩
 ·obtain ⟨p,hp,rfl⟩:=List.mem_map.1 hv
  exact H.lt p hp b e
 ·rw [List.getElem?_map]at hi hj
  obtain⟨p,hp,rfl⟩:=Option.map_eq_some_iff.1 hi
  obtain⟨q,hq,rfl⟩:=Option.map_eq_some_iff.1 hj
  exact H.qp i j p q b hp hq e e'
 ·rw [List.getElem?_map]at hj hy
  obtain⟨p,hp,rfl⟩:=Option.map_eq_some_iff.1 hj
  rw[hp]at hy
  obtain rfl:=Option.some.inj hy
  exact H.own p (List.mem_of_getElem? hp)
theorem Iy {C:ak}{N:Nat}{may:Nat→Prop}{s:S}{a:Act}{ow:Ow}{t r:Nat}(I:aK C N may s a w ow)(ht:s.get t= .one (.lf (.own r)))(hr:s.m.row? r=some (YV (ps.map (·.1))))(H:oP 114 w (fun b=>ay ow s.m b∧¬may b) ps)
  (hb:∀p∈ps,p.2.length<35184372087000) (hl:ps.length<5864062014000) (Dp:C.aJ=fun _=>none) (tH:∀i row,s.m.row? i=some row→row.fr=true∧row.mp? =none) (sO:∀i bx,s.m.box? i=some bx→bx.ls.all frL=true) (ND:∀q∈s.fr,frV q.2=true):
  Calls Tryz.prog 19 #[a.tmps.getD t undef] w fun e w'=>e= .returned (.bool true)∧VA w w' (ps.map (·.1))∧∀a',(∀t∈s.fr.map (·.1),a'.tmps.getD t undef=a.tmps.getD t undef)→a'.tmps.size=a.tmps.size→a'.defers=a.defers→aK C N may s a' w' ow:=by
 obtain⟨V,R⟩:=ahe H
 have h0:aS w (ay ow s.m) may ow s.m (s.get t) (a.tmps.getD t undef):=I.fr t
 rw[ht]at h0
 obtain⟨hv,hs⟩:ow.rv[r]? =some (a.tmps.getD t undef)∧_:=h0
 obtain⟨v,cs,Cm,sK,dM,lQ⟩:=I.mem.own hr rfl rfl
 obtain rfl:v=a.tmps.getD t undef:=Option.some.inj (Cm.symm.trans hv)
 have nY:∀b,(a.tmps.getD t undef).ownBlock=some b→eG ow s.m (.row r)=some b:=fun b e=>by rw[fF hr hv rfl,jl sK];exact e
 have hu:Rd w (sU (ps.map (·.1))) (.sl 37 .hd) (ps.map (·.1)) [a.tmps.getD t undef]:=oN dM (aY.flat rfl lQ) fun b e=>by
  intro v hv e'
  obtain⟨p,hp,rfl⟩:=List.mem_map.1 hv
  exact(H.new p hp b e').1 _ (nY b e)
 refine(Ve V R hu (fun xs hx=> ?_) (by simpa using hl)).mono fun e w' ⟨he,X⟩=>⟨he,X,fun a' h1 h2 h3=> ?_⟩
 ·obtain ⟨p,hp,rfl⟩:=List.mem_map.1 hx
  exact hb p hp
 ·refine I.far X.size (fun b dX hm=>X.block b dX fun v hv e=> ?_) h1 h2 h3 Dp tH sO ND
  obtain⟨p,hp,rfl⟩:=List.mem_map.1 hv
  exact(H.new p hp b e).2 hm
end
theorem RQ {w0 w w':World}{ow:Ow}{m:Mem}{vs:List Value}(O:Old w0 w ow m)(X:VA w w' vs)(h:∀b,b<w0.heap.size→sU vs b):Old w0 w' ow m:=
 O.next X.size (fun b hb=>X.block b (Nat.lt_of_lt_of_le hb O.size) (h b hb)) X.os X.tape X.output
theorem aaD (rv:List Value)(y:cu):fB.jY.F (aon rv y,())=some ((jm rv (uz y)).map (·.1),()):=fB.jY.of 0 _ rfl
section
variable {n i:Int} {ops:zX} {st:cO} {R R':b_} {e:kQ} {y:cu} {rv:List Value} {may:Nat→Prop} {w0 w:World} {ow:Ow} {a:Act} {Q:Exit→Act→World→Prop} {g:Nat}
theorem akK (vs:List Value):∀j row,(aec n i ops st R R' vs).m.row? j=some row→row.fr=true∧row.mp? =none
 |0,row,h=>by cases h;exact⟨rfl,rfl⟩
 |1,row,h=>by cases h;exact⟨rfl,rfl⟩
 |2,row,h=>by cases h;exact⟨rfl,rfl⟩
 |j+3,row,h=>by simp[Mem.row?]at h
theorem ahf (vs:List Value):∀j bx,(aec n i ops st R R' vs).m.box? j=some bx→bx.ls.all frL=true
 |0,bx,h=>by cases h;rfl
 |1,bx,h=>by cases h;rfl
 |2,bx,h=>by cases h;rfl
 |3,bx,h=>by cases h;rfl
 |j+4,bx,h=>by simp[Mem.box?]at h
theorem akL (I:aK jW 184 may (VE n i ops st R R') a w ow)(O:Old w0 w ow (VE n i ops st R R').m)(hO:akI w g e y rv)(hg:ay ow (VE n i ops st R R').m g)(h8:a.tmps.getD 8 undef=ptr g)(H:oP 114 w (fun b=>(ay ow (VE n i ops st R R').m b∧¬may b)∧w0.heap.size≤b) (jm rv (uz y)))
  (hb:∀xs∈uz y,xs.length<35184372087000)
  (hQ:∀a' w' aO,aK jW 184 may (VE n i ops st R R') a' w' aO→Old w0 w' aO (VE n i ops st R R').m→Q .normal a' w'):(rM 15).wp Tryz.prog Q a w:=by
 rw[asC]
 refine wp_region ?_
 rw[asN]
 obtain⟨u,hO⟩:=hO
 have Nr:∀j,j<4→∃A n c,rv.getD j dV=Value.slice A n c:=fun j hj=>by
  obtain⟨x,hx⟩:∃x,(uz y)[j]? =some x:=⟨_,List.getElem?_eq_getElem (show j<(uz y).length from hj)⟩
  have h1:(jm rv (uz y))[j]? =some (rv.getD j dV,x):=by simp[jm,List.getElem?_mapIdx,hx]
  obtain⟨A,c,h⟩:=ownsRow.slice (H.own _ (List.mem_of_getElem? h1))
  exact⟨A,_,c,h⟩
 refine kL _ _ _ _ ?_
 have I1:aK jW 184 may ⟨(VE n i ops st R R').fr++[(8,.ref (lvH rv y e))],(VE n i ops st R R').m⟩ a w ow:=by
  refine I.more ⟨⟨⟨g,0,none⟩,[.int .i64 e.1,.int .i64 e.2.1,.bool y.1.1.1,rv.getD 0 dV,rv.getD 1 dV,.bool y.2.1.1,rv.getD 2 dV,rv.getD 3 dV,.int .i64 e.2.2.2.1],h8,⟨rfl,rfl,rfl,⟨rfl,Nr 0 (by decide)⟩,⟨rfl,Nr 1 (by decide)⟩,rfl,⟨rfl,Nr 2 (by decide)⟩,⟨rfl,Nr 3 (by decide)⟩,rfl,trivial⟩,fun j x hj=>⟨hg,?_⟩⟩,trivial⟩
  have ha:((⟨g,0,none⟩:Addr).add j)=⟨g,j,none⟩:=by
   by_cases h0:j=0
   ·subst h0;rfl
   ·simp [Addr.add,h0]
  rw[ha]
  simp only[World.cell?,hO]
  match j,hj with
  |0,hj=>exact hj
  |1,hj=>exact hj
  |2,hj=>exact hj
  |3,hj=>exact hj
  |4,hj=>exact hj
  |5,hj=>exact hj
  |6,hj=>exact hj
  |7,hj=>exact hj
  |8,hj=>exact hj
  |j+9,hj=>simp at hj
 refine ni aH kT I1 (by rw[asM];decide) ((asL n i ops st R R' rv y e).trans (by rw[aaD];rfl)) fun a2 w2 gV I2 K2=> ?_
 obtain⟨o,ho,RI,RJ,ty,NR⟩:=aos
 refine o9 ho RI (oO NR ⟨_,Tryz.func19,rfl,rfl⟩ rfl rfl ?_)
 show Calls Tryz.prog 19 #[a2.tmps.getD 84 undef] w2 _
 have H2:oP 114 w2 (fun b=>(ay gV (aec n i ops st R R' ((jm rv (uz y)).map (·.1))).m b∧¬may b)∧w0.heap.size≤b) (jm rv (uz y)):=
  H.aW (fun b hb hn=>(K2.stay b hb hn.1.1).2.2) fun b hb hn=>⟨⟨(K2.stay b hb hn.1.1).1,hn.1.2⟩,hn.2⟩
 refine(Iy (ps:=jm rv (uz y)) I2 (t:=84) (r:=0) rfl rfl (H2.aW (fun _ _ _=>rfl) fun b _ h=>h.1) (fun p hp=> ?_) (by simp[jm,uz]) Cc (akK _) (ahf _) (by intro q hq;simp at hq;rcases hq with rfl|rfl|rfl|rfl|rfl|rfl<;>rfl)).mono fun e' w3 ⟨he,X,hS⟩=> ?_
 ·obtain ⟨j,hj,rfl⟩:=List.getElem_of_mem hp
  obtain⟨xs,hx,e2⟩:=Gw (List.getElem?_eq_getElem hj)
  rw[e2]
  exact hb xs (List.mem_of_getElem? hx)
 ·refine ⟨_,he,?_⟩
  rw[RJ]
  have S3:AV [1,3,5,7,9,84] a2 (a2.put (some 85) (.bool true)):=(AV.refl _ a2).put _ (by decide)
  have I3:=hS (a2.put (some 85) (.bool true)) (fun t ht=>S3.get t ht) S3.size S3.defers
  obtain⟨ED,I4,K4⟩:=I3.dS (asK n i ops st R R' _)
  refine hQ _ _ _ I4 ((RQ (O.kp K2) X fun b hb v hv e=> ?_).kp K4)
  obtain⟨p,hp,rfl⟩:=List.mem_map.1 hv
  have:=(H2.new p hp b e).2
  omega
end
set_option maxRecDepth 100000
structure OpD (st:cO) (R:b_) (e:kQ) (st':cO) (R':b_):Prop where
 go:∃y,uI.F (e.2.2.1,())=some (y,())∧BM.F st (R,GK e y,())=some ((),(R',true,()),st')∧lF.F (y,e.2.2.1,())=some (true,())∧∀xs∈uz y,xs.length<35184372087000
noncomputable def aiu:Code:= .seq (rM 10) (.seq (rM 11) (.seq (rM 12) (.seq (.seq (rM 13) (.cond (.tmp 81) (.seq (rM 14) .ret) .skip)) (.seq (rM 15) (rM 16)))))
section
variable {n i:Int} {ops:zX} {st st':cO} {R R':b_} {may:Nat→Prop} {w0 w:World} {ow:Ow} {a:Act} {Q:Exit→Act→World→Prop}
theorem akM (I:aK jW 184 may (M8 n i ops st R) a w ow)(O:Old w0 w ow (M8 n i ops st R).m)(hi:0≤i)(dX:i<(List.length ops:Int))(D:OpD st R (List.getD ops i.toNat WX) st' R')
  (hQ:∀may' a' w' aO,aK jW 184 may' (M8 n i ops st' R') a' w' aO→Old w0 w' aO (M8 n i ops st' R').m→Q .normal a' w'):aiu.wp Tryz.prog Q a w:=by
 have hc:(decide (0≤i)&&decide (i<(List.length ops:Int)))=true:=by simp[hi,dX]
 have h10:=asA n i ops st R
 rw[hc]at h10
 obtain⟨y,hy,hm,hs,hb⟩:=D.go
 have h13:=fun Ir R1=>n13 n i ops Ir R R1 (GK (List.getD ops i.toNat WX) y)
 generalize List.getD ops i.toNat WX=e at h10 hy hm hs h13
 refine wp_seq (dO aH kT mix I h10 (fun s' a1 w1 jZ e1 I1 K1=> ?_) (fun _ _ _ _ _ e1=>by cases e1) (fun _ _ _ _ e1=>by cases e1))
 cases e1
 refine wp_seq (akH hy I1 fun lo Ns rv a2 w2 gV JJ D5 I2 K2 H=> ?_)
 obtain⟨g,qA,I3,K3,hO,Nv,hgo,h8⟩:=aoq I2 H
 have Zr:qA.rv[2]? =some (.slice (some ⟨g,0,none⟩) 1 1)∨∃n c,qA.rv[2]? =some (.slice (some ⟨g,0,none⟩) n c):=by
  obtain⟨_,h⟩:=(I3.fr 8:aS _ _ _ _ _ (.Dt 2 0 0) _)
  obtain⟨_,g2,n2,c2,e2,e3⟩:=h (akJ (GK e y)) rfl
  rw[h8]at e3
  have e4:g=g2:=by
   injection e3 with e3
   injection e3 with e3
   have:=congrArg Addr.block e3
   simpa[Addr.add]using this
  subst e4
  exact .inr ⟨n2,c2,e2⟩
 have Zr:∃n c,qA.rv[2]? =some (.slice (some ⟨g,0,none⟩) n c):=by
  rcases Zr with h|h
  ·exact ⟨_,_,h⟩
  ·exact h
 refine wp_seq (je aH kT mix I3 ((n12 n i ops st R (GK e y)).trans (by rw[hm];rfl)) (fun vs m' a4 w4 ED e4 I4 K4=> ?_) (fun _ _ _ _ _ _ e4=>by cases e4) (fun _ _ _ _ _ e4=>by cases e4))
 cases e4
 have I4:aK jW 184 (GH may lo Ns) ⟨f13 i++[(10,cb true)],m13 n ops st' R R' (GK e y)⟩ a4 w4 ED:=I4
 have h13:=h13 st' R'
 rw[hc,cond_true,show(GK e y).2.2.1=y from rfl,hs]at h13
 refine wp_seq (je aH kT mix I4 h13 (fun vs m' a5 w5 Nc e5 I5 K5=> ?_) (fun _ _ _ _ _ _ e5=>by cases e5) (fun _ _ _ _ _ e5=>by cases e5))
 cases e5
 have I5:aK jW 184 (GH may lo Ns) ⟨f13 i,m13 n ops st' R R' (GK e y)⟩ a5 w5 Nc:=I5
 have K35:=K4.kp.trans K5.kp
 obtain⟨n2,c2,Sl⟩:=Zr
 have h8':a5.tmps.getD 8 undef=ptr g:=by
  obtain⟨_,h⟩:=(I5.fr 8:aS _ _ _ _ _ (.Dt 2 0 0) _)
  obtain⟨_,g2,n3,c3,e2,e3⟩:=h (akJ (GK e y)) rfl
  rw[K5.rv _ _ (K4.rv _ _ Sl)]at e2
  have e2:=Option.some.inj e2
  injection e2 with e2
  injection e2 with e2
  have e2:=congrArg Addr.block e2
  have e2:g=g2:=e2
  subst e2
  exact e3
 obtain⟨Aq,I6,K6⟩:=I5.dS (n15 n i ops st' R R' (GK e y))
 have K36:=K35.trans K6
 have hO6:akI w5 g e y rv:=by
  obtain⟨u,hu⟩:=hO
  exact⟨u,((K36.stay g Nv hgo).2.2).trans hu⟩
 have O6:Old w0 w5 Aq (VE n i ops st' R R').m:=(((O.kp K1).kp K2).kp K3).kp K36
 have pY:=Nat.le_trans (O.kp K1).size JJ
 have H6:oP 114 w5 (fun b=>(ay Aq (VE n i ops st' R R').m b∧¬GH may lo Ns b)∧w0.heap.size≤b) (jm rv (uz y)):=by
  have K26:=K3.trans K36
  refine H.aW (fun b hb hn=>(K26.stay b hb hn.2.2).2.2) fun b hb hn=>⟨⟨(K26.stay b hb hn.2.2).1,fun h=> ?_⟩,by have:=hn.1;omega⟩
  have:=h.2
  have:=hn.1
  have:=hn.2.1
  omega
 refine wp_seq (akL I6 O6 hO6 (K36.stay g Nv hgo).1 h8' H6 hb fun a7 w7 ow7 I7 O7=> ?_)
 refine dO aH kT mix I7 (n16 n i ops st' R R') (fun s' a8 w8 ow8 e8 I8 K8=> ?_) (fun _ _ _ _ _ e8=>by cases e8) (fun _ _ _ _ e8=>by cases e8)
 cases e8
 exact hQ _ _ _ _ I8 (O7.kp K8)
inductive RS (ops:zX):Nat→cO→b_→cO→b_→Prop where
 |nil (st:cO) (R:b_):RS ops (List.length ops) st R st R
 |cons {j:Nat} {st Ir st':cO} {R R1 R':b_} (h:j<List.length ops) (D:OpD st R (List.getD ops j WX) Ir R1) (r:RS ops (j+1) Ir R1 st' R'):RS ops j st R st' R'
noncomputable def aiv:Code:= .block 0 (.loop (.seq (.seq (rM 8) (.cond (.tmp 49) .skip (.exit 0))) (.seq (.block 1 aiu) (rM 9))))
theorem aou (hl:List.length ops<1000000000)(D:RS ops 0 st R st' R')(I:aK jW 184 may (M8 n ((0:Nat):Int) ops st R) a w ow)(O:Old w0 w ow (M8 n ((0:Nat):Int) ops st R).m)
  (hQ:∀i may' a' w' aO,aK jW 184 may' (M8 n i ops st' R') a' w' aO→Old w0 w' aO (M8 n i ops st' R').m→Q .normal a' w'):aiv.wp Tryz.prog Q a w:=by
 refine wp_block (wp_loop (fun a' w'=>∃(j:Nat) (Ir:cO) (R1:b_) (may':Nat→Prop) (aO:Ow),RS ops j Ir R1 st' R'∧aK jW 184 may' (M8 n (j:Int) ops Ir R1) a' w' aO∧Old w0 w' aO (M8 n (j:Int) ops Ir R1).m) (fun a' _=>List.length ops-bV 7 a') ⟨0,st,R,may,ow,D,I,O⟩ ?_)
 rintro a1 w1 ⟨j,Ir,R1,may1,jZ,D1,I1,O1⟩
 have sK:bV 7 a1=j:=I1.bV rfl
 have e8:=bn8 n (j:Int) ops Ir R1
 cases D1 with
 |nil=>
  rw[decide_eq_false (by omega:¬((List.length ops:Nat):Int)<(List.length ops:Int))]at e8
  refine wp_seq (dO aH kT mix I1 e8 (fun _ _ _ _ e=>by cases e) (fun j' s' a3 w3 qA e I3 K3=> ?_) (fun _ _ _ _ e=>by cases e))
  cases e
  simp only[Exit.then,Exit.inBlock,if_true]
  exact hQ _ _ _ _ _ I3 (O1.kp K3)
 |cons h D2 D3=>
  rw[decide_eq_true (by omega:(j:Int)<(List.length ops:Int))]at e8
  refine wp_seq (dO aH kT mix I1 e8 (fun s' a2 w2 gV e I2 K2=> ?_) (fun _ _ _ _ _ e=>by cases e) (fun _ _ _ _ e=>by cases e))
  cases e
  refine wp_seq (wp_block (akM I2 (O1.kp K2) (by omega) (by omega) (by rw[Int.toNat_natCast];exact D2) fun may' a4 w4 ED I4 O4=> ?_))
  have e9:=fun Ir R1=>bn9 n (j:Int) ops Ir R1
  rw[tu (show j<4611686018427387904 by omega)]at e9
  refine dO aH kT mix I4 (e9 _ _) (fun s' a6 w6 Aq e I6 K6=> ?_) (fun _ _ _ _ _ e=>by cases e) (fun _ _ _ _ e=>by cases e)
  cases e
  refine⟨⟨j+1,_,_,may',Aq,D3,I6,O4.kp K6⟩,?_⟩
  have h:bV 7 a6=j+1:=I6.bV rfl
  show List.length ops-bV 7 a6<List.length ops-bV 7 a1
  omega
end
set_option maxRecDepth 100000
structure wG (w:World) (ok:Nat→Prop) (gs:List fB.dJ) (cs:List fB.bZ) (ps qs:List (Value×List Int)) (ys:List dJ) (zs:List bZ) (v1 v2:Value):Prop where
 aP:oU Xt gs ys ps
 changes:oU Xu cs zs qs
 held:oP 114 w (fun b=>ok b∧v1.ownBlock≠some b∧v2.ownBlock≠some b) (ps++qs)
 Bj:∃c1,w.ownsRow 0 68 16 v1 gs.length c1∧∀ok,aY w ok fB.fD gs c1
 aed:∃c2,w.ownsRow 0 70 11 v2 cs.length c2∧∀ok,aY w ok fB.fU cs c2
 Oh:∀b,v1.ownBlock=some b→ok b∧v2.ownBlock≠some b
 Vj:∀b,v2.ownBlock=some b→ok b
section
variable {w w':World} {ok ok':Nat→Prop} {gs:List fB.dJ} {cs:List fB.bZ} {ps qs:List (Value×List Int)} {ys:List dJ} {zs:List bZ} {v1 v2:Value}
theorem kD {e:TypeId}{k n:Nat}{v:Value}{c:List Value}(h:w.ownsRow 0 e k v n c){b:Nat}(e:v.ownBlock=some b):b<w.heap.size:=(World.ownsRow.lt h b e).2
theorem wG.aW (h:wG w ok gs cs ps qs ys zs v1 v2)(hb:∀b,b<w.heap.size→ok b→w'.heap[b]? =w.heap[b]?)(hn:∀b,b<w.heap.size→ok b→ok' b):wG w' ok' gs cs ps qs ys zs v1 v2:=by
 obtain⟨c1,r1,d1⟩:=h.Bj
 obtain⟨c2,r2,d2⟩:=h.aed
 exact⟨h.aP,h.changes,h.held.aW (fun b hl CG=>hb b hl CG.1) (fun b hl CG=>⟨hn b hl CG.1,CG.2⟩),⟨c1,gZ r1 fun g hg=>hb g (kD r1 hg) (h.Oh g hg).1,fun ok=>aY.flat rfl (d1 ok)⟩,
  ⟨c2,gZ r2 fun g hg=>hb g (kD r2 hg) (h.Vj g hg),fun ok=>aY.flat rfl (d2 ok)⟩,fun b e=>⟨hn b (kD r1 e) (h.Oh b e).1,(h.Oh b e).2⟩,fun b e=>hn b (kD r2 e) (h.Vj b e)⟩
theorem wG.aee (h:wG w ok gs cs ps qs ys zs v1 v2):(∃A n c,v1=Value.slice A n c)∧∃A n c,v2=Value.slice A n c:=by
 obtain⟨c1,r1,_⟩:=h.Bj
 obtain⟨c2,r2,_⟩:=h.aed
 obtain⟨A,c,e⟩:=ownsRow.slice r1
 obtain⟨B,d,e'⟩:=ownsRow.slice r2
 exact⟨⟨A,_,c,e⟩,⟨B,_,d,e'⟩⟩
end
structure StD (st:cO) (ys:List dJ) (zs:List bZ):Prop where
 made:st.2.1=true
 ly:ys.length=st.2.2.length
 lz:zs.length=st.1.2.length
 hy:∀(j:Nat) (e y:dJ),st.2.2[j]? =some e→ys[j]? =some y→bg.F (e,())=some (y,())
 hz:∀(j:Nat) (e y:bZ),st.1.2[j]? =some e→zs[j]? =some y→bD.F (e,())=some (y,())
 b1:st.2.2.length<100000000
 b2:st.1.2.length<100000000
 b3:∀y∈ys,∀xs∈sJ y,xs.length<35184372087000
 b4:∀z∈zs,∀xs∈Nj z,xs.length<35184372087000
theorem aef {C:ak}{N:Nat}{may:Nat→Prop}{s:S}{a:Act}{w:World}{ow:Ow}{st:cO}{t r1 r2:Nat}{i:Nat}(I:aK C N may s a w ow)(ht:s.get t= .box i 0)(hb:s.m.box? i=Vh st r1 r2)(h1:s.m.row? r1=some (xK st.1.2))(h2:s.m.row? r2=some (xM st.2.2))(hm:st.2.1=true):
  ∃g vc vl,a.tmps.getD t undef=ptr g∧nR w g st.1.1 true vc vl∧Rd w (fun b=>b≠g) (.sl 70 fU) st.1.2 [vc]∧Rd w (fun b=>b≠g) (.sl 68 fD) st.2.2 [vl]:=by
 obtain⟨g,hg,vs,hc,hF⟩:=I.mem.boxes i _ hb
 have h0:aS w (ay ow s.m) may ow s.m (s.get t) (a.tmps.getD t undef):=I.fr t
 rw[ht]at h0
 obtain⟨g',zA,h0⟩:=h0
 obtain rfl:g=g':=by rw[hg]at zA;exact Option.some.inj (Option.some.inj zA)
 have kg:eG ow s.m (.box i)=some g:=jf hb hg
 have rd:∀{r:Nat} {row:Row} {v:Value},s.m.row? r=some row→row.rw=true→ow.rv[r]? =some v→(∃A n c,v=Value.slice A n c)→Rd w (fun b=>b≠g) (.sl row.e row.k) row.xs [v]:=fun {r row v} hr hw hv hs=>by
  have SR:=I.mem.sl r row hr hv hs
  obtain⟨v',Cm,SR⟩:=SR
  obtain rfl:=Option.some.inj (hv.symm.trans Cm)
  refine Rd.mono (fun b h=>h.1) (SR.read (ok':=fun b=>b≠g) (fun b h e=>by subst e;exact h _ kg) fun hw b e=>⟨fun e'=> ?_,?_⟩)
  ·subst e'
   have:=I.mem.qp _ _ b (by rw[fF hr hv hw];exact e) kg
   cases this
  ·exact (I.mem.fH (.row r) b (by rw[fF hr hv hw];exact e)).1
 match vs,hF with
 |[x1,vc,x3,vl],hF=>
  obtain⟨e1,⟨e2,s2⟩,e3,⟨e4,s4⟩,_⟩:=hF
  have e1:=(List.cons.inj (e1:[x1]=[Value.int .i64 st.1.1])).1
  have e3:=(List.cons.inj (e3:[x3]=[Value.bool st.2.1])).1
  subst e1 e3
  rw[hm]at hc
  exact⟨g,vc,vl,h0,⟨hc,s2,s4⟩,rd h1 rfl e2 s2,rd h2 rfl e4 s4⟩
abbrev Nl (v1 v2:Value)(lv:Int):List aT:=[.val true .hd v1,.val true (.int .i64) lv,.val true .hd v2]
theorem aeg {j t t87 t88:Nat}{s:S}{may:Nat→Prop}{w0 w:World}{ow:Ow}{a:Act}{Q:Exit→Act→World→Prop}{st:cO}{ys:List dJ}{zs:List bZ}{i:Nat}(D:StD st ys zs)(I:aK jW 184 may s a w ow)(O:Old w0 w ow s.m)
  (hR:rM j= .region j (kF j) false) (hrg:List.range (kF j).size=[0,1,2,3]) (pY:(kF j).size=4) (h0:∃o,(kF j)[0]? =some o∧o.guard=none∧o.dst=some t87∧o.op= .move (.tmp t)) (h1:∃o,(kF j)[1]? =some o∧o.guard=none∧o.dst=some t88∧∃ty,o.op= .call {callee:= .value (.func 14),args:= #[.tmp t87],argTypes:=ty})
  (wH:t87≠t88) (dX:t87<184∧t88<184) (vF:t87∉s.fr.map (·.1)∧t88∉s.fr.map (·.1)) (ht:s.get t= .box i 0) (hb:s.m.box? i=Vh st 0 1) (Sj:s.m.row? 0=some (xK st.1.2)) (Sl:s.m.row? 1=some (xM st.2.2))
  (hmp:∀i row,s.m.row? i=some row→row.mp? =none) (ND:∀q∈s.fr,RG q.2=true) {sh:List (Nat×CS)} {S':Value→Value→S} (he:∀v1 v2,bJ jW T 184 (kF j) [2,3] ⟨s.fr++[(t88,.one (.agg (Nl v1 v2 st.1.1)))],s.m⟩ (dS sh)=some (S' v1 v2))
  (hQ:∀(lo hi:Nat) v1 v2 gs cs ps qs a' w' aO,w.heap.size≤lo→lo≤hi→aK jW 184 (GH may lo hi) (S' v1 v2) a' w' aO→Old w0 w' aO (S' v1 v2).m→Kp may w ow s.m w' aO (S' v1 v2).m→wG w' (fun b=>lo≤b∧b<hi∧ay aO (S' v1 v2).m b) gs cs ps qs ys zs v1 v2→Q .normal a' w'):(rM j).wp Tryz.prog Q a w:=by
 rw[hR]
 refine wp_region ?_
 rw[hrg]
 obtain⟨o,ho,RI,RJ,NR⟩:=h0
 refine o9 ho RI (Go.BigFrame.wp_move _ NR ?_)
 rw[RJ]
 obtain⟨g,vc,vl,hp,hS,hC,hL⟩:=aef I ht hb Sj Sl D.made
 have e0:a.eval (.tmp t)=ptr g:=hp
 rw[e0]
 have S1:AV (s.fr.map (·.1)) a (a.put (some t87) (ptr g)):=(AV.refl _ a).put _ vF.1
 have g1:(a.put (some t87) (ptr g)).tmps.getD t87 undef=ptr g:=lD (by rw[I.size];exact dX.1)
 generalize a.put (some t87) (ptr g)=a1 at S1 g1
 obtain⟨o,ho,RI,RJ,ty,NR⟩:=h1
 refine o9 ho RI (oO NR aF.bU.fn rfl rfl ?_)
 have e8: #[Operand.tmp t87].toList.map a1.eval=[ptr g]:=by
  show[a1.tmps.getD t87 undef]=[ptr g]
  rw[g1]
 rw[e8]
 refine(Vf hS hC hL D.ly D.lz D.hy D.hz D.b1 D.b2).mono fun e w2 ⟨u,he',SR⟩=> ?_
 obtain⟨gs,cs,ps,qs,v1,v2,rfl,HA,HB,HH,R1,R2,B1,B2⟩:=SR.told
 refine⟨_,he',?_⟩
 rw[RJ]
 have S2:=S1.put (t:=t88) (.agg #[v1,.int .i64 st.1.1,v2]) vF.2
 have g2:(a1.put (some t88) (.agg #[v1,.int .i64 st.1.1,v2])).tmps.getD t88 undef= .agg #[v1,.int .i64 st.1.1,v2]:=lD (by rw[S1.size,I.size];exact dX.2)
 generalize a1.put (some t88) (.agg #[v1,.int .i64 st.1.1,v2])=a2 at S2 g2
 have I2:aK jW 184 (GH may w.heap.size w2.heap.size) s a2 w2 ow:=I.cut SR.below (fun t ht=>S2.get t ht) S2.size S2.defers hmp ND
 obtain⟨c1,r1,d1⟩:=R1
 obtain⟨c2,r2,d2⟩:=R2
 have sl1:∃A n c,v1=Value.slice A n c:=by obtain⟨A,c,e⟩:=ownsRow.slice r1;exact⟨A,_,c,e⟩
 have sl2:∃A n c,v2=Value.slice A n c:=by obtain⟨A,c,e⟩:=ownsRow.slice r2;exact⟨A,_,c,e⟩
 have I3:aK jW 184 (GH may w.heap.size w2.heap.size) ⟨s.fr++[(t88,.one (.agg (Nl v1 v2 st.1.1)))],s.m⟩ a2 w2 ow:=I2.more ⟨⟨[v1,.int .i64 st.1.1,v2],by rw[g2],⟨rfl,sl1⟩,rfl,⟨rfl,sl2⟩,trivial⟩,trivial⟩
 refine ni aH kT I3 (by rw[pY];decide) (he v1 v2) fun a4 w4 ED I4 K4=> ?_
 have Kb:Kp may w ow s.m w2 ow s.m:=(dZ.sH SR.below).kp
 have K4':Kp may w2 ow s.m w4 ED (S' v1 v2).m:=⟨K4.stay,K4.size,fun b hb hm=>K4.frame b hb fun h=>hm h.1,K4.os,K4.tape,K4.output⟩
 have rU:∀b,w.heap.size≤b→ay ow s.m b:=fun b hb x hx=>by
  have:=(I.mem.fH x b hx).2
  omega
 refine hQ w.heap.size w2.heap.size v1 v2 gs cs ps qs a4 w4 ED (Nat.le_refl _) SR.below.size I4 ((O.kp Kb).kp K4') (Kb.trans K4') ?_
 have base:wG w2 (fun b=>w.heap.size≤b∧b<w2.heap.size) gs cs ps qs ys zs v1 v2:=⟨HA,HB,HH.aW (fun _ _ _=>rfl) fun b hl h=>⟨⟨h.1,hl⟩,h.2⟩,⟨c1,r1,d1⟩,⟨c2,r2,d2⟩,fun b e=>⟨⟨(B1 b e).1,kD r1 e⟩,(B1 b e).2⟩,fun b e=>⟨B2 b e,kD r2 e⟩⟩
 exact base.aW (fun b hb h=>(K4.stay b hb (rU b h.1)).2.2) fun b hb h=>⟨h.1,h.2,(K4.stay b hb (rU b h.1)).1⟩
end Go.Fx.Tryz

namespace Go.Fx
open Go Go.RowKit
theorem oU.rd {w:World}{ok:Nat→Prop}{U k1 k2:K}{L:(ps:Value×List Int)→Prop}{R:k1.T→k2.T→List (Value×List Int)→Prop}(h:∀g y q c,R g y q→(∀p∈q,L p)→Rd w ok k1 g c→Rd w ok k2 y c):
  ∀{gs:List k1.T} {ys:List k2.T} {ps:List (Value×List Int)} {c:List Value},oU R gs ys ps→(∀p∈ps,L p)→aY w ok k1 gs c→aY w ok k2 ys c
 |[],[],_,_,_,_,hr=>hr
 |g::gs,y::ys,ps,c,⟨q,r,e,h1,h2⟩,hl,⟨c1,c2,e2,r1,r2⟩=>⟨c1,c2,e2,h g y q c1 h1 (fun p hp=>hl p (by rw[e];exact List.mem_append_left _ hp)) r1,oU.rd (U:=U) h h2 (fun p hp=>hl p (by rw[e];exact List.mem_append_right _ hp)) r2⟩
 |[],_::_,_,_,k,_,_=>k.elim
 |_::_,[],_,_,k,_,_=>k.elim
end Go.Fx
namespace Go.Fx.Tryz
open Go Go.Proofs Go.Fx Go.RowKit
set_option maxRecDepth 100000
section
variable {w:World} {ok:Nat→Prop}
theorem aow {y:cu}{a0 a1 a2 a3:Value}{cs:List Value}(h:Rd w ok fB.nX (((y.1.1.1,a0),a1),((y.2.1.1,a2),a3)) cs)(h0:Rd w ok KU y.1.1.2 [a0])(h1:Rd w ok KU y.1.2 [a1])(h2:Rd w ok KU y.2.1.2 [a2])(h3:Rd w ok KU y.2.2 [a3]):Rd w ok nX y cs:=by
 obtain⟨_,_,rfl,⟨_,_,rfl,⟨_,_,rfl,b1,⟨rfl,_⟩⟩,⟨rfl,_⟩⟩,⟨_,_,rfl,⟨_,_,rfl,b2,⟨rfl,_⟩⟩,⟨rfl,_⟩⟩⟩:=h
 exact⟨_,_,rfl,⟨_,_,rfl,⟨_,_,rfl,b1,h0⟩,h1⟩,⟨_,_,rfl,⟨_,_,rfl,b2,h2⟩,h3⟩⟩
theorem aeh {y:jL}{a0 a1 a2 a3:Value}{cs:List Value}(h:Rd w ok fB.zV (y.1,((((y.2.1.1.1.1,a0),a1),((y.2.1.2.1.1,a2),a3)),y.2.2)) cs)(h0:Rd w ok KU y.2.1.1.1.2 [a0])(h1:Rd w ok KU y.2.1.1.2 [a1])(h2:Rd w ok KU y.2.1.2.1.2 [a2])(h3:Rd w ok KU y.2.1.2.2 [a3]):Rd w ok zV y cs:=by
 obtain⟨_,_,rfl,b1,_,_,rfl,d,b2⟩:=h
 exact⟨_,_,rfl,b1,_,_,rfl,aow d h0 h1 h2 h3,b2⟩
theorem aox (g:fB.dJ)(y:dJ)(q:List (Value×List Int))(c:List Value)(h:Xt g y q)(hl:∀p∈q,Rd w ok KU p.2 [p.1])(hr:Rd w ok fB.fD g c):Rd w ok fD y c:=by
 obtain⟨rv,rfl,rfl⟩:=h
 have at_:∀(j:Nat) (xs:List Int),(sJ y)[j]? =some xs→Rd w ok KU xs [rv.getD j dV]:=fun j xs hx=>hl (rv.getD j dV,xs) (List.mem_of_getElem? (i:=j) (by simp[jm,List.getElem?_mapIdx,hx]))
 obtain⟨_,_,rfl,l,u⟩:=hr
 exact⟨_,_,rfl,aeh l (at_ 0 _ rfl) (at_ 1 _ rfl) (at_ 2 _ rfl) (at_ 3 _ rfl),aeh u (at_ 4 _ rfl) (at_ 5 _ rfl) (at_ 6 _ rfl) (at_ 7 _ rfl)⟩
theorem aoy (g:fB.bZ)(y:bZ)(q:List (Value×List Int))(c:List Value)(h:Xu g y q)(hl:∀p∈q,Rd w ok KU p.2 [p.1])(hr:Rd w ok fB.fU g c):Rd w ok fU y c:=by
 obtain⟨rv,rfl,rfl⟩:=h
 have at_:∀(j:Nat) (xs:List Int),(Nj y)[j]? =some xs→Rd w ok KU xs [rv.getD j dV]:=fun j xs hx=>hl (rv.getD j dV,xs) (List.mem_of_getElem? (i:=j) (by simp[jm,List.getElem?_mapIdx,hx]))
 obtain⟨_,_,rfl,h1,_,_,rfl,h2,_,_,rfl,h3,h4⟩:=hr
 exact⟨_,_,rfl,h1,_,_,rfl,h2,_,_,rfl,h3,aeh h4 (at_ 0 _ rfl) (at_ 1 _ rfl) (at_ 2 _ rfl) (at_ 3 _ rfl)⟩
variable {gs:List fB.dJ} {cs:List fB.bZ} {ps qs:List (Value×List Int)} {ys:List dJ} {zs:List bZ} {v1 v2:Value}
theorem aei {new:Nat→Prop}{ps:List (Value×List Int)}(H:oP 114 w new ps)(hn:∀b,new b→ok b):∀p∈ps,Rd w ok KU p.2 [p.1]:=fun p hp=>oN (H.own p hp) (rD _) fun b e=>hn b (H.new p hp b e)
theorem wG.data (h:wG w ok gs cs ps qs ys zs v1 v2):Rd w ok (.sl 68 fD) ys [v1]∧Rd w ok (.sl 70 fU) zs [v2]:=by
 obtain⟨c1,r1,d1⟩:=h.Bj
 obtain⟨c2,r2,d2⟩:=h.aed
 have hU:=aei (ok:=ok) h.held fun b e=>e.1
 have e1:=h.aP.len
 have e2:=h.changes.len
 rw[e1]at r1
 rw[e2]at r2
 exact⟨oN (k:=fD) r1 (oU.rd (U:=KU) (k1:=fB.fD) (k2:=fD) (L:=fun p=>Rd w ok KU p.2 [p.1]) aox h.aP (fun p hp=>hU p (List.mem_append_left _ hp)) (d1 ok)) fun b e=>(h.Oh b e).1,
  oN (k:=fU) r2 (oU.rd (U:=KU) (k1:=fB.fU) (k2:=fU) (L:=fun p=>Rd w ok KU p.2 [p.1]) aoy h.changes (fun p hp=>hU p (List.mem_append_right _ hp)) (d2 ok)) fun b e=>h.Vj b e⟩
end
abbrev ahg (v1 v2:Value)(lv:Int):Option pF:=some ⟨32,Nl v1 v2 lv⟩
abbrev Oi (t:Nat):Nat×CS:=(t,.box 32 [.v true,.v true,.v true])
section
variable (n i lv:Int) (ops:zX) (st st2:cO) (R:b_) (v1 v2 u1 u2:Value) (ys:List dJ) (zs:List bZ) (er:Int)
abbrev N0:S:=⟨[(3,.box 0 0),(5,.box 1 0)],⟨[some (xK st.1.2),some (xM st.2.2)],[Vh st 0 1,bxM R]⟩⟩
theorem p0:dS [YU,csM] (M8 n i ops st R)=some (N0 st R):=by kernel_rfl
abbrev N1:S:=⟨(N0 st R).fr++[(11,.box 2 0)],⟨(N0 st R).m.rows,(N0 st R).m.boxes++[ahg v1 v2 st.1.1]⟩⟩
theorem p17:bJ jW T 184 (kF 17) [2,3] ⟨(N0 st R).fr++[(88,.one (.agg (Nl v1 v2 st.1.1)))],(N0 st R).m⟩ (dS [YU,csM,Oi 11])=some (N1 st R v1 v2):=by kernel_rfl
abbrev N2:S:=⟨(N1 st R v1 v2).fr++[(12,.box 3 0)],⟨(N0 st R).m.rows,(N1 st R v1 v2).m.boxes++[ahg u1 u2 st.1.1]⟩⟩
theorem p18:bJ jW T 184 (kF 18) [2,3] ⟨(N1 st R v1 v2).fr++[(90,.one (.agg (Nl u1 u2 st.1.1)))],(N1 st R v1 v2).m⟩ (dS [YU,csM,Oi 11,Oi 12])=some (N2 st R v1 v2 u1 u2):=by kernel_rfl
theorem asP:bJ jW T 184 (kF 19) [0] (N2 st R v1 v2 u1 u2) (dS [YU,csM,Oi 11,Oi 12,(92,.agg [.v true,.v true,.v true])])=some ⟨(N2 st R v1 v2 u1 u2).fr++[(92,.one (.agg (Nl u1 u2 st.1.1)))],(N2 st R v1 v2 u1 u2).m⟩:=by kernel_rfl
abbrev N3:S:=⟨(N2 st R v1 v2 u1 u2).fr++[(13,.box 4 0),(4,ci .i64 er)],⟨(N0 st R).m.rows++[some (xK st2.1.2),some (xM st2.2.2)],(N2 st R v1 v2 u1 u2).m.boxes++[Vh st2 2 3]⟩⟩
abbrev ahh:Nat×CS:=(13,.box 81 [.v true,.o 70 fU true,.v true,.o 68 fD true])
theorem asQ:bJ jW T 184 (kF 19) [1,2,3,4,5,6] ⟨(N2 st R v1 v2 u1 u2).fr++[(92,.one (.agg [.val false (.sl 68 fD) ys,.val true (.int .i64) lv,.val false (.sl 70 fU) zs]))],(N2 st R v1 v2 u1 u2).m⟩ (dS [YU,csM,Oi 11,Oi 12,ahh,(4,SC)])=
  (dU.F () ((ys,(lv,zs)),())).bind fun y=>match y.1 with
   |none=>none
   |some z=>some (N3 st z R v1 v2 u1 u2 y.2.1.1):=by kernel_rfl
abbrev N4:S:=⟨(N2 st R v1 v2 u1 u2).fr++[(13,.box 4 0)],(N3 st st2 R v1 v2 u1 u2 0).m⟩
theorem p20:xH jW T 184 9 (.seq (rM 20) (.cond (.tmp 97) (.seq (rM 21) .ret) .skip)) (N3 st st2 R v1 v2 u1 u2 0) [YU,csM,Oi 11,Oi 12,ahh]=some (.nrm (N4 st st2 R v1 v2 u1 u2)):=by kernel_rfl
end
end Go.Fx.Tryz

namespace Go.Fx.Tryz
open Go Go.Proofs Go.Fx Go.RowKit
set_option maxRecDepth 100000
theorem asR:rM 17= .region 17 (kF 17) false:=by kernel_rfl
theorem asT:rM 18= .region 18 (kF 18) false:=by kernel_rfl
theorem asU:rM 19= .region 19 (kF 19) false:=by kernel_rfl
theorem asV:List.range (kF 17).size=[0,1,2,3]:=by kernel_rfl
theorem asW:List.range (kF 18).size=[0,1,2,3]:=by kernel_rfl
theorem asX:List.range (kF 19).size=[0]++[1,2,3,4,5,6]:=by kernel_rfl
theorem asY:(kF 17).size=4:=by kernel_rfl
theorem asZ:(kF 18).size=4:=by kernel_rfl
theorem aoz:(kF 19).size=7:=by kernel_rfl
theorem aoA:∃o,(kF 17)[0]? =some o∧o.guard=none∧o.dst=some 87∧o.op= .move (.tmp 3):=⟨_,rfl,rfl,rfl,rfl⟩
theorem aoB:∃o,(kF 17)[1]? =some o∧o.guard=none∧o.dst=some 88∧∃ty,o.op= .call {callee:= .value (.func 14),args:= #[.tmp 87],argTypes:=ty}:=⟨_,rfl,rfl,rfl,_,rfl⟩
theorem aoC:∃o,(kF 18)[0]? =some o∧o.guard=none∧o.dst=some 89∧o.op= .move (.tmp 3):=⟨_,rfl,rfl,rfl,rfl⟩
theorem aoD:∃o,(kF 18)[1]? =some o∧o.guard=none∧o.dst=some 90∧∃ty,o.op= .call {callee:= .value (.func 14),args:= #[.tmp 89],argTypes:=ty}:=⟨_,rfl,rfl,rfl,_,rfl⟩
abbrev SE (w0:World)(may:Nat→Prop)(ow:Ow)(m:Mem)(lo hi:Nat):Nat→Prop:=fun b=>(ay ow m b∧¬may b∧w0.heap.size≤b)∧lo≤b∧b<hi
section
variable {n i:Int} {ops:zX} {st st2:cO} {R:b_} {ys:List dJ} {zs:List bZ} {may:Nat→Prop} {w0 w:World} {ow:Ow} {a:Act} {Q:Exit→Act→World→Prop}
noncomputable def aiw:Code→Code:=fun r=> .seq (rM 17) (.seq (rM 18) (.seq (rM 19) (.seq (.seq (rM 20) (.cond (.tmp 97) (.seq (rM 21) .ret) .skip)) r)))
theorem mpN {m:Mem}{rows:List Row}(h:m.rows=rows.map some)(hr:rows.all (fun r=>r.mp?.isNone)=true):∀i row,m.row? i=some row→row.mp? =none:=fun i row e=>by
 simp only[Mem.row?,h,List.getElem?_map]at e
 cases hx:rows[i]? with
 |none=>rw[hx]at e;cases e
 |some r=>
  rw[hx]at e
  obtain rfl:r=row:=Option.some.inj e
  have:=List.all_eq_true.1 hr r (List.mem_of_getElem? hx)
  simpa using this
theorem aej {r:Code}(D:StD st ys zs)(hL:dU.F () ((ys,(st.1.1,zs)),())=some (some st2,(0,()),()))(I:aK jW 184 may (M8 n i ops st R) a w ow)(O:Old w0 w ow (M8 n i ops st R).m)
  (hQ:∀may' a' w' aO (lo mid hi:Nat) v1 v2 gs cs ps qs u1 u2 gs' cs' ps' qs',aK jW 184 may' (N4 st st2 R v1 v2 u1 u2) a' w' aO→Old w0 w' aO (N4 st st2 R v1 v2 u1 u2).m→wG w' (SE w0 may' aO (N4 st st2 R v1 v2 u1 u2).m lo mid) gs cs ps qs ys zs v1 v2→
   wG w' (SE w0 may' aO (N4 st st2 R v1 v2 u1 u2).m mid hi) gs' cs' ps' qs' ys zs u1 u2→r.wp Tryz.prog Q a' w'):(aiw r).wp Tryz.prog Q a w:=by
 obtain⟨BH,I0,K0⟩:=I.dS (p0 n i ops st R)
 refine wp_seq (aeg D I0 (O.kp K0) asR asV asY aoA aoB (by decide) (by decide) (by simp) rfl rfl rfl rfl (mpN (rows:=[xK st.1.2,xM st.2.2]) rfl rfl) (by intro q hq;simp at hq;rcases hq with rfl|rfl<;>rfl) (fun v1 v2=>p17 st R v1 v2)
  fun lo1 yx v1 v2 gs cs ps qs a1 w1 jZ hl1 hh1 I1 O1 K1 A1=> ?_)
 refine wp_seq (aeg D I1 O1 asT asW asZ aoC aoD (by decide) (by decide) (by simp) rfl rfl rfl rfl (mpN (rows:=[xK st.1.2,xM st.2.2]) rfl rfl) (by intro q hq;simp at hq;rcases hq with rfl|rfl|rfl<;>rfl) (fun u1 u2=>p18 st R v1 v2 u1 u2)
  fun lo2 JI u1 u2 gs' cs' ps' qs' a2 w2 gV hl2 hh2 I2 O2 K2 A2=> ?_)
 have axT:w0.heap.size≤lo1:=Nat.le_trans O.size hl1
 have A1':wG w2 (fun b=>lo1≤b∧b<yx∧b<lo2∧ay gV (N2 st R v1 v2 u1 u2).m b) gs cs ps qs ys zs v1 v2:=A1.aW (fun b hb h=>(K2.stay b hb h.2.2).2.2) fun b hb h=>⟨h.1,h.2.1,Nat.lt_of_lt_of_le hb hl2,(K2.stay b hb h.2.2).1⟩
 refine wp_seq ?_
 rw[asU]
 refine wp_region ?_
 rw[asX]
 refine kL _ _ _ _ ?_
 refine ni aH kT I2 (by rw[aoz];decide) (asP st R v1 v2 u1 u2) fun a3 w3 qA I3 K3=> ?_
 have A2':wG w3 (fun b=>lo2≤b∧b<JI∧ay qA (N2 st R v1 v2 u1 u2).m b) gs' cs' ps' qs' ys zs u1 u2:=A2.aW (fun b hb h=>(K3.stay b hb h.2.2).2.2) fun b hb h=>⟨h.1,h.2.1,(K3.stay b hb h.2.2).1⟩
 have h92:aS w3 _ _ qA _ (.one (.agg (Nl u1 u2 st.1.1))) (a3.tmps.getD 92 undef):=I3.fr 92
 obtain⟨us,hus,hF⟩:=h92
 have I3':aK jW 184 (GH (GH may lo1 yx) lo2 JI) ⟨(N2 st R v1 v2 u1 u2).fr++[(92,.one (.agg [.val false (.sl 68 fD) ys,.val true (.int .i64) st.1.1,.val false (.sl 70 fU) zs]))],(N2 st R v1 v2 u1 u2).m⟩ a3 w3 qA:=by
  refine I3.reset ⟨I3.fr 3,I3.fr 5,I3.fr 11,I3.fr 12,⟨us,hus,?_⟩,trivial⟩
  match us,hF with
  |[x1,x2,x3],hF=>
   obtain⟨⟨e1,_⟩,e2,⟨e3,_⟩,_⟩:=hF
   obtain⟨d1,d2⟩:=A2'.data
   have lU:∀b,(lo2≤b∧b<JI∧ay qA (N2 st R v1 v2 u1 u2).m b)→o7 (ay qA (N2 st R v1 v2 u1 u2).m) (GH (GH may lo1 yx) lo2 JI) false b:=fun b h=>⟨h.2.2,fun e=>by cases e⟩
   refine⟨?_,e2,?_,trivial⟩
   ·show Rd w3 _ (.sl 68 fD) ys [x1]
    rw[e1]
    exact d1.mono lU
   ·show Rd w3 _ (.sl 70 fU) zs [x3]
    rw[e3]
    exact d2.mono lU
 refine ni aH kT I3' (by rw[aoz];decide) ((asQ st.1.1 st R v1 v2 u1 u2 ys zs).trans (by rw[hL];rfl)) fun a4 w4 ED I4 K4=> ?_
 refine wp_seq (dO aH kT mix I4 (p20 st st2 R v1 v2 u1 u2) (fun s' a5 w5 Nc e5 I5 K5=> ?_) (fun _ _ _ _ _ e=>by cases e) (fun _ _ _ _ e=>by cases e))
 cases e5
 have K35:=K4.trans K5
 have K25:=K3.trans K35
 have O5:=O2.kp K25
 refine hQ _ a5 w5 Nc lo1 lo2 JI v1 v2 gs cs ps qs u1 u2 gs' cs' ps' qs' I5 O5 (A1'.aW (fun b hb h=>(K25.stay b hb h.2.2.2).2.2) fun b hb h=>⟨⟨(K25.stay b hb h.2.2.2).1,fun hm=> ?_,by omega⟩,h.1,h.2.2.1⟩) (A2'.aW (fun b hb h=>(K35.stay b hb h.2.2).2.2) fun b hb h=>⟨⟨(K35.stay b hb h.2.2).1,fun hm=> ?_,?_⟩,h.1,h.2.1⟩)
 ·have:=hm.1.2
  have:=h.1
  have:=h.2.1
  omega
 ·have:=hm.2
  have:=h.1
  have:=h.2.1
  omega
 ·have:=O1.size
  have:=h.1
  omega
end
end Go.Fx.Tryz
