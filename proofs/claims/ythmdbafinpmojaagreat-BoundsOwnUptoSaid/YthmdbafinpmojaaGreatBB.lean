import Derived.Test.YthmdbafinpmojaaGreatBA
import Derived.Test.YthmdbafinpmojaaGreatWA
import Derived.Test.YthmdbafinpmojaaGreatW08d
import Derived.Test.YthmdbafinpmojaaGreatVA
set_option linter.unusedVariables false
set_option linter.unusedSimpArgs false
namespace Go.Fx.Tryz
open Go Go.Proofs Go.Fx Go.RowKit
set_option maxRecDepth 100000
abbrev aoF:K:= .prod .hd (.prod (.int .i64) .hd)
abbrev JE:Type:=Value×(Int×Value)
abbrev aoG:JE:=(.slice none 0 0,((0:Int),.slice none 0 0))
abbrev aix (xs:List JE):Row:=⟨32,aoF,true,true,xs⟩
abbrev rG (gs:List fB.dJ):Row:=⟨68,fB.fD,true,true,gs⟩
abbrev rK (cs:List fB.bZ):Row:=⟨70,fB.fU,true,true,cs⟩
abbrev RU:List (Nat×CS):=[YU,csM,ahh,(100,.lf (.o 32 aoF true)),(101,SC),(102,SC)]
abbrev cs6:List (Nat×CS):=RU++[Oi 15]
section
variable (n k j lv:Int) (st st2:cO) (R:b_) (v1 v2 u1 u2:Value) (xs:List JE) (x:JE) (gs:List fB.dJ) (cs:List fB.bZ) (b:Bool) (vs:List Value)
abbrev gN5:List (Nat×SV):=[(3,.box 0 0),(5,.box 1 0),(13,.box 2 0),(100,.one (.lf (.own 0))),(101,ci .i64 n),(102,ci .i64 k)]
abbrev N5:S:=⟨gN5 n k,⟨[some (aix xs),some (xK st.1.2),some (xM st.2.2),some (xK st2.1.2),some (xM st2.2.2)],[Vh st 1 2,bxM R,Vh st2 3 4]⟩⟩
theorem p22:xH jW Yh.T 184 9 (rM 22) (N4 st st2 R v1 v2 u1 u2) RU=some (.nrm (N5 2 0 st st2 R [(v1,(st.1.1,v2)),(u1,(st.1.1,u2))])):=by kernel_rfl
theorem as2:xH jW Yh.T 184 9 (rM 23) (N5 n k st st2 R xs) (RU++[(103,SC)])=some (.nrm ⟨gN5 n k++[(103,cb (decide (k<n)))],(N5 n k st st2 R xs).m⟩):=by kernel_rfl
theorem as3:xH jW Yh.T 184 9 (.cond (.tmp 103) .skip (.exit 2)) ⟨gN5 n k++[(103,cb b)],(N5 n k st st2 R xs).m⟩ RU=bif b then some (.nrm (N5 n k st st2 R xs))else some (.ext 2 (N5 n k st st2 R xs)):=by kernel_rfl
theorem p35:xH jW Yh.T 184 9 (rM 35) (N5 n k st st2 R xs) RU=some (.nrm (N5 n (IntKind.i64.wrap (k+1)) st st2 R xs)):=by kernel_rfl
abbrev N6:S:=⟨gN5 n k++[(15,.box 3 0)],⟨(N5 n k st st2 R xs).m.rows,(N5 n k st st2 R xs).m.boxes++[ahg x.1 x.2.2 x.2.1]⟩⟩
theorem p24:xH jW Yh.T 184 9 (rM 24) (N5 n k st st2 R xs) cs6=bif decide (0≤k)&&decide (k<(List.length xs:Int))then some (.nrm (N6 n k st st2 R xs (List.getD xs k.toNat aoG)))else none:=by kernel_rfl
theorem as4:bJ jW Yh.T 184 (kF 25) [0] (N6 n k st st2 R xs x) (dS (cs6++[(106,.agg [.v true,.v true,.v true])]))=some ⟨(N6 n k st st2 R xs x).fr++[(106,.one (.agg (Nl x.1 x.2.2 x.2.1)))],(N6 n k st st2 R xs x).m⟩:=by kernel_rfl
abbrev N7:S:=⟨gN5 n k++[(15,.box 3 0),(107,.one (.lf (.own 1)))],⟨[some (aix xs),some (YV vs),some (xK st.1.2),some (xM st.2.2),some (xK st2.1.2),some (xM st2.2.2)],[Vh st 2 3,bxM R,Vh st2 4 5,ahg x.1 x.2.2 x.2.1]⟩⟩
theorem as5:bJ jW fB.T 184 (kF 25) [1] ⟨(N6 n k st st2 R xs x).fr++[(106,.one (.agg [.val false (.sl 68 fB.fD) gs,.val true (.int .i64) lv,.val false (.sl 70 fB.fU) cs]))],(N6 n k st st2 R xs x).m⟩ (dS (cs6++[(107,.lf (.o 37 .hd true))]))=
  (fB.eY.F ((gs,(lv,cs)),())).bind fun z=>some (N7 n k st st2 R xs x z.1):=by kernel_rfl
theorem as6:dS cs6 (N7 n k st st2 R xs x vs)=some (N6 n k st st2 R xs x):=by kernel_rfl
theorem as7:bJ jW T 184 (kF 25) [3] ⟨(N6 n k st st2 R xs x).fr++[(108,cb true)],(N6 n k st st2 R xs x).m⟩ (dS (cs6++[(109,SC)]))=some ⟨(N6 n k st st2 R xs x).fr++[(109,cb false)],(N6 n k st st2 R xs x).m⟩:=by kernel_rfl
theorem as8:xH jW T 184 9 (.cond (.tmp 109) (.seq (rM 26) .ret) .skip) ⟨(N6 n k st st2 R xs x).fr++[(109,cb false)],(N6 n k st st2 R xs x).m⟩ cs6=some (.nrm (N6 n k st st2 R xs x)):=by kernel_rfl
theorem p27:xH jW T 184 9 (rM 27) (N6 n k st st2 R xs x) (cs6++[(16,SC)])=some (.nrm ⟨(N6 n k st st2 R xs x).fr++[(16,ci .i64 0)],(N6 n k st st2 R xs x).m⟩):=by kernel_rfl
abbrev akO:List (Nat×CS):=RU++[(15,.box 32 [.o 68 fB.fD true,.v true,.v true]),(16,SC)]
abbrev N8:S:=⟨gN5 n k++[(15,.box 3 0),(16,ci .i64 j)],⟨(N5 n k st st2 R xs).m.rows++[some (rG gs)],(N5 n k st st2 R xs).m.boxes++[some ⟨32,[.own 5,.val true (.int .i64) lv,.val true .hd v2]⟩]⟩⟩
theorem p28:xH jW fB.T 184 9 (.seq (rM 28) (.cond (.tmp 114) .skip (.exit 4))) (N8 n k j lv st st2 R v2 xs gs) akO=bif decide (j<(List.length gs:Int))then some (.nrm (N8 n k j lv st st2 R v2 xs gs))else some (.ext 4 (N8 n k j lv st st2 R v2 xs gs)):=by kernel_rfl
abbrev flip (x:fB.dJ):fB.dJ:=((!x.1.1,x.1.2),x.2)
theorem p30:xH jW fB.T 184 9 (rM 30) (N8 n k j lv st st2 R v2 xs gs) akO=bif decide (0≤j)&&decide (j<(List.length gs:Int))then(bif decide (0≤j)&&decide (j<(List.length gs:Int))then some (.nrm (N8 n k j lv st st2 R v2 xs (gs.set j.toNat (flip (List.getD gs j.toNat fB.aA)))))else none)else none:=by kernel_rfl
theorem p29:xH jW fB.T 184 9 (rM 29) (N8 n k j lv st st2 R v2 xs gs) akO=some (.nrm (N8 n k (IntKind.i64.wrap (j+1)) lv st st2 R v2 xs gs)):=by kernel_rfl
abbrev as9:List (Nat×CS):=RU++[(15,.box 32 [.v true,.v true,.v true]),(17,SC)]
theorem p31:xH jW fB.T 184 9 (rM 31) (N6 n k st st2 R xs x) as9=some (.nrm ⟨(N6 n k st st2 R xs x).fr++[(17,ci .i64 0)],(N6 n k st st2 R xs x).m⟩):=by kernel_rfl
abbrev aek:List (Nat×CS):=RU++[(15,.box 32 [.v true,.v true,.o 70 fB.fU true]),(17,SC)]
abbrev N9:S:=⟨gN5 n k++[(15,.box 3 0),(17,ci .i64 j)],⟨(N5 n k st st2 R xs).m.rows++[some (rK cs)],(N5 n k st st2 R xs).m.boxes++[some ⟨32,[.val true .hd v1,.val true (.int .i64) lv,.own 5]⟩]⟩⟩
theorem p32:xH jW fB.T 184 9 (.seq (rM 32) (.cond (.tmp 135) .skip (.exit 6))) (N9 n k j lv st st2 R v1 xs cs) aek=bif decide (j<(List.length cs:Int))then some (.nrm (N9 n k j lv st st2 R v1 xs cs))else some (.ext 6 (N9 n k j lv st st2 R v1 xs cs)):=by kernel_rfl
abbrev nine (x:fB.bZ):fB.bZ:=((-9:Int),x.2)
theorem p34:xH jW fB.T 184 9 (rM 34) (N9 n k j lv st st2 R v1 xs cs) aek=bif decide (0≤j)&&decide (j<(List.length cs:Int))then some (.nrm (N9 n k j lv st st2 R v1 xs (cs.set j.toNat (nine (List.getD cs j.toNat fB.dN)))))else none:=by kernel_rfl
theorem p33:xH jW fB.T 184 9 (rM 33) (N9 n k j lv st st2 R v1 xs cs) aek=some (.nrm (N9 n k (IntKind.i64.wrap (j+1)) lv st st2 R v1 xs cs)):=by kernel_rfl
theorem ata:dS RU (N9 n k j lv st st2 R v1 xs cs)=some (N5 n k st st2 R xs):=by kernel_rfl
end
set_option maxRecDepth 100000
noncomputable def YW:Code:= .block 4 (.loop (.seq (.seq (rM 28) (.cond (.tmp 114) .skip (.exit 4))) (.seq (.block 5 (rM 30)) (rM 29))))
noncomputable def Vk:Code:= .block 6 (.loop (.seq (.seq (rM 32) (.cond (.tmp 135) .skip (.exit 6))) (.seq (.block 7 (rM 34)) (rM 33))))
section
variable {n k lv:Int} {st st2:cO} {R:b_} {v1 v2:Value} {xs:List JE} {gs:List fB.dJ} {cs:List fB.bZ} {may:Nat→Prop} {w:World} {ow:Ow} {a:Act} {Q:Exit→Act→World→Prop}
theorem aoH (hl:gs.length<1000000000)(I:aK jW 184 may (N8 n k ((0:Nat):Int) lv st st2 R v2 xs gs) a w ow)
  (hQ:∀j gs' a' w' aO,aK jW 184 may (N8 n k j lv st st2 R v2 xs gs') a' w' aO→Kp may w ow (N8 n k j lv st st2 R v2 xs gs).m w' aO (N8 n k j lv st st2 R v2 xs gs').m→Q .normal a' w'):YW.wp Tryz.prog Q a w:=by
 refine wp_block (wp_loop (fun a' w'=>∃(j:Nat) (gs':List fB.dJ) (aO:Ow),gs'.length=gs.length∧j≤gs.length∧aK jW 184 may (N8 n k (j:Int) lv st st2 R v2 xs gs') a' w' aO∧Kp may w ow (N8 n k (j:Int) lv st st2 R v2 xs gs).m w' aO (N8 n k (j:Int) lv st st2 R v2 xs gs').m) (fun a' _=>gs.length-bV 16 a') ⟨0,gs,ow,rfl,Nat.zero_le _,I,Kp.refl _ _ _ _⟩ ?_)
 rintro a1 w1 ⟨j,gs1,jZ,Nv,hj,I1,K1⟩
 have sK:bV 16 a1=j:=I1.bV rfl
 have e8:=p28 n k (j:Int) lv st st2 R v2 xs gs1
 by_cases dX:j<gs.length
 ·rw [decide_eq_true (by omega:(j:Int)<(List.length gs1:Int))]at e8
  refine wp_seq (dO fB.aH kT mix I1 e8 (fun s' a2 w2 gV e I2 K2=> ?_) (fun _ _ _ _ _ e=>by cases e) (fun _ _ _ _ e=>by cases e))
  cases e
  have e9:=p30 n k (j:Int) lv st st2 R v2 xs gs1
  have hc:(decide ((0:Int)≤(j:Int))&&decide ((j:Int)<(List.length gs1:Int)))=true:=by simp[Nv,dX]
  rw[hc]at e9
  refine wp_seq (wp_block (dO fB.aH kT mix I2 e9 (fun s' a3 w3 qA e I3 K3=> ?_) (fun _ _ _ _ _ e=>by cases e) (fun _ _ _ _ e=>by cases e)))
  cases e
  have e10:=fun gs=>p29 n k (j:Int) lv st st2 R v2 xs gs
  rw[tu (show j<4611686018427387904 by omega)]at e10
  refine dO fB.aH kT mix I3 (e10 _) (fun s' a6 w6 Aq e I6 K6=> ?_) (fun _ _ _ _ _ e=>by cases e) (fun _ _ _ _ e=>by cases e)
  cases e
  refine⟨⟨j+1,_,Aq,by simp[Nv],dX,I6,((K1.trans K2).trans K3).trans K6⟩,?_⟩
  have h:bV 16 a6=j+1:=I6.bV rfl
  show gs.length-bV 16 a6<gs.length-bV 16 a1
  omega
 ·rw [decide_eq_false (by omega:¬(j:Int)<(List.length gs1:Int))]at e8
  refine wp_seq (dO fB.aH kT mix I1 e8 (fun _ _ _ _ e=>by cases e) (fun j' s' a3 w3 qA e I3 K3=> ?_) (fun _ _ _ _ e=>by cases e))
  cases e
  simp only[Exit.then,Exit.inBlock,if_true]
  exact hQ _ _ _ _ _ I3 (K1.trans K3)
theorem aoI (hl:cs.length<1000000000)(I:aK jW 184 may (N9 n k ((0:Nat):Int) lv st st2 R v1 xs cs) a w ow)
  (hQ:∀j cs' a' w' aO,aK jW 184 may (N9 n k j lv st st2 R v1 xs cs') a' w' aO→Kp may w ow (N9 n k j lv st st2 R v1 xs cs).m w' aO (N9 n k j lv st st2 R v1 xs cs').m→Q .normal a' w'):Vk.wp Tryz.prog Q a w:=by
 refine wp_block (wp_loop (fun a' w'=>∃(j:Nat) (cs':List fB.bZ) (aO:Ow),cs'.length=cs.length∧j≤cs.length∧aK jW 184 may (N9 n k (j:Int) lv st st2 R v1 xs cs') a' w' aO∧Kp may w ow (N9 n k (j:Int) lv st st2 R v1 xs cs).m w' aO (N9 n k (j:Int) lv st st2 R v1 xs cs').m) (fun a' _=>cs.length-bV 17 a') ⟨0,cs,ow,rfl,Nat.zero_le _,I,Kp.refl _ _ _ _⟩ ?_)
 rintro a1 w1 ⟨j,cs1,jZ,Nv,hj,I1,K1⟩
 have sK:bV 17 a1=j:=I1.bV rfl
 have e8:=p32 n k (j:Int) lv st st2 R v1 xs cs1
 by_cases dX:j<cs.length
 ·rw [decide_eq_true (by omega:(j:Int)<(List.length cs1:Int))]at e8
  refine wp_seq (dO fB.aH kT mix I1 e8 (fun s' a2 w2 gV e I2 K2=> ?_) (fun _ _ _ _ _ e=>by cases e) (fun _ _ _ _ e=>by cases e))
  cases e
  have e9:=p34 n k (j:Int) lv st st2 R v1 xs cs1
  have hc:(decide ((0:Int)≤(j:Int))&&decide ((j:Int)<(List.length cs1:Int)))=true:=by simp[Nv,dX]
  rw[hc]at e9
  refine wp_seq (wp_block (dO fB.aH kT mix I2 e9 (fun s' a3 w3 qA e I3 K3=> ?_) (fun _ _ _ _ _ e=>by cases e) (fun _ _ _ _ e=>by cases e)))
  cases e
  have e10:=fun cs=>p33 n k (j:Int) lv st st2 R v1 xs cs
  rw[tu (show j<4611686018427387904 by omega)]at e10
  refine dO fB.aH kT mix I3 (e10 _) (fun s' a6 w6 Aq e I6 K6=> ?_) (fun _ _ _ _ _ e=>by cases e) (fun _ _ _ _ e=>by cases e)
  cases e
  refine⟨⟨j+1,_,Aq,by simp[Nv],dX,I6,((K1.trans K2).trans K3).trans K6⟩,?_⟩
  have h:bV 17 a6=j+1:=I6.bV rfl
  show cs.length-bV 17 a6<cs.length-bV 17 a1
  omega
 ·rw [decide_eq_false (by omega:¬(j:Int)<(List.length cs1:Int))]at e8
  refine wp_seq (dO fB.aH kT mix I1 e8 (fun _ _ _ _ e=>by cases e) (fun j' s' a3 w3 qA e I3 K3=> ?_) (fun _ _ _ _ e=>by cases e))
  cases e
  simp only[Exit.then,Exit.inBlock,if_true]
  exact hQ _ _ _ _ _ I3 (K1.trans K3)
end
theorem atb (n k j lv:Int)(st st2:cO)(R:b_)(v2:Value)(xs:List JE)(gs:List fB.dJ)(rv:List Value):dS cs6 (hpS (fun i=>Nat.beq i 5) rv (N8 n k j lv st st2 R v2 xs gs))=some (N6 n k st st2 R xs (List.getD rv 5 dV,(lv,v2))):=by kernel_rfl
theorem atc:rM 25= .region 25 (kF 25) false:=by kernel_rfl
theorem atd:List.range (kF 25).size=[0]++([1]++2::[3]):=by kernel_rfl
theorem akP:(kF 25).size=4:=by kernel_rfl
theorem aoJ:∃o,(kF 25)[2]? =some o∧o.guard=none∧o.dst=some 108∧∃ty,o.op= .call {callee:= .value (.func 19),args:= #[.tmp 107],argTypes:=ty}:=⟨_,rfl,rfl,rfl,_,rfl⟩
set_option maxRecDepth 100000
noncomputable def ael:Code:= .seq (rM 24) (.seq (.seq (rM 25) (.cond (.tmp 109) (.seq (rM 26) .ret) .skip)) (.seq (.seq (rM 27) YW) (.seq (rM 31) Vk)))
section
variable {n k lv:Int} {st st2:cO} {R:b_} {xs:List JE} {x:JE} {vs:List Value}
theorem akQ:∀j row,(N7 n k st st2 R xs x vs).m.row? j=some row→row.fr=true∧row.mp? =none
 |0,row,h=>by cases h;exact⟨rfl,rfl⟩
 |1,row,h=>by cases h;exact⟨rfl,rfl⟩
 |2,row,h=>by cases h;exact⟨rfl,rfl⟩
 |3,row,h=>by cases h;exact⟨rfl,rfl⟩
 |4,row,h=>by cases h;exact⟨rfl,rfl⟩
 |5,row,h=>by cases h;exact⟨rfl,rfl⟩
 |j+6,row,h=>by simp[Mem.row?]at h
theorem ahi:∀j bx,(N7 n k st st2 R xs x vs).m.box? j=some bx→bx.ls.all frL=true
 |0,bx,h=>by cases h;rfl
 |1,bx,h=>by cases h;rfl
 |2,bx,h=>by cases h;rfl
 |3,bx,h=>by cases h;rfl
 |j+4,bx,h=>by simp[Mem.box?]at h
theorem aem:∀j row,(N6 n k st st2 R xs x).m.row? j=some row→row.fr=true∧row.mp? =none
 |0,row,h=>by cases h;exact⟨rfl,rfl⟩
 |1,row,h=>by cases h;exact⟨rfl,rfl⟩
 |2,row,h=>by cases h;exact⟨rfl,rfl⟩
 |3,row,h=>by cases h;exact⟨rfl,rfl⟩
 |4,row,h=>by cases h;exact⟨rfl,rfl⟩
 |j+5,row,h=>by simp[Mem.row?]at h
theorem YX:∀j bx,(N6 n k st st2 R xs x).m.box? j=some bx→bx.ls.all frL=true
 |0,bx,h=>by cases h;rfl
 |1,bx,h=>by cases h;rfl
 |2,bx,h=>by cases h;rfl
 |3,bx,h=>by cases h;rfl
 |j+4,bx,h=>by simp[Mem.box?]at h
end
section
variable {n k lv:Int} {st st2:cO} {R:b_} {v1 v2:Value} {xs:List JE} {gs:List fB.dJ} {cs:List fB.bZ} {ps qs:List (Value×List Int)} {ys:List dJ} {zs:List bZ} {may:Nat→Prop} {w0 w:World} {ow:Ow} {a:Act} {Q:Exit→Act→World→Prop} {lo hi:Nat}
theorem ahj {Q:Act→World→Prop}{QX:Exit→Act→World→Prop}(I:aK jW 184 may (N6 n k st st2 R xs (v1,(lv,v2))) a w ow)(O:Old w0 w ow (N6 n k st st2 R xs (v1,(lv,v2))).m)(A:wG w (SE w0 may ow (N6 n k st st2 R xs (v1,(lv,v2))).m lo hi) gs cs ps qs ys zs v1 v2)
  (hF:fB.eY.F ((gs,(lv,cs)),())=some ((ps++qs).map (·.1),())) (hb:∀p∈ps++qs,p.2.length<35184372087000) (hl:(ps++qs).length<5864062014000)
  (hQ:∀a' w' aO,aK jW 184 may (N6 n k st st2 R xs (v1,(lv,v2))) a' w' aO→Old w0 w' aO (N6 n k st st2 R xs (v1,(lv,v2))).m→vw (sU ((ps++qs).map (·.1))) w ow (N6 n k st st2 R xs (v1,(lv,v2))).m w' aO (N6 n k st st2 R xs (v1,(lv,v2))).m→Q a' w') (hQX:∀a w,Q a w→QX .normal a w):
  (.seq (rM 25) (.cond (.tmp 109) (.seq (rM 26) .ret) .skip):Code).wp Tryz.prog QX a w:=by
 refine wp_seq ?_
 rw[atc]
 refine wp_region ?_
 rw[atd]
 refine kL _ _ _ _ ?_
 refine ni Yh.aH kT I (by rw[akP];decide) (as4 n k st st2 R xs (v1,(lv,v2))) fun a2 w2 gV I2 K2=> ?_
 have A2:wG w2 (SE w0 may gV (N6 n k st st2 R xs (v1,(lv,v2))).m lo hi) gs cs ps qs ys zs v1 v2:=A.aW (fun b hb h=>(K2.stay b hb h.1.1).2.2) fun b hb h=>⟨⟨(K2.stay b hb h.1.1).1,h.1.2⟩,h.2⟩
 have ate:aS w2 _ _ gV _ (.one (.agg (Nl v1 v2 lv))) (a2.tmps.getD 106 undef):=I2.fr 106
 obtain⟨us,hus,hFF⟩:=ate
 have I2':aK jW 184 may ⟨(N6 n k st st2 R xs (v1,(lv,v2))).fr++[(106,.one (.agg [.val false (.sl 68 fB.fD) gs,.val true (.int .i64) lv,.val false (.sl 70 fB.fU) cs]))],(N6 n k st st2 R xs (v1,(lv,v2))).m⟩ a2 w2 gV:=by
  refine I2.reset ⟨I2.fr 3,I2.fr 5,I2.fr 13,I2.fr 100,I2.fr 101,I2.fr 102,I2.fr 15,⟨us,hus,?_⟩,trivial⟩
  match us,hFF with
  |[x1,x2,x3],hFF=>
   obtain⟨⟨e1,_⟩,e2,⟨e3,_⟩,_⟩:=hFF
   obtain⟨c1,r1,d1⟩:=A2.Bj
   obtain⟨c2,r2,d2⟩:=A2.aed
   refine⟨?_,e2,?_,trivial⟩
   ·show Rd w2 _ (.sl 68 fB.fD) gs [x1]
    rw[e1]
    exact oN r1 (d1 _) fun b e=>⟨(A2.Oh b e).1.1.1,fun e=>by cases e⟩
   ·show Rd w2 _ (.sl 70 fB.fU) cs [x3]
    rw[e3]
    exact oN r2 (d2 _) fun b e=>⟨(A2.Vj b e).1.1,fun e=>by cases e⟩
 refine kL [1] [2,3] _ _ ?_
 refine ni fB.aH kT I2' (by rw[akP];decide) ((as5 n k lv st st2 R xs (v1,(lv,v2)) gs cs).trans (by rw[hF];rfl)) fun a3 w3 qA I3 K3=> ?_
 have A3:wG w3 (SE w0 may qA (N7 n k st st2 R xs (v1,(lv,v2)) ((ps++qs).map (·.1))).m lo hi) gs cs ps qs ys zs v1 v2:=A2.aW (fun b hb h=>(K3.stay b hb h.1.1).2.2) fun b hb h=>⟨⟨(K3.stay b hb h.1.1).1,h.1.2⟩,h.2⟩
 obtain⟨o,ho,RI,RJ,ty,NR⟩:=aoJ
 refine o9 ho RI (oO NR ⟨_,Tryz.func19,rfl,rfl⟩ rfl rfl ?_)
 show Calls Tryz.prog 19 #[a3.tmps.getD 107 undef] w3 _
 refine(Iy (ps:=ps++qs) I3 (t:=107) (r:=1) rfl rfl (A3.held.aW (fun _ _ _=>rfl) fun b _ h=>⟨h.1.1.1,h.1.1.2.1⟩) hb hl Cc akQ ahi (by intro q hq;simp at hq;rcases hq with rfl|rfl|rfl|rfl|rfl|rfl|rfl|rfl<;>rfl)).mono fun e' w4 ⟨he,X,hS⟩=> ?_
 refine⟨_,he,?_⟩
 rw[RJ]
 have S4:AV ((N7 n k st st2 R xs (v1,(lv,v2)) ((ps++qs).map (·.1))).fr.map (·.1)) a3 (a3.put (some 108) (.bool true)):=(AV.refl _ a3).put _ (by simp)
 have g4:(a3.put (some 108) (.bool true)).tmps.getD 108 undef= .bool true:=lD (by rw[I3.size];decide)
 have I4:=hS (a3.put (some 108) (.bool true)) (fun t ht=>S4.get t ht) S4.size S4.defers
 generalize a3.put (some 108) (.bool true)=a4 at I4 g4
 obtain⟨Nc,I5,K5⟩:=I4.dS (as6 n k st st2 R xs (v1,(lv,v2)) _)
 have O5:Old w0 w4 Nc (N6 n k st st2 R xs (v1,(lv,v2))).m:=(RQ ((O.kp K2).kp K3) X fun b hb v hv e=>by
  obtain⟨p,hp,rfl⟩:=List.mem_map.1 hv
  have:=(A3.held.new p hp b e).1.1.2.2
  omega).kp K5
 have F5:vw (sU ((ps++qs).map (·.1))) w ow (N6 n k st st2 R xs (v1,(lv,v2))).m w4 Nc (N6 n k st st2 R xs (v1,(lv,v2))).m:=
  vw.kp (((vw.of K2).kp K3).trans fun b h1 h2 h3=>⟨h2,Nat.lt_of_lt_of_le h1 X.size,X.block b h1 h3⟩) K5
 have I5':aK jW 184 may ⟨(N6 n k st st2 R xs (v1,(lv,v2))).fr++[(108,cb true)],(N6 n k st st2 R xs (v1,(lv,v2))).m⟩ a4 w4 Nc:=I5.more ⟨by show[a4.tmps.getD 108 undef]=[Value.bool true];rw[g4],trivial⟩
 refine ni aH kT I5' (by rw[akP];decide) (as7 n k st st2 R xs (v1,(lv,v2))) fun a6 w6 Aq I6 K6=> ?_
 refine dO aH kT mix I6 (as8 n k st st2 R xs (v1,(lv,v2))) (fun s' a7 w7 ow7 e7 I7 K7=> ?_) (fun _ _ _ _ _ e=>by cases e) (fun _ _ _ _ e=>by cases e)
 cases e7
 have K47:=K6.trans K7
 exact hQX _ _ (hQ _ _ _ I7 (O5.kp K47) (F5.kp K47))
end
set_option maxRecDepth 100000
section
variable {n k lv:Int} {st st2:cO} {R:b_} {v1 v2:Value} {xs:List JE} {gs:List fB.dJ} {cs:List fB.bZ} {ps qs:List (Value×List Int)} {ys:List dJ} {zs:List bZ} {may:Nat→Prop} {w0 w w':World} {ow aO:Ow} {m m':Mem} {a:Act} {Q:Exit→Act→World→Prop} {lo hi:Nat}
theorem Vl (O:Old w0 w ow m)(h:∀b,b<w0.heap.size→ay ow m b→ay aO m' b):Old w0 w aO m':=⟨O.size,fun b hb=>⟨h b hb (O.at_ b hb).1,(O.at_ b hb).2⟩,O.os,O.tape,O.output⟩
theorem Xv {c1:List Value}(I:aK jW 184 may ⟨(N6 n k st st2 R xs (v1,(lv,v2))).fr++[(16,ci .i64 0)],(N6 n k st st2 R xs (v1,(lv,v2))).m⟩ a w ow)(O:Old w0 w ow (N6 n k st st2 R xs (v1,(lv,v2))).m)(sl1:∃A n c,v1=Value.slice A n c)(r1:w.ownsRow 0 68 16 v1 gs.length c1)(d1:∀ok,aY w ok fB.fD gs c1)
  (n1:∀b,v1.ownBlock=some b→(ay ow (N6 n k st st2 R xs (v1,(lv,v2))).m b∧¬may b)∧w0.heap.size≤b) (Nv:gs.length<1000000000)
  (hQ:∀u a' w' aO,aK jW 184 (fun b=>may b∨v1.ownBlock=some b) (N6 n k st st2 R xs (u,(lv,v2))) a' w' aO→Old w0 w' aO (N6 n k st st2 R xs (u,(lv,v2))).m→vw (fun b=>v1.ownBlock≠some b) w ow (N6 n k st st2 R xs (v1,(lv,v2))).m w' aO (N6 n k st st2 R xs (u,(lv,v2))).m→Q .normal a' w'):YW.wp Tryz.prog Q a w:=by
 obtain⟨I4,hk4⟩:=aK.take (row:=rG gs) (v:=v1) I Cc rfl rfl sl1 r1 d1 (fun b e=>(n1 b e).1) aem YX (by intro q hq;simp at hq;rcases hq with rfl|rfl|rfl|rfl|rfl|rfl|rfl|rfl<;>rfl)
 have rl3:ow.rv.length=5:=I.mem.lX
 have h5:(ow.rv++[v1])[5]? =some v1:=by rw[List.getElem?_append_right (by omega),rl3];rfl
 obtain⟨I5,hk5⟩:=aK.aip (ls:=[.own 5,.val true (.int .i64) lv,.val true .hd v2]) I4 (j:=3) (bx:=⟨32,Nl v1 v2 lv⟩) rfl (fun vs h=>by
  match vs,h with
  |[x1,x2,x3],h=>
   obtain⟨⟨e1,s1⟩,e2,e3,_⟩:=h
   have e1:=(List.cons.inj e1).1
   subst e1
   exact⟨⟨h5,s1⟩,e2,e3,trivial⟩)
 have I5':aK jW 184 (fun b=>may b∨v1.ownBlock=some b) (N8 n k ((0:Nat):Int) lv st st2 R v2 xs gs) a w ⟨ow.rv++[v1],ow.bb⟩:=I5
 have lk5:∀b,ay ow (N6 n k st st2 R xs (v1,(lv,v2))).m b→v1.ownBlock≠some b→ay ⟨ow.rv++[v1],ow.bb⟩ (N8 n k ((0:Nat):Int) lv st st2 R v2 xs gs).m b:=fun b h1 h2=>by
  have h3:=hk4 b h1 h2
  rw[←hk5]at h3
  exact h3
 clear I4 hk4 I5 hk5
 have O5:Old w0 w ⟨ow.rv++[v1],ow.bb⟩ (N8 n k ((0:Nat):Int) lv st st2 R v2 xs gs).m:=Vl O fun b hb h=>lk5 b h fun e=>by have:=(n1 b e).2;omega
 have F5:vw (fun b=>v1.ownBlock≠some b) w ow (N6 n k st st2 R xs (v1,(lv,v2))).m w ⟨ow.rv++[v1],ow.bb⟩ (N8 n k ((0:Nat):Int) lv st st2 R v2 xs gs).m:=fun b h1 h2 h3=>⟨lk5 b h2 h3,h1,rfl⟩
 refine aoH Nv I5' fun j gs' a6 w6 Aq I6 K6=> ?_
 obtain⟨I7,K7⟩:=I6.hp fun i=>Nat.beq i 5
 obtain⟨ow8,I8,K8⟩:=I7.dS (atb n k j lv st st2 R v2 xs gs' Aq.rv)
 have K58:=(K6.trans K7).trans K8
 exact hQ _ a6 w6 ow8 I8 (O5.kp K58) (F5.kp K58)
theorem Vm {c2:List Value}(I:aK jW 184 may ⟨(N6 n k st st2 R xs (v1,(lv,v2))).fr++[(17,ci .i64 0)],(N6 n k st st2 R xs (v1,(lv,v2))).m⟩ a w ow)(O:Old w0 w ow (N6 n k st st2 R xs (v1,(lv,v2))).m)(sl2:∃A n c,v2=Value.slice A n c)(r2:w.ownsRow 0 70 11 v2 cs.length c2)(d2:∀ok,aY w ok fB.fU cs c2)
  (n2:∀b,v2.ownBlock=some b→(ay ow (N6 n k st st2 R xs (v1,(lv,v2))).m b∧¬may b)∧w0.heap.size≤b) (Hz:cs.length<1000000000)
  (hQ:∀a' w' aO,aK jW 184 (fun b=>may b∨v2.ownBlock=some b) (N5 n k st st2 R xs) a' w' aO→Old w0 w' aO (N5 n k st st2 R xs).m→vw (fun b=>v2.ownBlock≠some b) w ow (N6 n k st st2 R xs (v1,(lv,v2))).m w' aO (N5 n k st st2 R xs).m→Q .normal a' w'):Vk.wp Tryz.prog Q a w:=by
 obtain⟨I4,hk4⟩:=aK.take (row:=rK cs) (v:=v2) I Cc rfl rfl sl2 r2 d2 (fun b e=>(n2 b e).1) aem YX (by intro q hq;simp at hq;rcases hq with rfl|rfl|rfl|rfl|rfl|rfl|rfl|rfl<;>rfl)
 have rl3:ow.rv.length=5:=I.mem.lX
 have h5:(ow.rv++[v2])[5]? =some v2:=by rw[List.getElem?_append_right (by omega),rl3];rfl
 obtain⟨I5,hk5⟩:=aK.aip (ls:=[.val true .hd v1,.val true (.int .i64) lv,.own 5]) I4 (j:=3) (bx:=⟨32,Nl v1 v2 lv⟩) rfl (fun vs h=>by
  match vs,h with
  |[x1,x2,x3],h=>
   obtain⟨e1,e2,⟨e3,s3⟩,_⟩:=h
   have e3:=(List.cons.inj e3).1
   subst e3
   exact⟨e1,e2,⟨h5,s3⟩,trivial⟩)
 have I5':aK jW 184 (fun b=>may b∨v2.ownBlock=some b) (N9 n k ((0:Nat):Int) lv st st2 R v1 xs cs) a w ⟨ow.rv++[v2],ow.bb⟩:=I5
 have lk5:∀b,ay ow (N6 n k st st2 R xs (v1,(lv,v2))).m b→v2.ownBlock≠some b→ay ⟨ow.rv++[v2],ow.bb⟩ (N9 n k ((0:Nat):Int) lv st st2 R v1 xs cs).m b:=fun b h1 h2=>by
  have h3:=hk4 b h1 h2
  rw[←hk5]at h3
  exact h3
 clear I4 hk4 I5 hk5
 have O5:Old w0 w ⟨ow.rv++[v2],ow.bb⟩ (N9 n k ((0:Nat):Int) lv st st2 R v1 xs cs).m:=Vl O fun b hb h=>lk5 b h fun e=>by have:=(n2 b e).2;omega
 have F5:vw (fun b=>v2.ownBlock≠some b) w ow (N6 n k st st2 R xs (v1,(lv,v2))).m w ⟨ow.rv++[v2],ow.bb⟩ (N9 n k ((0:Nat):Int) lv st st2 R v1 xs cs).m:=fun b h1 h2 h3=>⟨lk5 b h2 h3,h1,rfl⟩
 refine aoI Hz I5' fun j cs' a6 w6 Aq I6 K6=> ?_
 obtain⟨ow8,I8,K8⟩:=I6.dS (ata n k j lv st st2 R v1 xs cs')
 have K58:=K6.trans K8
 exact hQ a6 w6 ow8 I8 (O5.kp K58) (F5.kp K58)
end
set_option maxRecDepth 100000
section
variable {n k lv:Int} {st st2:cO} {R:b_} {v1 v2:Value} {xs:List JE} {gs:List fB.dJ} {cs:List fB.bZ} {ps qs:List (Value×List Int)} {ys:List dJ} {zs:List bZ} {may:Nat→Prop} {w0 w w':World} {ow aO:Ow} {m m':Mem} {a:Act} {Q:Exit→Act→World→Prop} {lo hi:Nat}
structure Told (w:World) (ok:Nat→Prop) (lv:Int) (ys:List dJ) (zs:List bZ) (v1 v2:Value):Prop where
 ex:∃gs cs ps qs,wG w ok gs cs ps qs ys zs v1 v2∧fB.eY.F ((gs,(lv,cs)),())=some ((ps++qs).map (·.1),())∧(∀p∈ps++qs,p.2.length<35184372087000)∧(ps++qs).length<5864062014000∧gs.length<1000000000∧cs.length<1000000000
theorem Told.aW {ok ok':Nat→Prop}(T:Told w ok lv ys zs v1 v2)(hb:∀b,b<w.heap.size→ok b→w'.heap[b]? =w.heap[b]?)(hn:∀b,b<w.heap.size→ok b→ok' b):Told w' ok' lv ys zs v1 v2:=by
 obtain⟨gs,cs,ps,qs,A,h⟩:=T.ex
 exact⟨gs,cs,ps,qs,A.aW hb hn,h⟩
noncomputable def aen:Code:= .seq (.seq (rM 27) YW) (.seq (rM 31) Vk)
theorem aeo:ael= .seq (rM 24) (.seq (.seq (rM 25) (.cond (.tmp 109) (.seq (rM 26) .ret) .skip)) aen):=rfl
structure PO (w0 w:World) (may:Nat→Prop) (ow:Ow) (m:Mem) (gs:List fB.dJ) (cs:List fB.bZ) (v1 v2:Value) (lo hi:Nat):Prop where
 sl1:∃A n c,v1=Value.slice A n c
 sl2:∃A n c,v2=Value.slice A n c
 r1:∃c1,w.ownsRow 0 68 16 v1 gs.length c1∧∀ok,aY w ok fB.fD gs c1
 r2:∃c2,w.ownsRow 0 70 11 v2 cs.length c2∧∀ok,aY w ok fB.fU cs c2
 n1:∀b,v1.ownBlock=some b→(ay ow m b∧¬may b)∧w0.heap.size≤b∧lo≤b∧b<hi
 n2:∀b,v2.ownBlock=some b→(ay ow m b∧¬may b)∧w0.heap.size≤b∧lo≤b∧b<hi
 ne:∀b,v2.ownBlock=some b→v1.ownBlock≠some b
theorem PO.next {P:Nat→Prop}(h:PO w0 w may ow m gs cs v1 v2 lo hi)(F:vw P w ow m w' aO m')(p1:∀b,v1.ownBlock=some b→P b)(p2:∀b,v2.ownBlock=some b→P b):PO w0 w' may aO m' gs cs v1 v2 lo hi:=by
 obtain⟨c1,r1,d1⟩:=h.r1
 obtain⟨c2,r2,d2⟩:=h.r2
 have f1:=fun b (e:v1.ownBlock=some b)=>F b (kD r1 e) (h.n1 b e).1.1 (p1 b e)
 have f2:=fun b (e:v2.ownBlock=some b)=>F b (kD r2 e) (h.n2 b e).1.1 (p2 b e)
 exact⟨h.sl1,h.sl2,⟨c1,gZ r1 fun g hg=>(f1 g hg).2.2,fun ok=>aY.flat rfl (d1 ok)⟩,⟨c2,gZ r2 fun g hg=>(f2 g hg).2.2,fun ok=>aY.flat rfl (d2 ok)⟩,fun b e=>⟨⟨(f1 b e).1,(h.n1 b e).1.2⟩,(h.n1 b e).2⟩,fun b e=>⟨⟨(f2 b e).1,(h.n2 b e).1.2⟩,(h.n2 b e).2⟩,h.ne⟩
theorem akR {u:Value}(I:aK jW 184 may (N6 n k st st2 R xs (u,(lv,v2))) a w ow)(O:Old w0 w ow (N6 n k st st2 R xs (u,(lv,v2))).m)(sl2:∃A n c,v2=Value.slice A n c)(r2:∃c2,w.ownsRow 0 70 11 v2 cs.length c2∧∀ok,aY w ok fB.fU cs c2)
  (n2:∀b,v2.ownBlock=some b→(ay ow (N6 n k st st2 R xs (u,(lv,v2))).m b∧¬may b)∧w0.heap.size≤b) (Hz:cs.length<1000000000)
  (hQ:∀a' w' aO,aK jW 184 (fun b=>may b∨v2.ownBlock=some b) (N5 n k st st2 R xs) a' w' aO→Old w0 w' aO (N5 n k st st2 R xs).m→vw (fun b=>v2.ownBlock≠some b) w ow (N6 n k st st2 R xs (u,(lv,v2))).m w' aO (N5 n k st st2 R xs).m→Q .normal a' w'):(.seq (rM 31) Vk:Code).wp Tryz.prog Q a w:=by
 obtain⟨c2,r2,d2⟩:=r2
 refine wp_seq (dO fB.aH kT mix I (p31 n k st st2 R xs (u,(lv,v2))) (fun s' a5 w5 Nc e5 I5 K5=> ?_) (fun _ _ _ _ _ e=>by cases e) (fun _ _ _ _ e=>by cases e))
 cases e5
 have R25:w5.ownsRow 0 70 11 v2 cs.length c2:=gZ r2 fun g hg=>(K5.stay g (kD r2 hg) (n2 g hg).1.1).2.2
 have n25:∀b,v2.ownBlock=some b→(ay Nc (N6 n k st st2 R xs (u,(lv,v2))).m b∧¬may b)∧w0.heap.size≤b:=fun b e=>⟨⟨(K5.stay b (kD r2 e) (n2 b e).1.1).1,(n2 b e).1.2⟩,(n2 b e).2⟩
 refine Vm (n:=n) (k:=k) (lv:=lv) (st:=st) (st2:=st2) (R:=R) (v1:=u) (v2:=v2) (xs:=xs) (cs:=cs) (may:=may) (w0:=w0) (w:=w5) (ow:=Nc) (a:=a5) (Q:=Q) I5 (O.kp K5) sl2 R25 (fun ok=>aY.flat rfl (d2 ok)) n25 Hz fun a6 w6 Aq I6 O6 F6=> ?_
 exact hQ a6 w6 Aq I6 O6 ((vw.of K5).trans F6)
theorem aep (I:aK jW 184 may (N6 n k st st2 R xs (v1,(lv,v2))) a w ow)(O:Old w0 w ow (N6 n k st st2 R xs (v1,(lv,v2))).m)(A:PO w0 w may ow (N6 n k st st2 R xs (v1,(lv,v2))).m gs cs v1 v2 lo hi)(Nv:gs.length<1000000000)(Hz:cs.length<1000000000)
  (hQ:∀may' a' w' aO,(∀b,may' b→may b∨(lo≤b∧b<hi))→aK jW 184 may' (N5 n k st st2 R xs) a' w' aO→Old w0 w' aO (N5 n k st st2 R xs).m→vw (fun b=>¬(lo≤b∧b<hi)) w ow (N6 n k st st2 R xs (v1,(lv,v2))).m w' aO (N5 n k st st2 R xs).m→Q .normal a' w'):aen.wp Tryz.prog Q a w:=by
 refine wp_seq (wp_seq (dO aH kT mix I (p27 n k st st2 R xs (v1,(lv,v2))) (fun s' a3 w3 qA e3 I3 K3=> ?_) (fun _ _ _ _ _ e=>by cases e) (fun _ _ _ _ e=>by cases e)))
 cases e3
 have A3:PO w0 w3 may qA (N6 n k st st2 R xs (v1,(lv,v2))).m gs cs v1 v2 lo hi:=A.next (P:=fun _=>True) (vw.of K3) (fun _ _=>trivial) fun _ _=>trivial
 obtain⟨c1,r1,d1⟩:=A3.r1
 refine Xv (n:=n) (k:=k) (lv:=lv) (st:=st) (st2:=st2) (R:=R) (v1:=v1) (v2:=v2) (xs:=xs) (gs:=gs) (may:=may) (w0:=w0) (w:=w3) (ow:=qA) (a:=a3) I3 (O.kp K3) A3.sl1 r1 d1 (fun b e=>⟨(A3.n1 b e).1,(A3.n1 b e).2.1⟩) Nv fun u a4 w4 ED I4 O4 F4=> ?_
 obtain⟨c2,r2,d2⟩:=A3.r2
 have f2:=fun b (e:v2.ownBlock=some b)=>F4 b (kD r2 e) (A3.n2 b e).1.1 (A3.ne b e)
 refine akR I4 O4 A3.sl2 ⟨c2,gZ r2 fun g hg=>(f2 g hg).2.2,fun ok=>aY.flat rfl (d2 ok)⟩ (fun b e=>⟨⟨(f2 b e).1,fun h=> ?_⟩,(A3.n2 b e).2.1⟩) Hz fun a6 w6 Aq I6 O6 F6=> ?_
 ·rcases h with h|h
  ·exact (A3.n2 b e).1.2 h
  ·exact A3.ne b e h
 ·refine hQ _ a6 w6 Aq (fun b h=> ?_) I6 O6 (((vw.of K3).trans fun b h1 h2 h3=>F4 b h1 h2 fun e=>h3 (A3.n1 b e).2.2).trans fun b h1 h2 h3=>F6 b h1 h2 fun e=>h3 (A3.n2 b e).2.2)
  rcases h with(h|h)|h
  ·exact .inl h
  ·exact .inr (A3.n1 b h).2.2
  ·exact .inr (A3.n2 b h).2.2
theorem wG.aside (A:wG w (SE w0 may ow m lo hi) gs cs ps qs ys zs v1 v2):PO w0 w may ow m gs cs v1 v2 lo hi:=
 ⟨A.aee.1,A.aee.2,A.Bj,A.aed,fun b e=>⟨⟨(A.Oh b e).1.1.1,(A.Oh b e).1.1.2.1⟩,(A.Oh b e).1.1.2.2,(A.Oh b e).1.2⟩,fun b e=>⟨⟨(A.Vj b e).1.1,(A.Vj b e).1.2.1⟩,(A.Vj b e).1.2.2,(A.Vj b e).2⟩,fun b e e'=>(A.Oh b e').2 e⟩
theorem wG.atg (A:wG w (SE w0 may ow m lo hi) gs cs ps qs ys zs v1 v2):(∀b,v1.ownBlock=some b→sU ((ps++qs).map (·.1)) b)∧(∀b,v2.ownBlock=some b→sU ((ps++qs).map (·.1)) b)∧∀b,¬(lo≤b∧b<hi)→sU ((ps++qs).map (·.1)) b:=by
 refine⟨fun b e v hv e'=> ?_,fun b e v hv e'=> ?_,fun b h v hv e'=> ?_⟩<;>obtain⟨p,hp,rfl⟩:=List.mem_map.1 hv
 ·exact (A.held.new p hp b e').2.1 e
 ·exact (A.held.new p hp b e').2.2 e
 ·exact h (A.held.new p hp b e').1.2
theorem aer (I:aK jW 184 may (N5 n k st st2 R xs) a w ow)(O:Old w0 w ow (N5 n k st st2 R xs).m)(hk:0≤k)(dX:k<(List.length xs:Int))(hx:List.getD xs k.toNat aoG=(v1,(lv,v2)))(T:Told w (SE w0 may ow (N5 n k st st2 R xs).m lo hi) lv ys zs v1 v2)
  (hQ:∀may' a' w' aO,(∀b,may' b→may b∨(lo≤b∧b<hi))→aK jW 184 may' (N5 n k st st2 R xs) a' w' aO→Old w0 w' aO (N5 n k st st2 R xs).m→vw (fun b=>¬(lo≤b∧b<hi)) w ow (N5 n k st st2 R xs).m w' aO (N5 n k st st2 R xs).m→Q .normal a' w'):ael.wp Tryz.prog Q a w:=by
 obtain⟨gs,cs,ps,qs,A,hF,hb,hl,Nv,Hz⟩:=T.ex
 have h24:=p24 n k st st2 R xs
 have hc:(decide (0≤k)&&decide (k<(List.length xs:Int)))=true:=by simp[hk,dX]
 rw[hc,hx]at h24
 rw[aeo]
 refine wp_seq (dO Yh.aH kT mix I h24 (fun s' a1 w1 jZ e1 I1 K1=> ?_) (fun _ _ _ _ _ e=>by cases e) (fun _ _ _ _ e=>by cases e))
 cases e1
 have A1:wG w1 (SE w0 may jZ (N6 n k st st2 R xs (v1,(lv,v2))).m lo hi) gs cs ps qs ys zs v1 v2:=A.aW (fun b hb h=>(K1.stay b hb h.1.1).2.2) fun b hb h=>⟨⟨(K1.stay b hb h.1.1).1,h.1.2⟩,h.2⟩
 obtain⟨o1,o2,o3⟩:=A1.atg
 refine wp_seq (ahj (Q:=fun a w=>aen.wp Tryz.prog Q a w) I1 (O.kp K1) A1 hF hb hl (fun a2 w2 gV I2 O2 F2'=> ?_) (fun a w h=>h))
 refine aep I2 O2 (A1.aside.next F2' o1 o2) Nv Hz fun may' a' w' aO hm I' O' F'=> ?_
 exact hQ may' a' w' aO hm I' O' (((vw.of K1).trans fun b h1 h2 h3=>F2' b h1 h2 (o3 b h3)).trans F')
noncomputable def aes:Code:= .block 2 (.loop (.seq (rM 23) (.seq (.cond (.tmp 103) .skip (.exit 2)) (.seq (.block 3 ael) (rM 35)))))
def aoO (st st2:cO)(R:b_)(w0:World)(lv:Int)(ys:List dJ)(zs:List bZ)(v1 v2 u1 u2:Value)(lo mid hi:Nat)(a':Act)(w':World):Prop:=
 ∃(j:Nat) (may':Nat→Prop) (aO:Ow),j≤2∧aK jW 184 may' (N5 2 (j:Int) st st2 R [(v1,(lv,v2)),(u1,(lv,u2))]) a' w' aO∧Old w0 w' aO (N5 2 (j:Int) st st2 R [(v1,(lv,v2)),(u1,(lv,u2))]).m∧
  (j=0→Told w' (SE w0 may' aO (N5 2 (j:Int) st st2 R [(v1,(lv,v2)),(u1,(lv,u2))]).m lo mid) lv ys zs v1 v2)∧(j≤1→Told w' (SE w0 may' aO (N5 2 (j:Int) st st2 R [(v1,(lv,v2)),(u1,(lv,u2))]).m mid hi) lv ys zs u1 u2)
theorem RV {s:S}{p q:Value}(K:Kp may w ow s.m w' aO s.m)(T:Told w (SE w0 may ow s.m lo hi) lv ys zs p q):Told w' (SE w0 may aO s.m lo hi) lv ys zs p q:=
 T.aW (fun b hb h=>(K.stay b hb h.1.1).2.2) fun b hb h=>⟨⟨(K.stay b hb h.1.1).1,h.1.2⟩,h.2⟩
theorem aiy {u1 u2:Value}{mid j:Nat}(hj:j<2)(I:aK jW 184 may (N5 2 (j:Int) st st2 R [(v1,(lv,v2)),(u1,(lv,u2))]) a w ow)(O:Old w0 w ow (N5 2 (j:Int) st st2 R [(v1,(lv,v2)),(u1,(lv,u2))]).m)(T:j=0→Told w (SE w0 may ow (N5 2 (j:Int) st st2 R [(v1,(lv,v2)),(u1,(lv,u2))]).m mid hi) lv ys zs u1 u2)
  (hQ:∀a' w',aoO st st2 R w0 lv ys zs v1 v2 u1 u2 lo mid hi a' w'→bV 102 a'=j+1→Q .normal a' w'):(rM 35).wp Tryz.prog Q a w:=by
 have e35:=p35 2 (j:Int) st st2 R [(v1,(lv,v2)),(u1,(lv,u2))]
 rw[tu (show j<4611686018427387904 by omega)]at e35
 refine dO Yh.aH kT mix I e35 (fun s' a6 w6 Aq e I6 K6=> ?_) (fun _ _ _ _ _ e=>by cases e) (fun _ _ _ _ e=>by cases e)
 cases e
 exact hQ a6 w6 ⟨j+1,may,Aq,by omega,I6,O.kp K6,fun h=>by omega,fun h=>(T (by omega)).aW (fun b hb h=>(K6.stay b hb h.1.1).2.2) fun b hb h=>⟨⟨(K6.stay b hb h.1.1).1,h.1.2⟩,h.2⟩⟩ (I6.bV rfl)
theorem aoP {u1 u2:Value}{mid:Nat}(I:aK jW 184 may (N5 2 ((0:Nat):Int) st st2 R [(v1,(lv,v2)),(u1,(lv,u2))]) a w ow)(O:Old w0 w ow (N5 2 ((0:Nat):Int) st st2 R [(v1,(lv,v2)),(u1,(lv,u2))]).m)(T:Told w (SE w0 may ow (N5 2 ((0:Nat):Int) st st2 R [(v1,(lv,v2)),(u1,(lv,u2))]).m lo mid) lv ys zs v1 v2)
  (T':Told w (SE w0 may ow (N5 2 ((0:Nat):Int) st st2 R [(v1,(lv,v2)),(u1,(lv,u2))]).m mid hi) lv ys zs u1 u2)
  (hQ:∀may' a' w' aO,aK jW 184 may' (N5 2 ((2:Nat):Int) st st2 R [(v1,(lv,v2)),(u1,(lv,u2))]) a' w' aO→Old w0 w' aO (N5 2 ((2:Nat):Int) st st2 R [(v1,(lv,v2)),(u1,(lv,u2))]).m→Q .normal a' w'):aes.wp Tryz.prog Q a w:=by
 refine wp_block (wp_loop (aoO st st2 R w0 lv ys zs v1 v2 u1 u2 lo mid hi) (fun a' _=>2-bV 102 a') ⟨0,may,ow,by omega,I,O,fun _=>T,fun _=>T'⟩ ?_)
 rintro a1 w1 ⟨j,may1,jZ,hj,I1,O1,T1,T1'⟩
 have sK:bV 102 a1=j:=I1.bV rfl
 have e8:=as2 2 (j:Int) st st2 R [(v1,(lv,v2)),(u1,(lv,u2))]
 have e9:=as3 2 (j:Int) st st2 R [(v1,(lv,v2)),(u1,(lv,u2))] (decide ((j:Int)<2))
 refine wp_seq (dO Yh.aH kT mix I1 e8 (fun s' a2 w2 gV e I2 K2=> ?_) (fun _ _ _ _ _ e=>by cases e) (fun _ _ _ _ e=>by cases e))
 cases e
 by_cases dX:j<2
 ·rw [decide_eq_true (by omega:(j:Int)<2)]at e9 I2
  refine wp_seq (dO Yh.aH kT mix I2 e9 (fun s' a3 w3 qA e I3 K3=> ?_) (fun _ _ _ _ _ e=>by cases e) (fun _ _ _ _ e=>by cases e))
  cases e
  have SB:Kp may1 w1 jZ (N5 2 (j:Int) st st2 R [(v1,(lv,v2)),(u1,(lv,u2))]).m w3 qA (N5 2 (j:Int) st st2 R [(v1,(lv,v2)),(u1,(lv,u2))]).m:=K2.trans K3
  rcases(by omega:j=0∨j=1)with rfl|rfl
  ·clear e8 e9
   refine wp_seq (wp_block (aer I3 (O1.kp SB) (by decide) (by simp) rfl (RV (s:=N5 2 ((0:Nat):Int) st st2 R [(v1,(lv,v2)),(u1,(lv,u2))]) SB (T1 rfl)) fun may4 a4 w4 ED hm4 I4 O4 F4=> ?_))
   refine aiy (by omega) I4 O4 (fun _=> ?_) fun a' w' IL hs=>⟨IL,by rw[hs,sK];omega⟩
   have T3:=RV (s:=N5 2 ((0:Nat):Int) st st2 R [(v1,(lv,v2)),(u1,(lv,u2))]) SB (T1' (by omega))
   refine T3.aW (fun b hb h=>(F4 b hb h.1.1 (by have:=h.2.1;omega)).2.2) fun b hb h=>⟨⟨(F4 b hb h.1.1 (by have:=h.2.1;omega)).1,fun hm=> ?_,h.1.2.2⟩,h.2⟩
   rcases hm4 b hm with hm|hm
   ·exact h.1.2.1 hm
   ·have:=h.2.1
    omega
  ·clear e8 e9
   refine wp_seq (wp_block (aer I3 (O1.kp SB) (by decide) (by simp) rfl (RV (s:=N5 2 ((1:Nat):Int) st st2 R [(v1,(lv,v2)),(u1,(lv,u2))]) SB (T1' (by omega))) fun may4 a4 w4 ED hm4 I4 O4 F4=> ?_))
   exact aiy (lo:=lo) (by omega) I4 O4 (fun h=>by omega) fun a' w' IL hs=>⟨IL,by rw[hs,sK];omega⟩
 ·obtain rfl:j=2:=by omega
  rw[decide_eq_false (by omega:¬((2:Nat):Int)<2)]at e9 I2
  refine wp_seq (dO Yh.aH kT mix I2 e9 (fun _ _ _ _ e=>by cases e) (fun j' s' a3 w3 qA e I3 K3=> ?_) (fun _ _ _ _ e=>by cases e))
  cases e
  simp only[Exit.then,Exit.inBlock,if_true]
  exact hQ _ _ _ _ I3 ((O1.kp K2).kp K3)
end
set_option maxRecDepth 100000
theorem aeu (x1:List Value)(hL:x1.length<4611686018427387904):∀(d i:Nat) (x0:List Value),i+d=x1.length→x0.length+d<5864062014805→∀k,d<k→fB.qx.L2 k x0 x1 (i:Int)=some (((),(x0++x1.drop i,()),()),0,[])
 |d,i,x0,h,hb,0,hk=>by omega
 |0,i,x0,h,hb,k+1,hk=>by
  have hc:decide ((i:Int)<(List.length x1:Int))=false:=by simp;omega
  rw[fB.qx.mX]
  simp only[fB.qx.b2,hc,cond_false]
  rw[List.drop_eq_nil_of_le (by omega),List.append_nil]
 |d+1,i,x0,h,hb,k+1,hk=>by
  have dX:i<x1.length:=by omega
  have hc:decide ((i:Int)<(List.length x1:Int))=true:=by simp;omega
  have hz:decide ((0:Int)≤(i:Int))=true:=by simp
  have hl:decide (List.length x0+List.length [List.getD x1 i (Value.slice none 0 0)]<5864062014805)=true:=by simp;omega
  have hw:IntKind.i64.wrap ((i:Int)+1)=((i+1:Nat):Int):=tu (by omega)
  rw[fB.qx.mX]
  simp only[fB.qx.b2,hc,hz,cond_true,Bool.and_self,Int.toNat_natCast,hw]
  have VL:decide (List.length x0+List.length ([List.getD x1 i (Value.slice none 0 0)]:List Value)<5864062014805)=true:=hl
  simp only[VL,cond_true]
  rw[aeu x1 hL d (i+1) (List.append x0 [List.getD x1 i (Value.slice none 0 0)]) (by omega) (by simp;omega) k (by omega)]
  have e1:x1.drop i=x1[i]::x1.drop (i+1):=List.drop_eq_getElem_cons dX
  have e2:List.getD x1 i (Value.slice none 0 0)=x1[i]:=by rw[List.getD_eq_getElem?_getD,List.getElem?_eq_getElem dX];rfl
  rw[e1,e2]
  simp
theorem RX (x0 x1:List Value)(h:x0.length+x1.length<5864062014805):fB.qx.F () (x0,x1,())=some ((),(x0++x1,()),()):=
 fB.qx.of () x0 x1 _ fun G=>⟨x1.length+1,aeu x1 (by omega) x1.length 0 x0 (by omega) h _ (by omega)⟩
theorem zx (x:fB.cu):fB.jY.F (x,())=some ([x.1.1.2,x.1.2,x.2.1.2,x.2.2],()):=fB.jY.of 0 _ rfl
def aev (x:fB.cu):List Value:=[x.1.1.2,x.1.2,x.2.1.2,x.2.2]
def Xw (g:fB.dJ):List Value:=aev g.1.2.1++aev g.2.2.1
def Vo (c:fB.bZ):List Value:=aev c.2.2.2.2.1
section
variable (gs:List fB.dJ) (lv:Int) (cs:List fB.bZ)
theorem aiz (hL:cs.length<4611686018427387904):∀(d i:Nat) (x3:List Value),i+d=cs.length→x3.length+4*d<5864062014805→∀k,d<k→fB.eY.L7 k gs lv cs x3 (i:Int)=some (x3++(cs.drop i).flatMap Vo,())
 |d,i,x3,h,hb,0,hk=>by omega
 |0,i,x3,h,hb,k+1,hk=>by
  have hc:decide ((i:Int)<(List.length cs:Int))=false:=by simp;omega
  rw[fB.eY.jA]
  simp only[fB.eY.b7,hc,cond_false]
  rw[List.drop_eq_nil_of_le (by omega),List.flatMap_nil,List.append_nil]
 |d+1,i,x3,h,hb,k+1,hk=>by
  have dX:i<cs.length:=by omega
  have hc:decide ((i:Int)<(List.length cs:Int))=true:=by simp;omega
  have hz:decide ((0:Int)≤(i:Int))=true:=by simp
  have hw:IntKind.i64.wrap ((i:Int)+1)=((i+1:Nat):Int):=tu (by omega)
  rw[fB.eY.jA]
  simp only[fB.eY.b7,hc,hz,cond_true,Bool.and_self,Int.toNat_natCast,hw]
  rw[zx,Option.bind_some,RX _ _ (by simp;omega),Option.bind_some]
  have e2:List.getD cs i fB.dN=cs[i]:=by rw[List.getD_eq_getElem?_getD,List.getElem?_eq_getElem dX];rfl
  rw[e2]
  rw[aiz hL d (i+1) _ (by omega) (by simp;omega) k (by omega)]
  have e1:cs.drop i=cs[i]::cs.drop (i+1):=List.drop_eq_getElem_cons dX
  rw[e1,List.flatMap_cons]
  simp[Vo,aev]
theorem aiA (hL:gs.length<4611686018427387904):∀(d i:Nat) (x3:List Value),i+d=gs.length→x3.length+8*d+4*cs.length<5864062014805→∀k,d+cs.length+1<k→fB.eY.L3 k gs lv cs x3 (i:Int)=some (x3++(gs.drop i).flatMap Xw++cs.flatMap Vo,())
 |d,i,x3,h,hb,0,hk=>by omega
 |0,i,x3,h,hb,k+1,hk=>by
  have hc:decide ((i:Int)<(List.length gs:Int))=false:=by simp;omega
  rw[fB.eY.pG]
  simp only[fB.eY.b3,hc,cond_false]
  rw[List.drop_eq_nil_of_le (by omega),List.flatMap_nil,List.append_nil]
  exact aiz gs lv cs (by omega) cs.length 0 x3 (by omega) (by omega) k (by omega)
 |d+1,i,x3,h,hb,k+1,hk=>by
  have dX:i<gs.length:=by omega
  have hc:decide ((i:Int)<(List.length gs:Int))=true:=by simp;omega
  have hz:decide ((0:Int)≤(i:Int))=true:=by simp
  have hw:IntKind.i64.wrap ((i:Int)+1)=((i+1:Nat):Int):=tu (by omega)
  rw[fB.eY.pG]
  simp only[fB.eY.b3,hc,hz,cond_true,Bool.and_self,Int.toNat_natCast,hw]
  rw[zx,Option.bind_some,zx,Option.bind_some,RX _ _ (by simp),Option.bind_some,RX _ _ (by simp;omega),Option.bind_some]
  have e2:List.getD gs i fB.aA=gs[i]:=by rw[List.getD_eq_getElem?_getD,List.getElem?_eq_getElem dX];rfl
  rw[e2]
  rw[aiA hL d (i+1) _ (by omega) (by simp;omega) k (by omega)]
  have e1:gs.drop i=gs[i]::gs.drop (i+1):=List.drop_eq_getElem_cons dX
  rw[e1,List.flatMap_cons]
  simp[Xw,aev]
theorem RY (h:8*gs.length+4*cs.length<5864062014805):fB.eY.F ((gs,(lv,cs)),())=some (gs.flatMap Xw++cs.flatMap Vo,()):=
 fB.eY.of (gs.length+cs.length+2) _ (aiA gs lv cs (by omega) gs.length 0 [] (by omega) (by simpa using h) _ (by omega))
end
theorem oU.Xw:∀{gs:List fB.dJ} {ys:List dJ} {ps:List (Value×List Int)},oU Xt gs ys ps→gs.flatMap Xw=ps.map (·.1)
 |[],[],_,h=>by have h:_=[]:=h;subst h;rfl
 |g::gs,y::ys,ps,⟨q,r,e,⟨rv,e1,e2⟩,h2⟩=>by
  subst e e1 e2
  rw[List.flatMap_cons,List.map_append,oU.Xw h2]
  rfl
 |[],_::_,_,k=>k.elim
 |_::_,[],_,k=>k.elim
theorem oU.Vo:∀{gs:List fB.bZ} {ys:List bZ} {ps:List (Value×List Int)},oU Xu gs ys ps→gs.flatMap Vo=ps.map (·.1)
 |[],[],_,h=>by have h:_=[]:=h;subst h;rfl
 |g::gs,y::ys,ps,⟨q,r,e,⟨rv,e1,e2⟩,h2⟩=>by
  subst e e1 e2
  rw[List.flatMap_cons,List.map_append,oU.Vo h2]
  rfl
 |[],_::_,_,k=>k.elim
 |_::_,[],_,k=>k.elim
theorem oU.aew:∀{gs:List fB.dJ} {ys:List dJ} {ps:List (Value×List Int)},oU Xt gs ys ps→ps.length=8*gs.length∧∀p∈ps,∃y∈ys,p.2∈sJ y
 |[],[],_,h=>by have h:_=[]:=h;subst h;simp
 |g::gs,y::ys,ps,⟨q,r,e,⟨rv,e1,e2⟩,h2⟩=>by
  subst e e1 e2
  obtain⟨i1,i2⟩:=oU.aew h2
  refine⟨by simp only[List.length_append,i1,List.length_cons];simp[jm,sJ];omega,fun p hp=> ?_⟩
  rcases List.mem_append.1 hp with hp|hp
  ·obtain ⟨j,hj,rfl⟩:=List.getElem_of_mem hp
   obtain⟨xs,hx,e3⟩:=Gw (List.getElem?_eq_getElem hj)
   exact⟨y,by simp,by rw[e3];exact List.mem_of_getElem? hx⟩
  ·obtain ⟨z,hz,h⟩:=i2 p hp
   exact⟨z,by simp[hz],h⟩
 |[],_::_,_,k=>k.elim
 |_::_,[],_,k=>k.elim
theorem oU.aex:∀{gs:List fB.bZ} {ys:List bZ} {ps:List (Value×List Int)},oU Xu gs ys ps→ps.length=4*gs.length∧∀p∈ps,∃y∈ys,p.2∈Nj y
 |[],[],_,h=>by have h:_=[]:=h;subst h;simp
 |g::gs,y::ys,ps,⟨q,r,e,⟨rv,e1,e2⟩,h2⟩=>by
  subst e e1 e2
  obtain⟨i1,i2⟩:=oU.aex h2
  refine⟨by simp only[List.length_append,i1,List.length_cons];simp[jm,Nj];omega,fun p hp=> ?_⟩
  rcases List.mem_append.1 hp with hp|hp
  ·obtain ⟨j,hj,rfl⟩:=List.getElem_of_mem hp
   obtain⟨xs,hx,e3⟩:=Gw (List.getElem?_eq_getElem hj)
   exact⟨y,by simp,by rw[e3];exact List.mem_of_getElem? hx⟩
  ·obtain ⟨z,hz,h⟩:=i2 p hp
   exact⟨z,by simp[hz],h⟩
 |[],_::_,_,k=>k.elim
 |_::_,[],_,k=>k.elim
theorem wG.told {w:World}{ok:Nat→Prop}{gs:List fB.dJ}{cs:List fB.bZ}{ps qs:List (Value×List Int)}{st:cO}{ys:List dJ}{zs:List bZ}{v1 v2:Value}{lv:Int}(A:wG w ok gs cs ps qs ys zs v1 v2)(D:StD st ys zs):Told w ok lv ys zs v1 v2:=by
 have l1:=A.aP.len
 have l2:=A.changes.len
 have b1:=D.b1
 have b2:=D.b2
 have e1:=D.ly
 have e2:=D.lz
 obtain⟨p1,p2⟩:=oU.aew A.aP
 obtain⟨q1,q2⟩:=oU.aex A.changes
 refine⟨gs,cs,ps,qs,A,?_,fun p hp=> ?_,?_,by omega,by omega⟩
 ·rw [RY gs lv cs (by omega),oU.Xw A.aP,oU.Vo A.changes,List.map_append]
 ·rcases List.mem_append.1 hp with hp|hp
  ·obtain ⟨y,hy,h⟩:=p2 p hp
   exact D.b3 y hy _ h
  ·obtain ⟨y,hy,h⟩:=q2 p hp
   exact D.b4 y hy _ h
 ·rw [List.length_append];omega
set_option maxRecDepth 100000
abbrev csL:List (Nat×CS):=[YU,csM,ahh,(18,SC)]
abbrev ath:Nat×CS:=(19,.box 68 [.v true,.v true,.o 114 (.int .u32) true,.o 114 (.int .u32) true,.v true,.o 114 (.int .u32) true,.o 114 (.int .u32) true,.v true,.v true,.v true,.o 114 (.int .u32) true,.o 114 (.int .u32) true,.v true,.o 114 (.int .u32) true,.o 114 (.int .u32) true,.v true])
abbrev aoQ:Nat×CS:=(19,.box 68 [.v true,.v true,.v true,.v true,.v true,.v true,.v true,.v true,.v true,.v true,.v true,.v true,.v true,.v true,.v true,.v true])
section
variable (n v:Int) (st st2:cO) (R:b_) (xs:List JE) (y:dJ) (rv vs:List Value)
abbrev fL:List (Nat×SV):=[(3,.box 0 0),(5,.box 1 0),(13,.box 2 0),(18,ci .i64 v)]
abbrev L0:S:=⟨fL v,⟨[some (xK st.1.2),some (xM st.2.2),some (xK st2.1.2),some (xM st2.2.2)],[Vh st 0 1,bxM R,Vh st2 2 3]⟩⟩
theorem p36:xH jW T 184 9 (rM 36) (N5 2 n st st2 R xs) csL=some (.nrm (L0 0 st st2 R)):=by kernel_rfl
theorem p37:xH jW T 184 9 (.seq (rM 37) (.cond (.tmp 148) .skip (.exit 8))) (L0 v st st2 R) csL=bif decide (v<(List.length R.1:Int))then some (.nrm (L0 v st st2 R))else some (.ext 8 (L0 v st st2 R)):=by kernel_rfl
theorem p38:xH jW T 184 9 (rM 38) (L0 v st st2 R) csL=some (.nrm (L0 (IntKind.i64.wrap (v+1)) st st2 R)):=by kernel_rfl
abbrev aoR:List aT:=[.val true .bool y.1.1,.val true .bool y.1.2.1.1.1.1,.own 4,.own 5,.val true .bool y.1.2.1.2.1.1,.own 6,.own 7,.val true (.int .i64) y.1.2.2,.val true .bool y.2.1,.val true .bool y.2.2.1.1.1.1,.own 8,.own 9,.val true .bool y.2.2.1.2.1.1,.own 10,.own 11,.val true (.int .i64) y.2.2.2]
abbrev L1:S:=⟨fL v++[(19,.box 3 0)],⟨(L0 v st st2 R).m.rows++yK 114 (sJ y),(L0 v st st2 R).m.boxes++[some ⟨68,aoR y⟩]⟩⟩
theorem p39:xH jW T 184 9 (rM 39) (L0 v st st2 R) (csL++[ath])=(gX.F st (v,())).bind fun z=>some (.nrm (L1 v z.2.2 st2 R z.2.1.1)):=by kernel_rfl
abbrev ati:List aT:=[.val true .bool y.1.1,.val true .bool y.1.2.1.1.1.1,.val true .hd (List.getD rv 4 dV),.val true .hd (List.getD rv 5 dV),.val true .bool y.1.2.1.2.1.1,.val true .hd (List.getD rv 6 dV),.val true .hd (List.getD rv 7 dV),.val true (.int .i64) y.1.2.2,.val true .bool y.2.1,.val true .bool y.2.2.1.1.1.1,.val true .hd (List.getD rv 8 dV),.val true .hd (List.getD rv 9 dV),.val true .bool y.2.2.1.2.1.1,.val true .hd (List.getD rv 10 dV),.val true .hd (List.getD rv 11 dV),.val true (.int .i64) y.2.2.2]
abbrev L2:S:=⟨fL v++[(19,.box 3 0)],⟨(L0 v st st2 R).m.rows,(L0 v st st2 R).m.boxes++[some ⟨68,ati y rv⟩]⟩⟩
theorem atj:dS (csL++[aoQ]) (hpS (fun i=>Nat.ble 4 i) rv (L1 v st st2 R y))=some (L2 v st st2 R y rv):=by kernel_rfl
abbrev L3:S:=⟨fL v++[(165,.one (.lf (.own 0)))],⟨[some (YV vs),some (xK st.1.2),some (xM st.2.2),some (xK st2.1.2),some (xM st2.2.2)],[Vh st 1 2,bxM R,Vh st2 3 4]⟩⟩
theorem atl:dS csL (L3 v st st2 R vs)=some (L0 v st st2 R):=by kernel_rfl
theorem atm:xH jW T 184 9 (.cond (.tmp 167) (.seq (rM 41) .ret) .skip) ⟨fL v++[(167,cb false)],(L0 v st st2 R).m⟩ csL=some (.nrm (L0 v st st2 R)):=by kernel_rfl
theorem atn:bJ jW T 184 (kF 40) [10] ⟨fL v++[(166,cb true)],(L0 v st st2 R).m⟩ (dS (csL++[(167,SC)]))=some ⟨fL v++[(167,cb false)],(L0 v st st2 R).m⟩:=by kernel_rfl
end
theorem ato:rM 40= .region 40 (kF 40) true:=by kernel_rfl
theorem aoS:(kF 40).size=11:=by kernel_rfl
def aoT:List (List Nat):=[[0,1,2,3,4,5,6,7,8,9,10],[0,1,2,4,3,5,6,7,8,9,10],[0,1,2,4,5,3,6,7,8,9,10],[0,1,2,4,5,6,3,7,8,9,10],[0,1,4,2,3,5,6,7,8,9,10],[0,1,4,2,5,3,6,7,8,9,10],[0,1,4,2,5,6,3,7,8,9,10],[0,1,4,5,2,3,6,7,8,9,10],[0,1,4,5,2,6,3,7,8,9,10],[0,1,4,5,6,2,3,7,8,9,10],[0,4,1,2,3,5,6,7,8,9,10],[0,4,1,2,5,3,6,7,8,9,10],[0,4,1,2,5,6,3,7,8,9,10],[0,4,1,5,2,3,6,7,8,9,10],[0,4,1,5,2,6,3,7,8,9,10],[0,4,1,5,6,2,3,7,8,9,10],[0,4,5,1,2,3,6,7,8,9,10],[0,4,5,1,2,6,3,7,8,9,10],[0,4,5,1,6,2,3,7,8,9,10],[0,4,5,6,1,2,3,7,8,9,10],[4,0,1,2,3,5,6,7,8,9,10],[4,0,1,2,5,3,6,7,8,9,10],[4,0,1,2,5,6,3,7,8,9,10],[4,0,1,5,2,3,6,7,8,9,10],[4,0,1,5,2,6,3,7,8,9,10],[4,0,1,5,6,2,3,7,8,9,10],[4,0,5,1,2,3,6,7,8,9,10],[4,0,5,1,2,6,3,7,8,9,10],[4,0,5,1,6,2,3,7,8,9,10],[4,0,5,6,1,2,3,7,8,9,10],[4,5,0,1,2,3,6,7,8,9,10],[4,5,0,1,2,6,3,7,8,9,10],[4,5,0,1,6,2,3,7,8,9,10],[4,5,0,6,1,2,3,7,8,9,10],[4,5,6,0,1,2,3,7,8,9,10]]
def aey:List (List Nat):=[[0,1,2,3,4,5,6,7,8],[0,1,2,4,3,5,6,7,8],[0,1,2,4,5,3,6,7,8],[0,1,2,4,5,6,3,7,8],[0,1,4,2,3,5,6,7,8],[0,1,4,2,5,3,6,7,8],[0,1,4,2,5,6,3,7,8],[0,1,4,5,2,3,6,7,8],[0,1,4,5,2,6,3,7,8],[0,1,4,5,6,2,3,7,8],[0,4,1,2,3,5,6,7,8],[0,4,1,2,5,3,6,7,8],[0,4,1,2,5,6,3,7,8],[0,4,1,5,2,3,6,7,8],[0,4,1,5,2,6,3,7,8],[0,4,1,5,6,2,3,7,8],[0,4,5,1,2,3,6,7,8],[0,4,5,1,2,6,3,7,8],[0,4,5,1,6,2,3,7,8],[0,4,5,6,1,2,3,7,8],[4,0,1,2,3,5,6,7,8],[4,0,1,2,5,3,6,7,8],[4,0,1,2,5,6,3,7,8],[4,0,1,5,2,3,6,7,8],[4,0,1,5,2,6,3,7,8],[4,0,1,5,6,2,3,7,8],[4,0,5,1,2,3,6,7,8],[4,0,5,1,2,6,3,7,8],[4,0,5,1,6,2,3,7,8],[4,0,5,6,1,2,3,7,8],[4,5,0,1,2,3,6,7,8],[4,5,0,1,2,6,3,7,8],[4,5,0,1,6,2,3,7,8],[4,5,0,6,1,2,3,7,8],[4,5,6,0,1,2,3,7,8]]
theorem aoU:B_ (kF 40) (kF 40).size (Array.replicate (kF 40).size false)=aoT:=by kernel_rfl
theorem Xx:aoT=aey.map fun q=>q++[9,10]:=by kernel_rfl
noncomputable def aez (v:Int)(st st2:cO)(R:b_)(y:dJ)(rv:List Value):Option S:=
 (fB.jY.F ((((y.1.2.1.1.1.1,List.getD rv 4 dV),List.getD rv 5 dV),((y.1.2.1.2.1.1,List.getD rv 6 dV),List.getD rv 7 dV)),())).bind fun a=>(fB.jY.F ((((y.2.2.1.1.1.1,List.getD rv 8 dV),List.getD rv 9 dV),((y.2.2.1.2.1.1,List.getD rv 10 dV),List.getD rv 11 dV)),())).bind fun b=>
   (fB.qx.F () (a.1,b.1,())).bind fun c=>some (L3 v st st2 R c.2.1.1)
def aaE {α:Type}(P:α→Prop):List α→Prop
 |[]=>True
 |a::r=>P a∧aaE P r
theorem aaE.mem {α:Type}{P:α→Prop}:∀{l:List α},aaE P l→∀x∈l,P x
 |a::r,h,x,hx=>by
  rcases List.mem_cons.1 hx with rfl|hx
  ·exact h.1
  ·exact aaE.mem h.2 x hx
set_option maxHeartbeats 4000000 in
theorem aoV (v:Int)(st st2:cO)(R:b_)(y:dJ)(rv:List Value):aaE (fun l=>bJ jW T 184 (kF 40) l (L2 v st st2 R y rv) (dS (csL++[(165,.lf (.o 37 .hd true))]))=aez v st st2 R y rv) aey:=by
 refine⟨?_,?_,?_,?_,?_,?_,?_,?_,?_,?_,?_,?_,?_,?_,?_,?_,?_,?_,?_,?_,?_,?_,?_,?_,?_,?_,?_,?_,?_,?_,?_,?_,?_,?_,?_,trivial⟩<;>(show _=_;kernel_rfl)
set_option maxRecDepth 100000
theorem aoW:∃o,(kF 40)[9]? =some o∧o.guard=none∧o.dst=some 166∧∃ty,o.op= .call {callee:= .value (.func 19),args:= #[.tmp 165],argTypes:=ty}:=⟨_,rfl,rfl,rfl,_,rfl⟩
theorem aeA:∀q∈aey,∀i∈q,i<11:=by decide
theorem Xy (v:Int)(st st2:cO)(R:b_)(y:dJ)(rv:List Value):aez v st st2 R y rv=some (L3 v st st2 R ((qQ rv 4 (sJ y)).map (·.1))):=by
 unfold aez
 rw[zx,Option.bind_some,zx,Option.bind_some,RX _ _ (by simp),Option.bind_some]
 rfl
section
variable {v:Int} {st st2:cO} {R:b_} {y:dJ} {rv vs:List Value} {may:Nat→Prop} {w0 w:World} {ow:Ow} {a:Act} {Q:Exit→Act→World→Prop}
theorem akS:∀j row,(L3 v st st2 R vs).m.row? j=some row→row.fr=true∧row.mp? =none
 |0,row,h=>by cases h;exact⟨rfl,rfl⟩
 |1,row,h=>by cases h;exact⟨rfl,rfl⟩
 |2,row,h=>by cases h;exact⟨rfl,rfl⟩
 |3,row,h=>by cases h;exact⟨rfl,rfl⟩
 |4,row,h=>by cases h;exact⟨rfl,rfl⟩
 |j+5,row,h=>by simp[Mem.row?]at h
theorem ahk:∀j bx,(L3 v st st2 R vs).m.box? j=some bx→bx.ls.all frL=true
 |0,bx,h=>by cases h;rfl
 |1,bx,h=>by cases h;rfl
 |2,bx,h=>by cases h;rfl
 |j+3,bx,h=>by simp[Mem.box?]at h
theorem atp:∀j row,(L1 v st st2 R y).m.row? j=some row→row.mp? =none:=
 mpN (rows:=[xK st.1.2,xM st.2.2,xK st2.1.2,xM st2.2.2]++(sJ y).map (PL 114)) (by simp[yK]) rfl
theorem akT (I:aK jW 184 may (L2 v st st2 R y rv) a w ow)(O:Old w0 w ow (L2 v st st2 R y rv).m)(H:oP 114 w (fun b=>(ay ow (L2 v st st2 R y rv).m b∧¬may b)∧w0.heap.size≤b) (qQ rv 4 (sJ y)))(hb:∀xs∈sJ y,xs.length<35184372087000)
  (hQ:∀a' w' aO,aK jW 184 may (L0 v st st2 R) a' w' aO→Old w0 w' aO (L0 v st st2 R).m→Q .normal a' w'):(.seq (rM 40) (.cond (.tmp 167) (.seq (rM 41) .ret) .skip):Code).wp Tryz.prog Q a w:=by
 refine wp_seq ?_
 rw[ato]
 refine uw mix aoU fun l hl=> ?_
 obtain⟨Id,Kd⟩:=I.drew (w.drawn+1)
 have Hd:oP 114 {w with drawn:=w.drawn+1} (fun b=>(ay ow (L2 v st st2 R y rv).m b∧¬may b)∧w0.heap.size≤b) (qQ rv 4 (sJ y)):=H.aW (fun b _ _=>rfl) fun b _ h=>h
 have Od:=O.kp Kd
 generalize ({w with drawn:=w.drawn+1}:World)=wd at Id Hd Od
 rw[Xx]at hl
 obtain⟨q,hq,rfl⟩:=List.mem_map.1 hl
 have e:=(aaE.mem (aoV v st st2 R y rv) q hq).trans (Xy v st st2 R y rv)
 have dX:∀i∈q,i<(kF 40).size:=by rw[aoS];exact aeA q hq
 refine kL q [9,10] _ _ ?_
 refine ni aH kT Id dX e fun a2 w2 gV I2 K2=> ?_
 have H2:oP 114 w2 (fun b=>(ay gV (L3 v st st2 R ((qQ rv 4 (sJ y)).map (·.1))).m b∧¬may b)∧w0.heap.size≤b) (qQ rv 4 (sJ y)):=Hd.aW (fun b hb hn=>(K2.stay b hb hn.1.1).2.2) fun b hb hn=>⟨⟨(K2.stay b hb hn.1.1).1,hn.1.2⟩,hn.2⟩
 obtain⟨o,ho,RI,RJ,ty,NR⟩:=aoW
 refine o9 ho RI (oO NR ⟨_,Tryz.func19,rfl,rfl⟩ rfl rfl ?_)
 show Calls Tryz.prog 19 #[a2.tmps.getD 165 undef] w2 _
 refine(Iy (ps:=qQ rv 4 (sJ y)) I2 (t:=165) (r:=0) rfl rfl (H2.aW (fun _ _ _=>rfl) fun b _ h=>h.1) (fun p hp=> ?_) (by simp[qQ,sJ]) Cc akS ahk (by intro q hq;simp at hq;rcases hq with rfl|rfl|rfl|rfl|rfl<;>rfl)).mono fun e' w4 ⟨he,X,hS⟩=> ?_
 ·obtain ⟨j,hj,rfl⟩:=List.getElem_of_mem hp
  obtain⟨xs,hx,e2⟩:=M_ (List.getElem?_eq_getElem hj)
  rw[e2]
  exact hb xs (List.mem_of_getElem? hx)
 refine⟨_,he,?_⟩
 rw[RJ]
 have S4:AV ((L3 v st st2 R ((qQ rv 4 (sJ y)).map (·.1))).fr.map (·.1)) a2 (a2.put (some 166) (.bool true)):=(AV.refl _ a2).put _ (by simp)
 have g4:(a2.put (some 166) (.bool true)).tmps.getD 166 undef= .bool true:=lD (by rw[I2.size];decide)
 have I4:=hS (a2.put (some 166) (.bool true)) (fun t ht=>S4.get t ht) S4.size S4.defers
 generalize a2.put (some 166) (.bool true)=a4 at I4 g4
 obtain⟨Nc,I5,K5⟩:=I4.dS (atl v st st2 R _)
 have O5:Old w0 w4 Nc (L0 v st st2 R).m:=(RQ (Od.kp K2) X fun b hb v hv e=>by
  obtain⟨p,hp,rfl⟩:=List.mem_map.1 hv
  have:=(H2.new p hp b e).2
  omega).kp K5
 have I5':aK jW 184 may ⟨(L0 v st st2 R).fr++[(166,cb true)],(L0 v st st2 R).m⟩ a4 w4 Nc:=I5.more ⟨by show[a4.tmps.getD 166 undef]=[Value.bool true];rw[g4],trivial⟩
 refine ni aH kT I5' (by rw[aoS];decide) (atn v st st2 R) fun a6 w6 Aq I6 K6=> ?_
 refine dO aH kT mix I6 (atm v st st2 R) (fun s' a7 w7 ow7 e7 I7 K7=> ?_) (fun _ _ _ _ _ e=>by cases e) (fun _ _ _ _ e=>by cases e)
 cases e7
 exact hQ _ _ _ I7 ((O5.kp K6).kp K7)
theorem aoX (j:Nat)(xs:List Int)(h:(sJ y)[j]? =some xs):(L1 v st st2 R y).m.row? (4+j)=some (PL 114 xs):=by
 show(([some (xK st.1.2),some (xM st.2.2),some (xK st2.1.2),some (xM st2.2.2)]++yK 114 (sJ y))[4+j]?).bind id=_
 rw[List.getElem?_append_right (by simp)]
 simp[yK,h]
noncomputable def aiB:Code:= .seq (rM 39) (.seq (rM 40) (.cond (.tmp 167) (.seq (rM 41) .ret) .skip))
theorem akU {er:Int}(I:aK jW 184 may (L0 v st st2 R) a w ow)(O:Old w0 w ow (L0 v st st2 R).m)(hF:gX.F st (v,())=some ((),(y,(er,())),st))(hb:∀xs∈sJ y,xs.length<35184372087000)
  (hQ:∀may' a' w' aO,aK jW 184 may' (L0 v st st2 R) a' w' aO→Old w0 w' aO (L0 v st st2 R).m→Q .normal a' w'):aiB.wp Tryz.prog Q a w:=by
 refine wp_seq (dO aH kT mix I ((p39 v st st2 R).trans (by rw[hF];rfl)) (fun s' a1 w1 jZ e I1 K1=> ?_) (fun _ _ _ _ _ e=>by cases e) (fun _ _ _ _ e=>by cases e))
 cases e
 have O1:=O.kp K1
 have H1:=I1.mem.adD (e:=114) (k:=4) (ls:=sJ y) aoX
 obtain⟨I2,K2⟩:=I1.ang Cc (fun i=>Nat.ble 4 i) atp
 obtain⟨qA,I3,K3⟩:=I2.dS (atj v st st2 R y jZ.rv)
 refine akT I3 ((O1.kp K2).kp K3) (H1.aW (fun _ _ _=>rfl) fun b dX ⟨i,hi,e⟩=>⟨⟨(K3.stay b dX fun x hx=> ?_).1,fun h=>h.2 i (Nat.ble_eq_true_of_le hi) e⟩,?_⟩) hb (hQ _)
 ·have h1:=I1.mem.qp _ _ b e (Io hx)
  subst h1
  have hx:eG jZ (PK (fun i=>Nat.ble 4 i) jZ.rv (L1 v st st2 R y).m) (.row i)=some b:=hx
  simp only[eG,MZ,Nat.ble_eq_true_of_le hi,if_true]at hx
  cases hx
 ·refine Classical.byContradiction fun h=> ?_
  exact(O1.at_ b (by omega)).1 _ e
noncomputable def aeB:Code:= .block 8 (.loop (.seq (.seq (rM 37) (.cond (.tmp 148) .skip (.exit 8))) (.seq (.block 9 aiB) (rM 38))))
theorem aoY (hl:List.length R.1<1000000000)(hF:∀j:Nat,j<List.length R.1→∃y er,gX.F st ((j:Int),())=some ((),(y,(er,())),st)∧∀xs∈sJ y,xs.length<35184372087000)(I:aK jW 184 may (L0 ((0:Nat):Int) st st2 R) a w ow)(O:Old w0 w ow (L0 ((0:Nat):Int) st st2 R).m)
  (hQ:∀i may' a' w' aO,aK jW 184 may' (L0 i st st2 R) a' w' aO→Old w0 w' aO (L0 i st st2 R).m→Q .normal a' w'):aeB.wp Tryz.prog Q a w:=by
 refine wp_block (wp_loop (fun a' w'=>∃(j:Nat) (may':Nat→Prop) (aO:Ow),j≤List.length R.1∧aK jW 184 may' (L0 (j:Int) st st2 R) a' w' aO∧Old w0 w' aO (L0 (j:Int) st st2 R).m) (fun a' _=>List.length R.1-bV 18 a') ⟨0,may,ow,Nat.zero_le _,I,O⟩ ?_)
 rintro a1 w1 ⟨j,may1,jZ,hj,I1,O1⟩
 have sK:bV 18 a1=j:=I1.bV rfl
 have e8:=p37 (j:Int) st st2 R
 by_cases dX:j<List.length R.1
 ·rw [decide_eq_true (by omega:(j:Int)<(List.length R.1:Int))]at e8
  refine wp_seq (dO aH kT mix I1 e8 (fun s' a2 w2 gV e I2 K2=> ?_) (fun _ _ _ _ _ e=>by cases e) (fun _ _ _ _ e=>by cases e))
  cases e
  obtain⟨y,er,hy,hb⟩:=hF j dX
  refine wp_seq (wp_block (akU I2 (O1.kp K2) hy hb fun may' a4 w4 ED I4 O4=> ?_))
  have e9:=p38 (j:Int) st st2 R
  rw[tu (show j<4611686018427387904 by omega)]at e9
  refine dO aH kT mix I4 e9 (fun s' a6 w6 Aq e I6 K6=> ?_) (fun _ _ _ _ _ e=>by cases e) (fun _ _ _ _ e=>by cases e)
  cases e
  refine⟨⟨j+1,may',Aq,dX,I6,O4.kp K6⟩,?_⟩
  have h:bV 18 a6=j+1:=I6.bV rfl
  show List.length R.1-bV 18 a6<List.length R.1-bV 18 a1
  omega
 ·rw [decide_eq_false (by omega:¬(j:Int)<(List.length R.1:Int))]at e8
  refine wp_seq (dO aH kT mix I1 e8 (fun _ _ _ _ e=>by cases e) (fun j' s' a3 w3 qA e I3 K3=> ?_) (fun _ _ _ _ e=>by cases e))
  cases e
  simp only[Exit.then,Exit.inBlock,if_true]
  exact hQ _ _ _ _ _ I3 (O1.kp K3)
end
set_option maxRecDepth 100000
section
variable (v:Int) (st st2:cO) (R:b_)
theorem p42:xH jW T 184 9 (rM 42) (L0 v st st2 R) (csL++[(21,SC)])=(uh.F ((1:Int),())).bind fun a=>(oW.F (a.1,())).bind fun b=>some (.nrm ⟨fL v++[(21,cb (b.1==(1:Int)))],(L0 v st st2 R).m⟩):=by kernel_rfl
theorem p43:xH jW T 184 9 (.seq (rM 43) .ret) ⟨fL v++[(21,cb true)],(L0 v st st2 R).m⟩ [(2,SC)]=(aF.F st ()).bind fun a=>(dF.F (a.2.1.1,R,())).bind fun b=>bif b.1 then(aF.F st2 ()).bind fun c=>(dF.F (c.2.1.1,R,())).bind fun d=>some (.rt ⟨[(2,cb d.1)],⟨[],[]⟩⟩)else some (.rt ⟨[(2,cb false)],⟨[],[]⟩⟩):=by kernel_rfl
end
theorem ahl:Tryz.f5.body=some (.seq (rM 0) (.seq (.seq (rM 1) (.cond (.tmp 29) (rM 2) .skip)) (.seq (rM 3) (.seq (rM 4) (.seq (.seq (rM 5) (.cond (.tmp 44) (.seq (rM 6) .ret) .skip)) (.seq (.seq (rM 7) aiv)
  (aiw (.seq (.seq (rM 22) aes) (.seq (.seq (rM 36) aeB) (.seq (rM 42) (.seq (rM 43) .ret))))))))))):=by kernel_rfl
set_option maxRecDepth 100000
section
variable (n:Int) (ops:zX)
theorem p0a:xH jW T 184 9 (rM 0) ⟨[(0,.one (.agg [.val true (.int .i64) n,.val true (.sl 47 zW) ops]))],⟨[],[]⟩⟩ [csI]=some (.nrm ⟨[(1,.box 0 0)],⟨[],[bxI n ops]⟩⟩):=by kernel_rfl
theorem p0b:xH jW T 184 9 (.seq (rM 1) (.cond (.tmp 29) (rM 2) .skip)) ⟨[(1,.box 0 0)],⟨[],[bxI n ops]⟩⟩ [csI]=bif decide (n<0)then some (.nrm ⟨[(1,.box 0 0)],⟨[],[bxI 2 ops]⟩⟩)else(bif decide (n>65536)then some (.nrm ⟨[(1,.box 0 0)],⟨[],[bxI 2 ops]⟩⟩)else some (.nrm ⟨[(1,.box 0 0)],⟨[],[bxI n ops]⟩⟩)):=by kernel_rfl
def PS:Int:=bif decide (n<0)then 2 else bif decide (n>65536)then 2 else n
theorem p0c:xH jW T 184 9 (.seq (rM 1) (.cond (.tmp 29) (rM 2) .skip)) ⟨[(1,.box 0 0)],⟨[],[bxI n ops]⟩⟩ [csI]=some (.nrm ⟨[(1,.box 0 0)],⟨[],[bxI (PS n) ops]⟩⟩):=by
 rw[p0b]
 unfold PS
 cases decide (n<0)<;>cases decide (n>65536)<;>rfl
end
theorem aeC {n:Int}{ops:zX}{st0 st st2:cO}{R0 R:b_}{er0:Int}{ys:List dJ}{zs:List bZ}(atq:pU.F () (PS n,())=some (some st0,(0,()),()))(aoZ:yc.F (PS n,())=some (R0,er0,()))(hl:List.length ops<1000000000)(aeD:RS ops 0 st0 R0 st R)(D:StD st ys zs)
  (ao0:dU.F () ((ys,(st.1.1,zs)),())=some (some st2,(0,()),())) (hR:List.length R.1<1000000000) (atr:∀j:Nat,j<List.length R.1→∃y er,gX.F st ((j:Int),())=some ((),(y,(er,())),st)∧∀xs∈sJ y,xs.length<35184372087000)
  (hW:∃a,uh.F ((1:Int),())=some (a,())∧oW.F (a,())=some (1,())) (hS1:∃x s',aF.F st ()=some ((),(x,()),s')∧dF.F (x,R,())=some (true,())) (hS2:∃x s',aF.F st2 ()=some ((),(x,()),s')∧dF.F (x,R,())=some (true,()))
  {w:World} {okA:Nat→Prop} {va:Value} (hA:ES w okA (true,afU) (n,ops) va):Calls Tryz.prog 5 #[va] w fun e w'=>e= .returned (.bool true)∧Below w.heap.size w w':=by
 refine calls_of_wp Tryz.func5 ahl ?_
 obtain⟨a0,DF⟩:∃a0:Act,a0={tmps:= #[va]++Array.replicate (Tryz.f5.ntmps-(#[va]:Array Value).size) undef,defers:=[]}:=⟨_,rfl⟩
 have h0:a0.tmps.getD 0 undef=va:=by rw[DF];exact Ar
 have h1:a0.tmps.size=184:=by rw[DF];exact Au (by kernel_rfl)
 have h2:a0.defers=[]:=by rw[DF]
 rw[←DF]
 clear DF
 have I0:aK jW 184 (fun _=>True) ⟨[(0,.one (.agg [.val true (.int .i64) n,.val true (.sl 47 zW) ops]))],⟨[],[]⟩⟩ a0 w ⟨[],[]⟩:=by
  refine⟨⟨fun b _=>trivial,(fun g tb e=>by rw[Cc]at e;cases e),(fun g tb e=>by rw[Cc]at e;cases e)⟩,Ky,dw.of ⟨?_,trivial⟩,h1,h2⟩
  unfold ES at hA
  rw[if_pos rfl]at hA
  obtain⟨cs,e,c1,c2,rfl,r1,r2⟩:=hA
  have r1:c1=[.int .i64 n]:=r1
  subst r1
  have r3:=r2
  obtain⟨A,c,e2,_⟩:=r3
  subst e2
  refine⟨[.int .i64 n,.slice A _ c],by rw[h0,e];rfl,rfl,?_,trivial⟩
  exact Rd.mono (fun b hb=>⟨oQ b,fun _=>trivial⟩) r2
 have O0:Old w w ⟨[],[]⟩ ⟨[],[]⟩:=⟨Nat.le_refl _,fun b _=>⟨oQ b,rfl⟩,rfl,rfl,rfl⟩
 refine wp_seq (dO aH kT mix I0 (p0a n ops) (fun s' a1 w1 jZ e I1 K1=> ?_) (fun _ _ _ _ _ e=>by cases e) (fun _ _ _ _ e=>by cases e))
 cases e
 refine wp_seq (dO aH kT mix I1 (p0c n ops) (fun s' a2 w2 gV e I2 K2=> ?_) (fun _ _ _ _ _ e=>by cases e) (fun _ _ _ _ e=>by cases e))
 cases e
 refine wp_seq (dO aH kT mix I2 ((bnB (PS n) ops).trans (by rw[atq];rfl)) (fun s' a3 w3 qA e I3 K3=> ?_) (fun _ _ _ _ _ e=>by cases e) (fun _ _ _ _ e=>by cases e))
 cases e
 refine wp_seq (dO aH kT mix I3 ((bnC (PS n) ops st0 0).trans (by rw[aoZ];rfl)) (fun s' a4 w4 ED e I4 K4=> ?_) (fun _ _ _ _ _ e=>by cases e) (fun _ _ _ _ e=>by cases e))
 cases e
 refine wp_seq (dO aH kT mix I4 (bnD (PS n) ops st0 R0) (fun s' a5 w5 Nc e I5 K5=> ?_) (fun _ _ _ _ _ e=>by cases e) (fun _ _ _ _ e=>by cases e))
 cases e
 refine wp_seq (wp_seq (dO aH kT mix I5 (bnE (PS n) ops st0 R0) (fun s' a6 w6 Aq e I6 K6=> ?_) (fun _ _ _ _ _ e=>by cases e) (fun _ _ _ _ e=>by cases e)))
 cases e
 have O6:Old w w6 Aq (M8 (PS n) 0 ops st0 R0).m:=(((((O0.kp K1).kp K2).kp K3).kp K4).kp K5).kp K6
 refine aou hl aeD I6 O6 fun i ayj a7 w7 ow7 I7 O7=> ?_
 refine aej D ao0 I7 O7 fun ao1 a8 w8 ow8 lo mid hi v1 v2 gs cs ps qs u1 u2 gs' cs' ps' qs' I8 O8 A8 B8=> ?_
 refine wp_seq (wp_seq (dO Yh.aH kT mix I8 (p22 st st2 R v1 v2 u1 u2) (fun s' a9 w9 ow9 e I9 K9=> ?_) (fun _ _ _ _ _ e=>by cases e) (fun _ _ _ _ e=>by cases e)))
 cases e
 have T9:Told w9 (SE w ao1 ow9 (N5 2 ((0:Nat):Int) st st2 R [(v1,(st.1.1,v2)),(u1,(st.1.1,u2))]).m lo mid) st.1.1 ys zs v1 v2:=(A8.told D).aW (fun b hb h=>(K9.stay b hb h.1.1).2.2) fun b hb h=>⟨⟨(K9.stay b hb h.1.1).1,h.1.2⟩,h.2⟩
 have T9':Told w9 (SE w ao1 ow9 (N5 2 ((0:Nat):Int) st st2 R [(v1,(st.1.1,v2)),(u1,(st.1.1,u2))]).m mid hi) st.1.1 ys zs u1 u2:=(B8.told D).aW (fun b hb h=>(K9.stay b hb h.1.1).2.2) fun b hb h=>⟨⟨(K9.stay b hb h.1.1).1,h.1.2⟩,h.2⟩
 refine aoP I9 (O8.kp K9) T9 T9' fun auV a10 w10 asu I10 O10=> ?_
 refine wp_seq (wp_seq (dO aH kT mix I10 (p36 _ st st2 R _) (fun s' a11 w11 asv e I11 K11=> ?_) (fun _ _ _ _ _ e=>by cases e) (fun _ _ _ _ e=>by cases e)))
 cases e
 refine aoY hR atr I11 (O10.kp K11) fun v auW a12 w12 Vg I12 O12=> ?_
 obtain⟨wa,hw1,hw2⟩:=hW
 refine wp_seq (dO aH kT mix I12 ((p42 v st st2 R).trans (by rw[hw1,Option.bind_some,hw2];rfl)) (fun s' a13 w13 ayn e I13 SB=> ?_) (fun _ _ _ _ _ e=>by cases e) (fun _ _ _ _ e=>by cases e))
 cases e
 obtain⟨x1,s1,Qc,hs1⟩:=hS1
 obtain⟨x2,s2,hx2,hs2⟩:=hS2
 refine dO aH kT mix I13 ((p43 v st st2 R).trans (by rw[Qc,Option.bind_some,hs1,Option.bind_some,cond_true,hx2,Option.bind_some,hs2];rfl)) (fun _ _ _ _ e=>by cases e) (fun _ _ _ _ _ e=>by cases e) (fun s' a14 w14 ayp e I14 K14=> ?_)
 cases e
 have e2:[a14.tmps.getD 2 undef]=[Value.bool true]:=I14.fr 2
 refine⟨I14.defers,.bool true,?_,rfl,((O12.kp SB).kp K14).below⟩
 rw[results_tmp (t:=2) rfl,(List.cons.inj e2).1]
end Go.Fx.Tryz

namespace Go.Fx.Tryz
open Go Go.Fx Go.Fx.sZ
theorem aeE (a:List Int)(hL:a.length<35184372088832):∀(d i:Nat),i+d=a.length→∀k,d<k→yh.L3 k a (a.take i) (i:Int)=some (a,())
 |d,i,h,0,hk=>by omega
 |0,i,h,k+1,hk=>by
  have hc:decide ((i:Int)<(List.length a:Int))=false:=by simp;omega
  rw[yh.pG]
  simp only[yh.b3,hc,cond_false]
  rw[List.take_of_length_le (by omega)]
 |d+1,i,h,k+1,hk=>by
  have dX:i<a.length:=by omega
  have hc:decide ((i:Int)<(List.length a:Int))=true:=by simp;omega
  have hz:decide ((0:Int)≤(i:Int))=true:=by simp
  have hw:IntKind.i64.wrap ((i:Int)+1)=((i+1:Nat):Int):=tu (by omega)
  have hl:decide (List.length (a.take i)+List.length ([List.getD a i 0]:List Int)<35184372088832)=true:=by simp;omega
  rw[yh.pG]
  simp only[yh.b3,hc,hz,cond_true,Bool.and_self,Int.toNat_natCast,hw,hl]
  have e2:List.getD a i 0=a[i]:=by rw[List.getD_eq_getElem?_getD,List.getElem?_eq_getElem dX];rfl
  have e3:List.append (a.take i) [a[i]]=a.take (i+1):=by
   show a.take i++[a[i]]=_
   rw[List.take_append_getElem]
  rw[e2,e3]
  exact aeE a hL d (i+1) (by omega) k (by omega)
theorem aeF {a:List Int}(h:a.length<35184372088832):yh.F (a,())=some (a,()):=yh.of (a.length+1) a (aeE a h a.length 0 (by omega) _ (by omega))
theorem aeG {r:fP}(h:r.1.2.length<35184372088832)(h2:r.2.length<35184372088832):MB.F (r,())=some (r,()):=
 MB.of 0 r (st (UO.of 0 r.1 (st (aeF h) rfl)) (st (aeF h2) rfl))
theorem aeH {d:cu}(h:∀xs∈uz d,xs.length<35184372088832):uI.F (d,())=some (d,()):=
 uI.of 0 d (st (aeG (r:=d.1) (h _ (by simp[uz])) (h _ (by simp[uz]))) (st (aeG (r:=d.2) (h _ (by simp[uz])) (h _ (by simp[uz]))) rfl))
abbrev SM:Nat:=1048576
theorem Dn.lists {d:cu}{x:Q2}{n:Nat}(h:Dn d x n):∀xs∈uz d,xs.length≤n:=fun xs hx=>by
 simp only[uz,List.mem_cons,List.not_mem_nil,or_false]at hx
 rcases hx with rfl|rfl|rfl|rfl
 ·exact h.a.num.len
 ·exact h.a.den.len
 ·exact h.b.num.len
 ·exact h.b.den.len
def PB (b:AB):Prop:=∀x w,b=some (x,w)→Dn (Ai x) x SM
theorem PB.none:PB none:=fun x w h=>by cases h
theorem PB.some {x:Q2}{w:Int}(h:Dn (Ai x) x SM):PB (some (x,w)):=fun y v e=>by cases e;exact h
structure Pm (m:M):Prop where
 uo:∀l∈m.aP,PB l.1∧PB l.2
 Jc:∀c∈m.changes,PB c.2.2.2
theorem aeI {up:Bool}{l:AL}{b:AB}(hl:PB l.1∧PB l.2)(hb:PB b):PB (put up l b).1∧PB (put up l b).2:=by
 cases up
 ·exact ⟨hb,hl.2⟩
 ·exact ⟨hl.1,hb⟩
theorem akV {up:Bool}{l:AL}(hl:PB l.1∧PB l.2):PB (own up l):=by cases up;exact hl.1;exact hl.2
theorem RZ {ls:List AL}(h:∀l∈ls,PB l.1∧PB l.2)(i:Nat):PB (ls.getD i (none,none)).1∧PB (ls.getD i (none,none)).2:=by
 rw[List.getD_eq_getElem?_getD]
 cases hi:ls[i]? with
 |none=>exact⟨.none,.none⟩
 |some l=>exact h l (List.mem_of_getElem? hi)
theorem aeJ {ls:List AL}(h:∀l∈ls,PB l.1∧PB l.2)(i:Nat){a:AL}(ha:PB a.1∧PB a.2):∀l∈ls.set i a,PB l.1∧PB l.2:=by
 intro l hl
 rcases List.mem_or_eq_of_mem_set hl with h1|h1
 ·exact h l h1
 ·rw [h1];exact ha
theorem YZ (k:Int):∀(r:List AC) (ls:List AL),(∀c∈r,PB c.2.2.2)→(∀l∈ls,PB l.1∧PB l.2)→(∀c∈(undo k r ls).1,c∈r)∧∀l∈(undo k r ls).2,PB l.1∧PB l.2
 |[],ls,_,h=>⟨fun c hc=>hc,h⟩
 |c::r,ls,hr,h=>by
  by_cases hk:c.2.2.1≤k
  ·rw [Aj hk]
   exact⟨fun c hc=>hc,h⟩
  ·rw [Ak hk]
   obtain⟨h1,h4⟩:=YZ k r (ls.set c.1.toNat (put c.2.1 (ls.getD c.1.toNat (none,none)) c.2.2.2)) (fun d hd=>hr d (List.mem_cons_of_mem _ hd))
    (aeJ h _ (aeI (RZ h _) (hr c (List.mem_cons_self ..))))
   exact⟨fun d hd=>List.mem_cons_of_mem _ (h1 d hd),h4⟩
theorem Y0 {m:M}(h:Pm m)(up:Bool)(v:Int){x:Q2}(hx:Dn (Ai x) x SM)(w:Int):Pm (rF up m v x w).1:=by
 unfold rF
 by_cases hv:0≤v∧v<m.aP.length
 ·rw [if_pos hv]
  dsimp only
  split
  ·exact h
  ·split
   ·exact h
   ·have hb:=RZ h.uo v.toNat
    refine⟨aeJ h.uo _ (aeI hb (.some hx)),?_⟩
    intro c hc
    rcases List.mem_append.1 hc with h1|h1
    ·exact h.Jc c h1
    ·rw [List.mem_singleton.1 h1]
     exact akV hb
 ·rw [if_neg hv];exact h
theorem ahm {m:M}(h:Pm m)(k:Int):Pm (vN m k).1:=by
 unfold vN
 by_cases hk:k<0∨m.level<k
 ·rw [if_pos hk];exact h
 ·rw [if_neg hk]
  obtain⟨h1,h4⟩:=YZ k m.changes.reverse m.aP (fun c hc=>h.Jc c (List.mem_reverse.1 hc)) h.uo
  exact⟨h4,fun c hc=>h.Jc c (List.mem_reverse.1 (h1 c (List.mem_reverse.1 hc)))⟩
theorem ahn {m:M}(h:Pm m):Pm (tq m).1:=by
 unfold tq
 by_cases h6:m.aP.length=65536
 ·rw [if_pos h6];exact h
 ·rw [if_neg h6]
  refine⟨?_,h.Jc⟩
  intro l hl
  rcases List.mem_append.1 hl with h1|h1
  ·exact h.uo l h1
  ·rw [List.mem_singleton.1 h1];exact⟨.none,.none⟩
theorem aho {m:M}(h:Pm m){o:kQ}(ho:Dn o.2.2.1 (dv o.2.2.1) SM):Pm (zq m o):=by
 unfold zq
 split
 ·exact Y0 h _ _ ho.norm _
 split
 ·exact Y0 h _ _ ho.norm _
 split
 ·exact ⟨h.uo,h.Jc⟩
 split
 ·exact ahm h _
 split
 ·exact ahn h
 ·exact h
theorem akW (n:Nat):Pm (Jv n):=⟨fun a ha=>by rw[List.eq_of_mem_replicate ha];exact⟨.none,.none⟩,fun c hc=>(nomatch hc)⟩
theorem Np {b:AB}(h:PB b):∀xs∈uz (bI b).2.1,xs.length≤SM:=by
 cases b with
 |none=>intro xs hx;simp only[uz,List.mem_cons,List.not_mem_nil,or_false]at hx;rcases hx with rfl|rfl|rfl|rfl<;>exact Nat.zero_le _
 |some p=>exact Dn.lists (h p.1 p.2 rfl)
theorem Vp {l:AL}(h:PB l.1∧PB l.2):∀xs∈sJ (lI l),xs.length≤SM:=fun xs hx=>by
 have e:sJ (lI l)=uz (bI l.1).2.1++uz (bI l.2).2.1:=rfl
 rw[e]at hx
 rcases List.mem_append.1 hx with hx|hx
 ·exact Np h.1 xs hx
 ·exact Np h.2 xs hx
theorem aeK {c:AC}(h:PB c.2.2.2):∀xs∈Nj (cI c),xs.length≤SM:=Np h
theorem att:Ef.F (1,())=some (canon 1,()):=by
 have h:aU [1,0]:=fun x hx=>by simp at hx;rcases hx with rfl|rfl<;>decide
 have e:val [1,0]=1:=by decide
 have h2:=rNorm_F h (by simp)
 rw[e]at h2
 exact Ef.of 0 1 (st h2 rfl)
theorem ao2:H9.F (1,())=some (wc 1,()):=by
 have h1:Nm (canon 1) 1 2:=Nm.canon (by omega) (by decide)
 exact H9.of 0 1 (st att (st (h1.made (by decide) false) rfl))
theorem ao3:∃a,uh.F ((1:Int),())=some (a,())∧oW.F (a,())=some (1,()):=by
 have hw:Wn (wc 1) 1 2:=⟨(Nm.canon (x:=1) (n:=2) (by omega) (by decide)).iL,Gm 1,(Nm.canon (x:=1) (n:=2) (by omega) (by decide)).len⟩
 have hn:Nm [1] 1 2:=⟨fun x hx=>by simp at hx;subst hx;decide,rfl,by decide⟩
 have hr:Rt (wc 1,[1]) 1 2:=⟨⟨hw.iL,rfl,hw.len⟩,⟨hn.iL,rfl,hn.len⟩,by unfold rv;rw[hw.val];decide,by decide⟩
 exact⟨_,uh.of 0 1 (st ao2 (st (hr.rNorm_F (by decide)) rfl)),hr.norm.Gn (by decide)⟩
end Go.Fx.Tryz

namespace Go.Fx.Tryz
open Go Go.Fx Go.Fx.sZ Go.RowKit
def OkS (o:kQ):Prop:=Dn o.2.2.1 (dv o.2.2.1) SM
theorem OkS.ok {o:kQ}(h:OkS o):OkO o:=by
 have k:∀{a:aj} {x:Int},Nm a x SM→Nm a x SZ:=fun h=>⟨h.iL,h.val,Nat.le_trans h.len (by decide)⟩
 have r:∀{a:fP} {x:Rat},Rt a x SM→Rt a x SZ:=fun h=>⟨⟨h.num.iL,h.num.val,Nat.le_trans h.num.len (by decide)⟩,k h.den,h.val,by decide⟩
 exact⟨r h.a,r h.b⟩
theorem Y1 {a:aj}(w:K.wf dI a)(b:K.bulk dI a≤1048576):Nm a (sZ.val a) SM:=by
 refine⟨Gf fun x hx=>w x hx,rfl,?_⟩
 have h:((a:List Int).map (K.bulk (.int .u32))).sum+1≤1048576:=b
 have h2:List.length (α:=Int) a≤((a:List Int).map (K.bulk (.int .u32))).sum:=Ku (f:=K.bulk (.int .u32)) (fun x=>Nat.le_refl 1) a
 show List.length (α:=Int) a≤1048576
 omega
theorem aeL {r:fP}(w:K.wf pq r)(b:K.bulk pq r≤1048576):Rt r (rv r) SM:=by
 have hb:(1+K.bulk dI r.1.2)+K.bulk dI r.2≤1048576:=b
 have:=Y1 w.1.2 (by omega)
 exact⟨⟨this.iL,rfl,this.len⟩,Y1 w.2 (by omega),rfl,by decide⟩
theorem akY {o:kQ}(w:K.wf zW o)(b:K.bulk zW o≤1048576):OkS o:=by
 have hb:1+(1+(K.bulk nX o.2.2.1+(1+K.bulk ajt o.2.2.2.2)))≤1048576:=b
 have Qa:K.bulk pq o.2.2.1.1+K.bulk pq o.2.2.1.2≤1048576:=by
  have:K.bulk nX o.2.2.1=K.bulk pq o.2.2.1.1+K.bulk pq o.2.2.1.2:=rfl
  omega
 exact⟨aeL w.2.2.1.1 (by omega),aeL w.2.2.1.2 (by omega)⟩
theorem ahp {l:zX}(w:K.wf Z4 l)(b:K.bulk Z4 l≤1048576):∀o∈l,OkS o:=fun o ho=>by
 have hb:((l:List kQ).map (K.bulk zW)).sum+1≤1048576:=b
 refine akY (w o ho) ?_
 have:=Ry (f:=K.bulk zW) ho
 omega
theorem atu {m:M}{K:Nat}(h:m.ok K)(hK:K<900000000000){e:kQ}(he:OkS e):OpD (mS m) (mR m) e (mS (zq m e)) (mR (zq m e)):=by
 have hl:=Dn.lists he
 refine⟨e.2.2.1,aeH fun xs hx=>Nat.lt_of_le_of_lt (hl xs hx) (by decide),?_,?_,fun xs hx=>Nat.lt_of_le_of_lt (hl xs hx) (by decide)⟩
 ·exact aj3 h hK he.ok
 ·rw [Jb he e.2.2.1 (by decide),decide_eq_true rfl]
theorem aiC {ops:zX}(ho:∀o∈ops,OkS o)(hl:List.length (α:=kQ) ops≤1048576):∀(d j:Nat) (m:M) (K:Nat),j+d=List.length (α:=kQ) ops→m.ok K→K+d<900000000000→RS ops j (mS m) (mR m) (mS (PE m (List.drop (α:=kQ) j ops))) (mR (PE m (List.drop (α:=kQ) j ops)))
 |0,j,m,K,h,hm,hK=>by
  obtain rfl:j=List.length (α:=kQ) ops:=by omega
  rw[List.drop_length]
  exact RS.nil _ _
 |d+1,j,m,K,h,hm,hK=>by
  have dX:j<List.length (α:=kQ) ops:=by omega
  have e1:List.drop (α:=kQ) j ops=ops[j]::List.drop (α:=kQ) (j+1) ops:=List.drop_eq_getElem_cons dX
  have e2:List.getD (α:=kQ) ops j WX=ops[j]:=by rw[List.getD_eq_getElem?_getD,List.getElem?_eq_getElem dX];rfl
  have hs:=ho _ (List.getElem_mem dX)
  rw[e1]
  refine RS.cons dX (by rw[e2];exact atu hm (by omega) hs) ?_
  exact aiC ho hl d (j+1) (zq m ops[j]) (K+1) (by omega) (wo hm hs.ok) (by omega)
theorem Y2:∀{os:List kQ} {m:M},Pm m→(∀o∈os,OkS o)→Pm (PE m os)
 |[],m,h,_=>h
 |o::os,m,h,ho=>Y2 (os:=os) (aho h (ho o (by simp))) fun q hq=>ho q (by simp[hq])
theorem atv {m:M}(h:m.ok 1048576)(p:Pm m):StD (mS m) (m.aP.map lI) (m.changes.map cI):=by
 have h1:=h.nl
 have h2:=h.nc
 refine⟨rfl,rfl,rfl,fun j e y he hy=> ?_,fun j e y he hy=> ?_,?_,?_,fun y hy xs hx=> ?_,fun z hz xs hx=> ?_⟩
 ·have he:(m.aP.map lI)[j]? =some e:=he
  rw[hy]at he
  obtain rfl:=Option.some.inj he
  obtain⟨l,hl,rfl⟩:=List.mem_map.1 (List.mem_of_getElem? hy)
  exact yI (h.uo l hl).1 (h.uo l hl).2
 ·have he:(m.changes.map cI)[j]? =some e:=he
  rw[hy]at he
  obtain rfl:=Option.some.inj he
  obtain⟨l,hl,rfl⟩:=List.mem_map.1 (List.mem_of_getElem? hy)
  exact BZ (h.Jc l hl).1
 ·show (m.aP.map lI).length<_
  rw[List.length_map];omega
 ·show (m.changes.map cI).length<_
  rw[List.length_map];omega
 ·obtain ⟨l,hl,rfl⟩:=List.mem_map.1 hy
  exact Nat.lt_of_le_of_lt (Vp (p.uo l hl) xs hx) (by decide)
 ·obtain ⟨c,hc,rfl⟩:=List.mem_map.1 hz
  exact Nat.lt_of_le_of_lt (aeK (p.Jc c hc) xs hx) (by decide)
theorem ahq {m:M}(p:Pm m)(v:Int):PB (aap m v).1.1∧PB (aap m v).1.2:=by
 unfold aap
 split
 ·exact RZ p.uo _
 ·exact ⟨.none,.none⟩
theorem boundsOwn_calls {x:aq7}(wx:K.wf afU x)(bx:K.bulk afU x≤1048576){w:World}{okA:Nat→Prop}{va:Value}(hA:ES w okA (true,afU) x va):Calls Go.Proofs.Tryz.prog 5 #[va] w fun e w'=>e= .returned (.bool true)∧Below w.heap.size w w':=by
 have hb:1+K.bulk Z4 x.2≤1048576:=bx
 have ho:=ahp wx.2 (by omega)
 have hl:=(agI wx.2 (by omega)).2
 have hv:0≤PS x.1∧PS x.1≤65536:=by
  unfold PS
  by_cases c1:x.1<0
  ·rw [decide_eq_true c1];exact⟨by show(0:Int)≤2;omega,by show(2:Int)≤65536;omega⟩
  ·rw [decide_eq_false c1]
   by_cases c2:x.1>65536
   ·rw [decide_eq_true c2];exact⟨by show(0:Int)≤2;omega,by show(2:Int)≤65536;omega⟩
   ·rw [decide_eq_false c2]
    show 0≤x.1∧x.1≤65536
    omega
 have hN:=am0 (PS x.1)
 have hNR:=ajR (PS x.1)
 rw[if_pos hv,aas]at hN
 rw[if_pos hv,aat]at hNR
 have k0:=agG (n:=(PS x.1).toNat) (by omega)
 have lU:=(Yz k0 (fun o h=>(ho o h).ok)).mono (L:=1048576) (by omega)
 have hsn:=YJ k0 (aj_ _) (fun o h=>(ho o h).ok)
 have hpm:=Y2 (akW (PS x.1).toNat) ho
 have aeD:=aiC ho hl (List.length (α:=kQ) x.2) 0 (Jv (PS x.1).toNat) 0 (by omega) k0 (by omega)
 rw[List.drop_zero]at aeD
 generalize PE (Jv (PS x.1).toNat) x.2=m at lU hsn hpm aeD
 have hL:dU.F () (mR m,())=some (some (mS m),((0:Int),()),()):=by
  rw[aj9 _ (akb lU (Nat.le_refl _)),agR lU (Nat.le_refl _) hsn]
  show some (some (mS (mv (mR _))),((0:Int),()),())=_
  rw[aik]
 have Ti:=lU.nl
 have hlen:List.length (mR m).1=m.aP.length:=List.length_map ..
 refine aeC (n:=x.1) (ops:=x.2) (st0:=mS (Jv (PS x.1).toNat)) (st:=mS m) (st2:=mS m) (R0:=mR (Jv (PS x.1).toNat)) (R:=mR m) hN hNR (by show List.length (α:=kQ) x.2<_;omega) aeD (atv lU hpm) hL (by omega) (fun j hj=> ?_) ao3
  ⟨_,_,YE lU (by omega),Jd lU (by omega)⟩ ⟨_,_,YE lU (by omega),Jd lU (by omega)⟩ hA
 exact⟨_,_,agu lU (j:Int),fun xs hx=>Nat.lt_of_le_of_lt (Vp (ahq hpm j) xs hx) (by decide)⟩
end Go.Fx.Tryz
