import Derived.Test.YthmdbafinpmojaaGreatUC
import Derived.Test.YthmdbafinpmojaaGreatW08c
set_option linter.unusedVariables false
set_option linter.unusedSimpArgs false
namespace Go.Fx.Tryz
open Go Go.Fx Go.Fx.sZ
theorem BZ {c:AC}(h:Bk c.2.2.2):bD.F (cI c,())=some (cI c,()):=bD.of 0 _ (st (MP h) rfl)
theorem YC {ls:List AL}{i:Nat}(h:i<ls.length):List.getD (ls.map lI) (Int.toNat (i:Int)) aA=lI ls[i]:=by
  rw[wF (ls.map lI) aA (by rw[List.length_map];exact h)]
  exact List.getElem_map ..
theorem YD {cs:List AC}{i:Nat}(h:i<cs.length):List.getD (cs.map cI) (Int.toNat (i:Int)) dN=cI cs[i]:=by
  rw[wF (cs.map cI) dN (by rw[List.length_map];exact h)]
  exact List.getElem_map ..
theorem aau {α β:Type}{f:α→β}{l:List α}{i:Nat}(h:i<l.length):(decide (0≤(i:Int))&&decide ((i:Int)<((l.map f).length:Int)))=true:=by rw[List.length_map];simp<;>omega
theorem YE {m:M}{K:Nat}(h:m.ok K)(hK:K<900000000000):aF.F (mS m) ()=some ((),(mR m,()),mS m):=by
  have Ti:=h.nl
  have VW:=h.nc
  refine aF.of (mS m) _ fun G=> ?_
  obtain⟨j,hj⟩:=sZ.up (fun k (p:Nat×dA)=>aF.FW k G.b m.level true (m.aP.map lI) 0 (m.aP.map lI) m.level p.2 (m.changes.map cI) ((m.changes.map cI).length:Int) (p.1:Int)) (((),(mR m,()),mS m),G.b,[])
    (fun i t=>t=(m.changes.take i).map cI) m.changes.length (fun i t hi ht=>by
      subst ht
      refine⟨_,rfl,1,fun k=> ?_⟩
      show aF.FW (k+1) _ _ _ _ _ _ _ _ _ _ _=aF.FW k _ _ _ _ _ _ _ _ _ _ _
      rw[aF.rW]
      unfold aF.b10
      rw[YD hi]
      refine yes (decide_eq_true (by rw[List.length_map];omega)) (yes (aau hi) (st (BZ (h.Jc _ (List.getElem_mem hi)).1) ?_))
      refine yes (decide_eq_true (by simp only[List.length_map,List.length_take,List.length_cons,List.length_nil];omega)) ?_
      have e:IntKind.i64.wrap ((i:Int)+1)=((i+1:Nat):Int):=(ng (by omega) (by omega)).trans (by omega)
      have e2:List.append ((m.changes.take i).map cI) [cI m.changes[i]]=(m.changes.take (i+1)).map cI:=by
        rw[List.take_succ_eq_append_getElem hi,List.map_append];rfl
      show aF.FW k G.b m.level true (m.aP.map lI) 0 (m.aP.map lI) m.level (List.append ((m.changes.take i).map cI) [cI m.changes[i]]) (m.changes.map cI) _ (IntKind.i64.wrap ((i:Int)+1))=_
      rw[e,e2])
    (fun t ht=>by
      subst ht
      refine⟨1,fun k=> ?_⟩
      show aF.FW (k+1) _ _ _ _ _ _ _ _ _ _ _=_
      rw[aF.rW]
      unfold aF.b10
      refine no (decide_eq_false (by rw[List.length_map];omega)) ?_
      rw[List.take_length];rfl) 0 [] (Nat.zero_le _) rfl
  obtain⟨_,-,i,hi⟩:=aac (fun k (p:Nat×bC)=>aF.L5 k G.b m.level (m.changes.map cI) true 0 p.2 m.level (m.aP.map lI) ((m.aP.map lI).length:Int) (p.1:Int)) (fun k (_:Unit)=>aF.FW k G.b m.level true (m.aP.map lI) 0 (m.aP.map lI) m.level [] (m.changes.map cI) ((m.changes.map cI).length:Int) 0)
    (fun i t=>t=(m.aP.take i).map lI) (fun _=>True) m.aP.length (fun i t hi ht=>by
      subst ht
      refine⟨_,rfl,1,fun k=> ?_⟩
      show aF.L5 (k+1) _ _ _ _ _ _ _ _ _ _=aF.L5 k _ _ _ _ _ _ _ _ _ _
      rw[aF.zY]
      unfold aF.b5
      rw[YC hi]
      have hm:=h.uo _ (List.getElem_mem hi)
      refine yes (decide_eq_true (by rw[List.length_map];omega)) (yes (aau hi) (st (yI hm.1 hm.2) ?_))
      refine yes (decide_eq_true (by simp only[List.length_map,List.length_take,List.length_cons,List.length_nil];omega)) ?_
      have e:IntKind.i64.wrap ((i:Int)+1)=((i+1:Nat):Int):=(ng (by omega) (by omega)).trans (by omega)
      have e2:List.append ((m.aP.take i).map lI) [lI m.aP[i]]=(m.aP.take (i+1)).map lI:=by
        rw[List.take_succ_eq_append_getElem hi,List.map_append];rfl
      show aF.L5 k G.b m.level (m.changes.map cI) true 0 (List.append ((m.aP.take i).map lI) [lI m.aP[i]]) m.level (m.aP.map lI) _ (IntKind.i64.wrap ((i:Int)+1))=_
      rw[e,e2])
    (fun t ht=>by
      subst ht
      refine⟨(),trivial,1,fun k=> ?_⟩
      show aF.L5 (k+1) _ _ _ _ _ _ _ _ _ _=_
      rw[aF.zY]
      unfold aF.b5
      refine no (decide_eq_false (by rw[List.length_map];omega)) ?_
      rw[List.take_length]) 0 [] (Nat.zero_le _) rfl
  refine⟨j+i,st (ac6 (mS m)) (no rfl ?_)⟩
  exact(hi j).trans (by have:=hj 0;rwa[Nat.zero_add]at this)
theorem Jd {m:M}{K:Nat}(h:m.ok K)(hK:K<900000000000):dF.F (mR m,mR m,())=some (true,()):=by
  have Ti:=h.nl
  have VW:=h.nc
  obtain⟨j,hj⟩:=sZ.up (fun k (p:Nat×Unit)=>dF.FW k (m.aP.map lI) m.level (m.changes.map cI) (m.aP.map lI) m.level (m.changes.map cI) (p.1:Int)) (true,()) (fun _ _=>True) m.changes.length
    (fun i _ hi _=>⟨(),trivial,1,fun k=>by
      show dF.FW (k+1) _ _ _ _ _ _ _=dF.FW k _ _ _ _ _ _ _
      rw[dF.rW]
      unfold dF.b10
      rw[YD hi]
      have hb:=(h.Jc _ (List.getElem_mem hi)).1
      generalize m.changes[i]=c at hb
      have hs:=(BX hb (bI c.2.2.2)).trans (congrArg some (congrArg (·,()) (decide_eq_true (rfl:bI c.2.2.2=bI c.2.2.2))))
      refine yes (decide_eq_true (by rw[List.length_map];omega)) (yes (aau hi) (yes (aau hi) ?_))
      refine no (bne_eq_false_iff_eq.2 rfl) (no (by show(!((cI c).2.1==(cI c).2.1))=false;rw[beq_self_eq_true];rfl) (no (bne_eq_false_iff_eq.2 rfl) (st hs (no rfl ?_))))
      rw[(ng (by omega) (by omega)).trans (show (i:Int)+1=((i+1:Nat):Int)by omega)]⟩)
    (fun _ _=>⟨1,fun k=>by
      show dF.FW (k+1) _ _ _ _ _ _ _=_
      rw[dF.rW]
      unfold dF.b10
      exact no (decide_eq_false (by rw[List.length_map];omega)) rfl⟩) 0 () (Nat.zero_le _) trivial
  obtain⟨_,-,i,hi⟩:=aac (fun k (p:Nat×Unit)=>dF.L4 k (m.aP.map lI) m.level (m.changes.map cI) (m.aP.map lI) m.level (m.changes.map cI) (p.1:Int)) (fun k (_:Unit)=>dF.FW k (m.aP.map lI) m.level (m.changes.map cI) (m.aP.map lI) m.level (m.changes.map cI) 0)
    (fun _ _=>True) (fun _=>True) m.aP.length
    (fun i _ hi _=>⟨(),trivial,1,fun k=>by
      show dF.L4 (k+1) _ _ _ _ _ _ _=dF.L4 k _ _ _ _ _ _ _
      rw[dF.iW]
      unfold dF.b4
      rw[YC hi]
      have hb:=h.uo _ (List.getElem_mem hi)
      generalize m.aP[i]=l at hb
      refine yes (decide_eq_true (by rw[List.length_map];omega)) (yes (aau hi) (yes (aau hi) (st (U8 hb (lI l)) (no (by rw[decide_eq_true (show bI l.1=(lI l).1 from rfl),decide_eq_true (show bI l.2=(lI l).2 from rfl)];rfl) ?_))))
      rw[(ng (by omega) (by omega)).trans (show (i:Int)+1=((i+1:Nat):Int)by omega)]⟩)
    (fun _ _=>⟨(),trivial,1,fun k=>by
      show dF.L4 (k+1) _ _ _ _ _ _ _=_
      rw[dF.iW]
      unfold dF.b4
      exact no (decide_eq_false (by rw[List.length_map];omega)) rfl⟩) 0 () (Nat.zero_le _) trivial
  refine dF.of (j+i) _ _ ?_
  unfold dF.e
  refine no (bne_eq_false_iff_eq.2 rfl) (no (bne_eq_false_iff_eq.2 rfl) (no (bne_eq_false_iff_eq.2 rfl) ?_))
  exact(hi j).trans (by have:=hj 0;rwa[Nat.zero_add]at this)
theorem agJ:dv QI=(0,0):=by
  unfold dv
  have h:rv WW=0:=Rx.val
  exact Prod.ext h h
def nz (r:fP):Bool:= !r.1.1&&((List.length r.1.2:Int)+(List.length r.2:Int)==0)
def Zb (b:jL):Bool:=b.1||((b.2.2==0)&&(nz b.2.1.1&&nz b.2.1.2))
noncomputable def bv (b:jL):AB:=bif b.1 then some (dv b.2.1,b.2.2)else none
noncomputable def lv (l:dJ):AL:=(bv l.1,bv l.2)
noncomputable def cv (c:bZ):AC:=(c.1,c.2.1,c.2.2.1,bv c.2.2.2)
noncomputable def mv (b:b_):M:=⟨b.2.1,b.2.2.map cv,b.1.map lv⟩
def Bd (b:jL):Prop:=Dn b.2.1 (dv b.2.1) SZ
theorem Bd.bk {b:jL}(h:Bd b):Bk (bv b):=by
  intro x w e
  unfold bv at e
  cases hb:b.1 with
  |false=>rw[hb]at e;cases e
  |true=>rw[hb]at e;cases e;exact h.norm
theorem am9 {r:fP}{q:Rat}(h:Rt r q SZ):lG.F (r,())=some (nz r,()):=by
  refine lG.of 0 r ?_
  have h1:=h.num.len
  have h2:=h.den.len
  unfold SZ at h1 h2
  have e:IntKind.i64.wrap ((List.length r.1.2:Int)+(List.length r.2:Int))=(List.length r.1.2:Int)+(List.length r.2:Int):=ng (by omega) (by omega)
  unfold lG.e nz
  cases r.1.1 with
  |true=>exact no rfl rfl
  |false=>exact yes rfl (by dsimp only;rw[e];rfl)
theorem Xj {b:jL}(h:Bd b):lH.F (b,())=some (Zb b,()):=by
  refine lH.of 0 b ?_
  unfold lH.e Zb
  cases hb:b.1 with
  |true=>exact yes rfl rfl
  |false=>
    refine no rfl ?_
    cases hw:(b.2.2==0)with
    |false=>exact no rfl rfl
    |true=>
      refine yes rfl (st (am9 h.a) ?_)
      cases nz b.2.1.1 with
      |false=>exact no rfl rfl
      |true=>exact yes rfl (st (am9 h.b) rfl)
theorem adt {b:jL}(hb:Bd b){a:cu}{x:Q2}(ha:Dn a x SZ):dW.F (b,a,())=some (xE (bv b) x,()):=by
  refine dW.of 0 b a ?_
  unfold dW.e bv
  cases h1:b.1 with
  |false=>exact no rfl rfl
  |true=>
    refine yes rfl (st (Dn.Cmp_F hb ha (by decide)) ?_)
    show some (decide (vH (dv b.2.1) x<0),())=some (decide (0<vH x (dv b.2.1)),())
    rw[decide_eq_decide.2 (zo (dv b.2.1) x).1]
theorem Ik {b:jL}(h:Bd b):gI.F (b,())=some (bI (bv b),()):=by
  refine gI.of 0 _ ?_
  unfold gI.e bv
  cases h1:b.1 with
  |false=>exact yes rfl rfl
  |true=>exact no rfl (st (Dn.Norm_F h (by decide)) rfl)
theorem MQ {l:dJ}(h1:Bd l.1)(h2:Bd l.2):bg.F (l,())=some (lI (lv l),()):=
  bg.of 0 _ (st (Ik h1) (st (Ik h2) rfl))
theorem Jw {c:bZ}(h:Bd c.2.2.2):bD.F (c,())=some (cI (cv c),()):=bD.of 0 _ (st (Ik h) rfl)
def wP (l:AL):Bool:=match l.1 with
  |none=>false
  |some (x,_)=>xE l.2 x
noncomputable def YF (l:dJ):Bool:=Zb l.1&&(Zb l.2&& !wP (lv l))
def aav (n:Nat)(oh p:Int)(c:bZ):Bool:=decide (0≤c.1∧c.1<n)&&(decide (p≤c.2.2.1)&&(decide (c.2.2.1≤oh)&&Zb c.2.2.2))
def Oa (n:Nat)(oh:Int):Int→List bZ→Bool
  |_,[]=>true
  |p,c::r=>aav n oh p c&&Oa n oh c.2.2.1 r
def loose (up:Bool)(was:AB)(x:Q2):Bool:=match was with
  |none=>true
  |some (y,_)=>tb up x y
def YG:List AL→List AC→Bool
  |_,[]=>true
  |l,c::r=>match own c.2.1 (l.getD c.1.toNat (none,none))with
    |none=>false
    |some (x,_)=>loose c.2.1 c.2.2.2 x&&YG (l.set c.1.toNat (put c.2.1 (l.getD c.1.toNat (none,none)) c.2.2.2)) r
noncomputable def Kv (b:b_):Bool:=decide (b.1.length≤65536∧0≤b.2.1∧b.2.1≤2147483647)&&(b.1.all YF&&(Oa b.1.length b.2.1 0 b.2.2&&YG (mv b).aP (mv b).changes.reverse))
def stp (ls:List AL)(c:AC):Sum (List AL) Bool:=match own c.2.1 (ls.getD c.1.toNat (none,none))with
  |none=> .inr false
  |some (x,_)=>bif loose c.2.1 c.2.2.2 x then .inl (ls.set c.1.toNat (put c.2.1 (ls.getD c.1.toNat (none,none)) c.2.2.2))else .inr false
noncomputable def stI:Sum (List AL) Bool→Sum bC Bool
  | .inl ls=> .inl (ls.map lI)
  | .inr b=> .inr b
theorem aif {ls:List AL}(hl:∀l∈ls,Bk l.1∧Bk l.2){c:AC}(hb:Bk c.2.2.2)(hc:0≤c.1∧c.1<ls.length):Ee (ls.map lI) (cI c)=some (stI (stp ls c)):=by
  obtain⟨v,up,oh,was⟩:=c
  have QC:(decide (0≤v)&&decide (v<((ls.map lI).length:Int)))=true:=by rw[List.length_map];exact kW hc
  have hg:List.getD (ls.map lI) v.toNat fD.d=lI (ls.getD v.toNat (none,none)):=getD_map
  have hm:=hl _ (U5 (z:=(none,none)) hc)
  unfold Ee stp
  dsimp only[cI]
  rw[hg]
  generalize ls.getD v.toNat (none,none)=l at hm
  obtain⟨lo,hi⟩:=l
  refine yes QC ?_
  cases up with
  |true=>
    refine yes rfl (yes QC ?_)
    cases hi with
    |none=>exact yes rfl rfl
    |some p=>
      obtain⟨x,w⟩:=p
      refine no rfl ?_
      have ha:=Rl hb (hm.2 x w rfl)
      cases was with
      |none=>exact no rfl (congrArg some (congrArg Sum.inl (sF ls v.toNat (lo,none))))
      |some q=>
        obtain⟨y,u⟩:=q
        refine yes rfl (st ha ?_)
        show(bif not (tb true x y)then _ else _)=some (stI (bif tb true x y then _ else _))
        cases tb true x y with
        |false=>rfl
        |true=>exact no rfl (congrArg some (congrArg Sum.inl (sF ls v.toNat (lo,some (y,u)))))
  |false=>
    refine no rfl ?_
    cases lo with
    |none=>exact yes rfl rfl
    |some p=>
      obtain⟨x,w⟩:=p
      refine no rfl ?_
      have ha:=Rk hb (hm.1 x w rfl)
      cases was with
      |none=>exact no rfl (congrArg some (congrArg Sum.inl (sF ls v.toNat (none,hi))))
      |some q=>
        obtain⟨y,u⟩:=q
        refine yes rfl (st ha ?_)
        show(bif not (tb false x y)then _ else _)=some (stI (bif tb false x y then _ else _))
        cases tb false x y with
        |false=>rfl
        |true=>exact no rfl (congrArg some (congrArg Sum.inl (sF ls v.toNat (some (y,u),hi))))
theorem YH {ls ls':List AL}{c:AC}(h:stp ls c= .inl ls'):ls'.length=ls.length∧ls'=ls.set c.1.toNat (put c.2.1 (ls.getD c.1.toNat (none,none)) c.2.2.2):=by
  unfold stp at h
  split at h
  · cases h
  · cases hl : loose c.2.1 c.2.2.2 _ with
    |false=>rw[hl]at h;cases h
    |true=>rw[hl]at h;cases h;exact⟨List.length_set ..,rfl⟩
theorem adu (ls:List AL)(c:AC)(r:List AC):YG ls (c::r)=match stp ls c with
    | .inl ls'=>YG ls' r
    | .inr b=>b:=by
  unfold stp
  rw[YG]
  cases own c.2.1 (ls.getD c.1.toNat (none,none))with
  |none=>rfl
  |some p=>
    obtain⟨x,w⟩:=p
    dsimp only
    cases loose c.2.1 c.2.2.2 x<;>rfl
theorem aii:∀{r:List AC} {ls:List AL},(∀l∈ls,Bk l.1∧Bk l.2)→(∀c∈r,Bk c.2.2.2∧0≤c.1∧c.1<ls.length)→gbk (ls.map lI) (r.map cI)=some (YG ls r)
  |[],ls,hl,hc=>rfl
  |c::r,ls,hl,hc=>by
    have h:=hc c (by simp)
    rw[List.map_cons,gbk,aif hl h.1 h.2,adu]
    cases e:stp ls c with
    |inr b=>rfl
    |inl ls'=>
      obtain⟨e1,e2⟩:=YH e
      exact aii (e2▸Rw hl _ (Rq (Ru hl _) h.1)) (fun c' hc'=>by rw[e1];exact hc c' (by simp[hc']))
theorem Xk {ls:List AL}{cs:List AC}(hl:∀l∈ls,Bk l.1∧Bk l.2)(hc:∀c∈cs,Bk c.2.2.2∧0≤c.1∧c.1<ls.length)(hn:cs.length<4611686018427387904):
    fG.fn (ls.map lI) (cs.map cI,())=some (YG ls cs.reverse,()):=by
  rw[fG.ah2]
  unfold Ph
  rw[if_pos,←List.map_reverse,aii hl (fun c h=>hc c (by simpa using h))]
  · rfl
  · refine ⟨by rw [List.length_map]; exact hn, fun zs => ∃ l2 : List AL, zs = l2.map lI ∧ (∀ l ∈ l2, Bk l.1 ∧ Bk l.2) ∧ l2.length = ls.length, ⟨ls, rfl, hl, rfl⟩, ?_⟩
    rintro zs x ⟨l2,rfl,h2,hlen⟩ hx
    obtain⟨c,hcm,rfl⟩:=List.mem_map.1 hx
    have h:=hc c hcm
    refine⟨_,aif h2 h.1 (by rw[hlen];exact h.2),fun zs2 e=> ?_⟩
    cases e2:stp l2 c with
    |inr b=>rw[e2]at e;cases e
    |inl ls'=>
      rw[e2]at e
      cases e
      obtain⟨e3,e4⟩:=YH e2
      exact⟨ls',rfl,e4▸Rw h2 _ (Rq (Ru h2 _) h.1),e3.trans hlen⟩
noncomputable def Res (b:b_)(ok:Bool):(Option cO)×(Int×Unit)×Unit:=bif ok then(some (mS (mv b)),((0:Int),()),())else(none,((81:Int),()),())
structure Hyp (b:b_):Prop where
  uo:∀l∈b.1,Bd l.1∧Bd l.2
  Jc:∀c∈b.2.2,Bd c.2.2.2
  nc:b.2.2.length≤1048576
theorem Hyp.bks {b:b_}(h:Hyp b):∀l∈(mv b).aP,Bk l.1∧Bk l.2:=fun l hl=>by
  obtain⟨a,ha,rfl⟩:=List.mem_map.1 hl
  exact⟨(h.uo a ha).1.bk,(h.uo a ha).2.bk⟩
def Gu (tr:List bZ):Nat→Int
  |0=>0
  |i+1=>(tr.getD i dN).2.2.1
theorem Ep {n:Nat}{oh p:Int}{c:bZ}:aav n oh p c=true↔(0≤c.1∧c.1<n)∧p≤c.2.2.1∧c.2.2.1≤oh∧Zb c.2.2.2=true:=by
  unfold aav
  simp only[Bool.and_eq_true,decide_eq_true_eq]
theorem agK (b:b_)(h:Hyp b)(hl:b.1.length≤65536):∀(d i:Nat),i+d=b.2.2.length→0≤Gu b.2.2 i→(∀c∈b.2.2.take i,0≤c.1∧c.1<b.1.length)→
    ∃j,∀k,dU.L13 (k+j) b.1 b.2.1 b.2.2 b.2.1 ((b.2.2.take i).map fun c=>cI (cv c)) true (b.1.map fun l=>lI (lv l)) b.2.2 b.2.2.length i=some (Res b (Oa b.1.length b.2.1 (Gu b.2.2 i) (b.2.2.drop i)&&YG (mv b).aP (mv b).changes.reverse),0,[]):=by
  obtain⟨ls,oh,tr⟩:=b
  have hn:tr.length≤1048576:=h.nc
  have hl:ls.length≤65536:=hl
  intro d
  induction d with
  |zero=>
    intro i hi hp hr
    obtain rfl:i=tr.length:=by simpa using hi
    refine⟨1,fun k=> ?_⟩
    rw[dU.Me]
    unfold dU.b13
    refine no (decide_eq_false (by omega)) (yes (decide_eq_true (by rw[List.length_map];show ls.length<_;omega)) ?_)
    have hgb:=Xk (ls:=ls.map lv) (cs:=tr.map cv) h.bks (fun c hc=>by
      obtain⟨a,ha,rfl⟩:=List.mem_map.1 hc
      refine⟨(h.Jc a ha).bk,?_⟩
      have:=hr a (by rw[List.take_length];exact ha)
      rw[List.length_map];exact this) (by rw[List.length_map];omega)
    rw[List.map_map,List.map_map]at hgb
    rw[List.take_length,List.drop_length]
    refine st hgb ?_
    show(bif not (YG (ls.map lv) (tr.map cv).reverse)then _ else _)=some (Res (ls,oh,tr) (true&&YG (ls.map lv) (tr.map cv).reverse),0,[])
    cases YG (ls.map lv) (tr.map cv).reverse with
    |false=>rfl
    |true=>
      refine no rfl ?_
      show some ((some ((oh,tr.map fun c=>cI (cv c)),(true,ls.map fun l=>lI (lv l))),((0:Int),()),()),0,[])=some ((some ((oh,(tr.map cv).map cI),(true,(ls.map lv).map lI)),((0:Int),()),()),0,[])
      rw[List.map_map,List.map_map];rfl
  |succ d ih=>
    intro i hi hp hr
    dsimp only at hi hp hr⊢
    have hil:i<tr.length:=by omega
    have QC:(decide (0≤(i:Int))&&decide ((i:Int)<(tr.length:Int)))=true:=by simp<;>omega
    have e1:IntKind.i64.wrap ((i:Int)+1)=((i+1:Nat):Int):=((ng (by omega) (by omega)).trans (by omega))
    have adw:tr.drop i=tr[i]::tr.drop (i+1):=List.drop_eq_getElem_cons hil
    have Vt:=h.Jc _ (List.getElem_mem hil)
    have hz:=Xj Vt
    have hcp:=Jw Vt
    have Qz:Gu tr (i+1)=(tr[i]).2.2.1:=by show(tr.getD i dN).2.2.1=_;rw[List.getD_eq_getElem?_getD,List.getElem?_eq_getElem hil];rfl
    have Aw:tr.take (i+1)=tr.take i++[tr[i]]:=List.take_succ_eq_append_getElem hil
    rw[adw]
    show ∃j,∀k,_=some (Res (ls,oh,tr) ((aav ls.length oh (Gu tr i) tr[i]&&Oa ls.length oh (tr[i]).2.2.1 (tr.drop (i+1)))&&_),0,[])
    cases lU:aav ls.length oh (Gu tr i) tr[i]with
    |true=>
      obtain⟨g1,g2,g3,g4⟩:=Ep.1 lU
      obtain⟨j,hj⟩:=ih (i+1) (by show i+1+d=tr.length;omega) (by show 0≤Gu tr (i+1);rw[Qz];omega) (fun c hc=>by
        have hc:c∈tr.take (i+1):=hc
        rw[Aw]at hc
        rcases List.mem_append.1 hc with hc|hc
        · exact hr c hc
        · obtain rfl : c = tr[i] := by simpa using hc
          exact g1)
      refine⟨j+1,fun k=> ?_⟩
      have hj':=hj k
      dsimp only at hj'
      rw[Qz,Aw,List.map_append,List.map_cons,List.map_nil]at hj'
      rw[←Nat.add_assoc,dU.Me]
      unfold dU.b13
      rw[wF tr dN hil]
      generalize hc:tr[i]=c at*
      rw[g4]at hz
      refine yes (decide_eq_true (by omega)) (yes QC (no (decide_eq_false (by omega)) (no (decide_eq_false (by rw[List.length_map];omega)) (no (decide_eq_false (by omega)) (no (decide_eq_false (by omega)) ?_)))))
      have hlen:List.length ((tr.take i).map fun c=>cI (cv c))+1<925904528653:=by rw[List.length_map,List.length_take];omega
      cases i with
      |zero=>
        refine no (decide_eq_false (by omega)) (st hz (no rfl (st hcp (yes (decide_eq_true hlen) ?_))))
        dsimp only
        rw[e1]
        exact hj'
      |succ i0=>
        have e2:IntKind.i64.wrap (((i0+1:Nat):Int)-1)=(i0:Int):=(ng (by omega) (by omega)).trans (by omega)
        refine yes (decide_eq_true (by omega)) ?_
        dsimp only
        rw[e2,wF tr dN (show i0<tr.length by omega)]
        have hpv:Gu tr (i0+1)=(tr[i0]'(by omega)).2.2.1:=by show(tr.getD i0 dN).2.2.1=_;rw[List.getD_eq_getElem?_getD,List.getElem?_eq_getElem (by omega)];rfl
        rw[hpv]at g2
        refine yes (by simp<;>omega) (no (decide_eq_false (by omega)) (st hz (no rfl (st hcp (yes (decide_eq_true hlen) ?_)))))
        rw[e1]
        exact hj'
    |false=>
      refine⟨1,fun k=> ?_⟩
      rw[dU.Me]
      unfold dU.b13
      rw[wF tr dN hil]
      generalize hc:tr[i]=c at*
      show _=some (Res (ls,oh,tr) false,0,[])
      refine yes (decide_eq_true (by omega)) (yes QC ?_)
      by_cases c1:c.1<0
      · exact yes (decide_eq_true c1) rfl
      refine no (decide_eq_false c1) ?_
      by_cases c2:c.1≥(ls.length:Int)
      · exact yes (decide_eq_true (by rw[List.length_map];exact c2)) rfl
      refine no (decide_eq_false (by rw[List.length_map];exact c2)) ?_
      by_cases c3:c.2.2.1<0
      · exact yes (decide_eq_true c3) rfl
      refine no (decide_eq_false c3) ?_
      by_cases c4:c.2.2.1>oh
      · exact yes (decide_eq_true c4) rfl
      refine no (decide_eq_false c4) ?_
      have hz4:Gu tr i≤c.2.2.1→Zb c.2.2.2=false:=fun hp=>by
        cases hz9:Zb c.2.2.2 with
        |false=>rfl
        |true=>rw[Ep.2 ⟨⟨by omega,by omega⟩,hp,by omega,hz9⟩]at lU;cases lU
      cases i with
      |zero=>
        rw[hz4 (by show(0:Int)≤_;omega)]at hz
        exact no (decide_eq_false (by omega)) (st hz (yes rfl rfl))
      |succ i0=>
        have e2:IntKind.i64.wrap (((i0+1:Nat):Int)-1)=(i0:Int):=(ng (by omega) (by omega)).trans (by omega)
        refine yes (decide_eq_true (by omega)) ?_
        dsimp only
        rw[e2,wF tr dN (show i0<tr.length by omega)]
        have hpv:Gu tr (i0+1)=(tr[i0]'(by omega)).2.2.1:=by show(tr.getD i0 dN).2.2.1=_;rw[List.getD_eq_getElem?_getD,List.getElem?_eq_getElem (by omega)];rfl
        refine yes (by simp<;>omega) ?_
        by_cases c5:c.2.2.1<(tr[i0]'(by omega)).2.2.1
        · exact yes (decide_eq_true c5) rfl
        refine no (decide_eq_false c5) ?_
        rw[hz4 (by rw[hpv];omega)]at hz
        exact st hz (yes rfl rfl)
theorem aj8 (b:b_)(h:Hyp b)(hl:b.1.length≤65536):∀(d i:Nat),i+d=b.1.length→
    ∃j,∀k,dU.L6 (k+j) b.1 b.2.1 b.2.2 b.2.1 true ((b.1.take i).map fun l=>lI (lv l)) b.1 b.1.length i=some (Res b ((b.1.drop i).all YF&&(Oa b.1.length b.2.1 0 b.2.2&&YG (mv b).aP (mv b).changes.reverse)),0,[]):=by
  intro d
  induction d with
  |zero=>
    intro i hi
    obtain rfl:i=b.1.length:=by simpa using hi
    obtain⟨j,hj⟩:=agK b h hl b.2.2.length 0 (by simp) (Int.le_refl _) (fun c hc=>by simp at hc)
    refine⟨j+1,fun k=> ?_⟩
    rw[←Nat.add_assoc,dU.mJ]
    unfold dU.b6
    refine no (decide_eq_false (by omega)) ?_
    rw[List.take_length,List.drop_length]
    exact hj k
  |succ d ih=>
    intro i hi
    have hil:i<b.1.length:=by omega
    have QC:(decide (0≤(i:Int))&&decide ((i:Int)<(b.1.length:Int)))=true:=by simp<;>omega
    have e1:IntKind.i64.wrap ((i:Int)+1)=((i+1:Nat):Int):=((ng (by omega) (by omega)).trans (by omega))
    have adw:b.1.drop i=b.1[i]::b.1.drop (i+1):=List.drop_eq_getElem_cons hil
    have Aw:b.1.take (i+1)=b.1.take i++[b.1[i]]:=List.take_succ_eq_append_getElem hil
    obtain⟨wQ,Qa⟩:=h.uo _ (List.getElem_mem hil)
    have z1:=Xj wQ
    have z2:=Xj Qa
    have hcp:=MQ wQ Qa
    have R_:=adt Qa wQ
    obtain⟨j,hj⟩:=ih (i+1) (by omega)
    refine⟨j+1,fun k=> ?_⟩
    have hj':=hj k
    rw[Aw,List.map_append,List.map_cons,List.map_nil]at hj'
    have hlen:List.length ((b.1.take i).map fun l=>lI (lv l))+1<549755813888:=by rw[List.length_map,List.length_take];omega
    rw[←Nat.add_assoc,dU.mJ,adw,List.all_cons]
    unfold dU.b6
    rw[wF b.1 aA hil]
    have Nv:∀l:dJ,YF l=(Zb l.1&&(Zb l.2&& !wP (lv l))):=fun l=>rfl
    have hcr:∀l:dJ,wP (lv l)=bif l.1.1 then xE (bv l.2) (dv l.1.2.1)else false:=fun l=>by
      unfold wP lv bv
      cases l.1.1<;>rfl
    rw[Nv]
    have hcr:=hcr b.1[i]
    generalize b.1[i]=l at*
    refine yes (decide_eq_true (by omega)) (yes QC (st z1 ?_))
    cases g1:Zb l.1 with
    |false=>rw[Bool.false_and];exact yes rfl rfl
    |true=>
      refine no rfl (st z2 ?_)
      cases g2:Zb l.2 with
      |false=>rw[Bool.true_and,Bool.false_and];exact yes rfl rfl
      |true=>
        refine no rfl ?_
        rw[Bool.true_and,Bool.true_and]
        rcases Bool.eq_false_or_eq_true l.1.1 with g3|g3
        · rw [show wP (lv l) = xE (bv l.2) (dv l.1.2.1) from by rw [hcr, g3]; rfl]
          refine yes g3 (st R_ ?_)
          cases xE (bv l.2) (dv l.1.2.1)with
          |true=>exact yes rfl rfl
          |false=>
            refine no rfl (st hcp (yes (decide_eq_true hlen) ?_))
            dsimp only
            rw[e1]
            exact hj'
        · rw [show wP (lv l) = false from by rw [hcr, g3]; rfl]
          refine no g3 (st hcp (yes (decide_eq_true hlen) ?_))
          dsimp only
          rw[e1]
          exact hj'
theorem aj9 (b:b_)(h:Hyp b):dU.F () (b,())=some (Res b (Kv b)):=by
  refine dU.of () b _ fun G=> ?_
  unfold dU.e Kv
  by_cases c1:b.1.length≤65536
  · obtain ⟨j, hj⟩ := aj8 b h c1 b.1.length 0 (by simp)
    refine⟨0+j,?_⟩
    refine no (decide_eq_false (by omega)) ?_
    by_cases c2:b.2.1<0
    · rw [decide_eq_false (p := b.1.length ≤ 65536 ∧ 0 ≤ b.2.1 ∧ b.2.1 ≤ 2147483647) (by omega)]
      exact yes (decide_eq_true c2) rfl
    refine no (decide_eq_false c2) ?_
    by_cases c3:b.2.1>2147483647
    · rw [decide_eq_false (p := b.1.length ≤ 65536 ∧ 0 ≤ b.2.1 ∧ b.2.1 ≤ 2147483647) (by omega)]
      exact yes (decide_eq_true c3) rfl
    refine no (decide_eq_false c3) ?_
    rw[decide_eq_true (p:=b.1.length≤65536∧0≤b.2.1∧b.2.1≤2147483647) ⟨c1,by omega,by omega⟩]
    exact hj 0
  · rw [decide_eq_false (p := b.1.length ≤ 65536 ∧ 0 ≤ b.2.1 ∧ b.2.1 ≤ 2147483647) (by omega)]
    exact⟨0,yes (decide_eq_true (by omega)) rfl⟩
def Xl (l:List AL):Prop:=∀a∈l,wP a=false
def Am:List AL→List AC→Prop
  |l,[]=>Xl l
  |l,c::r=>Xl l∧(∃x w,own c.2.1 (l.getD c.1.toNat (none,none))=some (x,w)∧loose c.2.1 c.2.2.2 x=true)∧Am (l.set c.1.toNat (put c.2.1 (l.getD c.1.toNat (none,none)) c.2.2.2)) r
theorem Am.am_:∀{r:List AC} {l:List AL},Am l r→Xl l
  |[],_,h=>h
  |_::_,_,h=>h.1
theorem Am.gb:∀{r:List AC} {l:List AL},Am l r→YG l r=true
  |[],_,_=>rfl
  |c::r,l,h=>by
    obtain⟨_,⟨x,w,e1,e2⟩,h3⟩:=h
    rw[YG,e1]
    dsimp only
    rw[e2,Bool.true_and]
    exact h3.gb
theorem Am.undo (k:Int):∀{r:List AC} {l:List AL},Am l r→Am (Tryz.undo k r l).2 (Tryz.undo k r l).1
  |[],_,h=>h
  |c::r,l,h=>by
    by_cases hk:c.2.2.1≤k
    · rw[Aj hk];exact h
    · rw[Ak hk];exact Am.undo k h.2.2
theorem U9 (k:Int):∀{r:List AC} {l:List AL} {c:AC},c∈(Tryz.undo k r l).1→c∈r
  |[],_,_,h=>h
  |d::r,l,c,h=>by
    by_cases hk:d.2.2.1≤k
    · rw[Aj hk]at h;exact h
    · rw[Ak hk]at h;exact List.mem_cons_of_mem _ (U9 k h)
theorem Xl.app {l:List AL}(h:Xl l):Xl (l++[(none,none)]):=fun a ha=>by
  rcases List.mem_append.1 ha with ha|ha
  · exact h a ha
  · obtain rfl : a = (none, none) := by simpa using ha
    rfl
theorem Am.app:∀{r:List AC} {l:List AL},(∀c∈r,0≤c.1∧c.1<l.length)→Am l r→Am (l++[(none,none)]) r
  |[],_,_,h=>Xl.app h
  |c::r,l,hc,h=>by
    obtain⟨h1,⟨x,w,e1,e2⟩,h3⟩:=h
    have hi:c.1.toNat<l.length:=by have:=hc c (by simp);omega
    have hg:(l++[(none,none)]).getD c.1.toNat (none,none)=l.getD c.1.toNat (none,none):=by
      rw[List.getD_eq_getElem?_getD,List.getD_eq_getElem?_getD,List.getElem?_append_left hi]
    refine⟨h1.app,⟨x,w,by rw[hg];exact e1,e2⟩,?_⟩
    rw[hg,List.set_append_left _ _ hi]
    exact Am.app (fun d hd=>by rw[List.length_set];exact hc d (by simp[hd])) h3
structure Sn (m:M):Prop where
  Jy:Am m.aP m.changes.reverse
  lvs:∀c∈m.changes,0≤c.2.2.1
  lv:Lv m
theorem agM (up:Bool)(l:AL)(b:AB):own up (put up l b)=b:=by cases up<;>rfl
theorem agN (up:Bool)(l:AL)(b:AB):put up (put up l b) (own up l)=l:=by cases up<;>rfl
theorem YI {m:M}{K:Nat}(h:m.ok K)(s:Sn m)(up:Bool)(v:Int)(x:Q2)(w:Int):Sn (rF up m v x w).1:=by
  refine⟨?_,?_,agC s.lv up v x w⟩
  · unfold rF
    split
    · rename_i hv
      dsimp only
      have hi:v.toNat<m.aP.length:=by omega
      split
      · exact s.Jy
      · rename_i hk
        split
        · exact s.Jy
        · rename_i Hz
          show Am (m.aP.set v.toNat (put up (m.aP.getD v.toNat (none,none)) (some (x,w)))) ((m.changes++[_]).reverse)
          rw[List.reverse_append]
          show Am _ ((v,up,m.level,own up (m.aP.getD v.toNat (none,none)))::m.changes.reverse)
          have uP:(m.aP.set v.toNat (put up (m.aP.getD v.toNat (none,none)) (some (x,w)))).getD v.toNat (none,none)=put up (m.aP.getD v.toNat (none,none)) (some (x,w)):=by
            rw[List.getD_eq_getElem?_getD,List.getElem?_set_self hi];rfl
          refine⟨fun a ha=> ?_,⟨x,w,?_,?_⟩,?_⟩
          · rcases List.mem_or_eq_of_mem_set ha with ha | rfl
            · exact s.Jy.am_ a ha
            · generalize m.aP.getD v.toNat (none, none) = l at Hz
              have Hz:DJ up (Sz up l) x=false:=by simpa using Hz
              cases up with
              |true=>
                obtain⟨lo,hi⟩:=l
                cases lo with
                |none=>rfl
                |some p=>exact Hz
              |false=>
                rw[Pz]at Hz
                exact Hz
          · rw[uP,agM]
          · show loose up (own up (m.aP.getD v.toNat (none, none))) x = true
            generalize own up (m.aP.getD v.toNat (none,none))=b at hk
            cases b with
            |none=>rfl
            |some p=>
              have hk:¬(!tb up x p.1)=true:=hk
              show tb up x p.1=true
              simpa using hk
          · rw [uP]
            show Am ((m.aP.set v.toNat _).set v.toNat (put up (put up (m.aP.getD v.toNat (none,none)) (some (x,w))) (own up (m.aP.getD v.toNat (none,none))))) m.changes.reverse
            rw[agN,List.set_set]
            have:m.aP.set v.toNat (m.aP.getD v.toNat (none,none))=m.aP:=by
              rw[List.getD_eq_getElem?_getD,List.getElem?_eq_getElem hi]
              exact List.set_getElem_self hi
            rw[this]
            exact s.Jy
    · exact s.Jy
  · unfold rF
    split
    · dsimp only
      split
      · exact s.lvs
      · split
        · exact s.lvs
        · intro c hc
          rcases List.mem_append.1 hc with hc|hc
          · exact s.lvs c hc
          · obtain rfl : c = (v, up, m.level, own up (m.aP.getD v.toNat (none, none))) := by simpa using hc
            exact h.oh.1
    · exact s.lvs
theorem agO {m:M}{K:Nat}(h:m.ok K)(s:Sn m):Sn (tq m).1:=by
  refine⟨?_,?_,agE s.lv⟩
  · unfold tq
    split
    · exact s.Jy
    · exact Am.app (fun c hc=>(h.Jc c (by simpa using hc)).2) s.Jy
  · unfold tq
    split<;>exact s.lvs
theorem agP {m:M}(s:Sn m)(k:Int):Sn (vN m k).1:=by
  refine⟨?_,?_,agF s.lv k⟩
  · unfold vN
    split
    · exact s.Jy
    · show Am _ (List.reverse (List.reverse _))
      rw[List.reverse_reverse]
      exact s.Jy.undo k
  · unfold vN
    split
    · exact s.lvs
    · intro c hc
      have hc:c∈(undo k m.changes.reverse m.aP).1.reverse:=hc
      exact s.lvs c (by simpa using U9 k (List.mem_reverse.1 hc))
theorem agQ {m:M}{K:Nat}(h:m.ok K)(s:Sn m)(o:kQ):Sn (zq m o):=by
  unfold zq
  split
  · exact YI h s _ _ _ _
  split
  · exact YI h s _ _ _ _
  split
  · exact⟨s.Jy,s.lvs,agD s.lv⟩
  split
  · exact agP s _
  split
  · exact agO h s
  · exact s
theorem aj_ (n:Nat):Sn (Jv n):=⟨fun a ha=>(by rw[List.eq_of_mem_replicate ha];rfl),fun c hc=>(nomatch hc),agH n⟩
theorem YJ:∀{os:List kQ} {m:M} {K:Nat},m.ok K→Sn m→(∀o∈os,OkO o)→Sn (PE m os)
  |[],_,_,_,s,_=>s
  |o::os,m,K,h,s,ho=>YJ (os:=os) (wo h (ho o (by simp))) (agQ h s o) fun o' Nq=>ho o' (by simp[Nq])
theorem YK (x:Q2):dv (Ai x)=x:=Prod.ext (Rj x.1) (Rj x.2)
theorem adx (b:AB):bv (bI b)=b:=by
  match b with
  |none=>rfl
  |some (x,w)=>exact congrArg (fun y=>some (y,w)) (YK x)
theorem aij (l:AL):lv (lI l)=l:=Prod.ext (adx l.1) (adx l.2)
theorem ana (c:AC):cv (cI c)=c:=by
  obtain⟨a,b,d,e⟩:=c
  show(a,b,d,bv (bI e))=_
  rw[adx]
theorem aik (m:M):mv (mR m)=m:=by
  obtain⟨oh,cs,ls⟩:=m
  show M.mk oh ((cs.map cI).map cv) ((ls.map lI).map lv)=_
  rw[List.map_map,List.map_map,show cv∘cI=id from funext ana,show lv∘lI=id from funext aij,List.map_id,List.map_id]
theorem ady (b:AB):Zb (bI b)=true:=by
  match b with
  |none=>rfl
  |some (x,w)=>rfl
theorem adz {b:AB}(h:Bk b):Bd (bI b):=by
  match b,h with
  |none,_=>
    have e:dv QI=(0,0):=agJ
    show Dn QI (dv QI) SZ
    rw[e];exact YA
  |some (x,w),h=>
    show Dn (Ai x) (dv (Ai x)) SZ
    rw[YK];exact h x w rfl
theorem akb {m:M}{K:Nat}(h:m.ok K)(hK:K≤1048576):Hyp (mR m):=by
  refine⟨fun l hl=> ?_,fun c hc=> ?_,by rw[agw];have:=h.nc;omega⟩
  · obtain ⟨a, ha, rfl⟩ := List.mem_map.1 hl
    exact⟨adz (h.uo a ha).1,adz (h.uo a ha).2⟩
  · obtain ⟨a, ha, rfl⟩ := List.mem_map.1 hc
    exact adz (h.Jc a ha).1
def U_:Int→List bZ→Int
  |p,[]=>p
  |_,c::r=>U_ c.2.2.1 r
theorem PG (n:Nat)(oh:Int)(c:bZ):∀(a:List bZ) (p:Int),Oa n oh p (a++[c])=(Oa n oh p a&&aav n oh (U_ p a) c)
  |[],p=>by simp[Oa,U_]
  |d::a,p=>by simp only[List.cons_append,Oa,U_,PG n oh c a,Bool.and_assoc]
theorem MR (c:bZ):∀(a:List bZ) (p:Int),U_ p (a++[c])=c.2.2.1
  |[],p=>rfl
  |d::a,p=>MR c a _
theorem YL (n:Nat)(oh:Int):∀{r:List AC} {k:Int},Yy r k→k≤oh→(∀c∈r,(0≤c.1∧c.1<n)∧0≤c.2.2.1)→Oa n oh 0 ((r.reverse).map cI)=true
  |[],_,_,_,_=>rfl
  |c::r,k,h,hk,hc=>by
    rw[List.reverse_cons,List.map_append,List.map_cons,List.map_nil,PG,YL n oh h.2 (Int.le_trans h.1 hk) fun d hd=>hc d (by simp[hd]),Bool.true_and]
    have hcc:=hc c (by simp)
    refine Ep.2 ⟨hcc.1,?_,Int.le_trans h.1 hk,ady c.2.2.2⟩
    cases r with
    |nil=>exact hcc.2
    |cons d r=>
      rw[List.reverse_cons,List.map_append,List.map_cons,List.map_nil,MR]
      exact h.2.1
theorem agR {m:M}{K:Nat}(h:m.ok K)(hK:K≤1048576)(s:Sn m):Kv (mR m)=true:=by
  have hl:=h.oh
  unfold Kv
  rw[aik,aaq,s.Jy.gb,Bool.and_true]
  rw[decide_eq_true (p:=m.aP.length≤65536∧0≤(mR m).2.1∧(mR m).2.1≤2147483647) ⟨h.nl,hl.1,by show m.level≤_;omega⟩,Bool.true_and,Bool.and_eq_true]
  refine⟨List.all_eq_true.2 fun l hl=> ?_,?_⟩
  · obtain ⟨a, ha, rfl⟩ := List.mem_map.1 hl
    unfold YF
    rw[aij,s.Jy.am_ a ha]
    show(Zb (bI a.1)&&(Zb (bI a.2)&& !false))=true
    rw[ady,ady];rfl
  · have := YL m.aP.length m.level s.lv (Int.le_refl _) fun c hc => ⟨(h.Jc c (by simpa using hc)).2, s.lvs c (by simpa using hc)⟩
    rw[List.reverse_reverse]at this
    exact this
end Go.Fx.Tryz
