/- A function that is lent a variable, or given rows, or makes a variable: its evaluation, its contract. -/
import Derived.Test.YthmdbafinpmojaaGreatEv23
namespace Go.Fx
open Go Go.RowKit
set_option linter.unusedVariables false
set_option linter.unusedSimpArgs false
def ghosts (G:Gh):Option Rcv→Nat×List Value
 |none=>(0,[])
 |some r=>(G.b,(List.range (r.pre+r.post)).map G.v)
theorem evalX_mono {q:XSpec}{C:Cals}{T:Tab}{f:Func}{k k':Nat}{G:Gh}{d:rcvT q.rcv}{x:argT q.ps}{y:q.Res}(hk:k≤k')(h:evalX q C T f k G d x=some y):evalX q C T f k' G d x=some y:=by
 unfold evalX at h⊢
 obtain⟨s,h1,h2⟩:=Option.bind_eq_some_iff.1 h
 rw[h1]
 exact go_mono (fun j s h=>heads_mono k k' j s hk h) _ _ _ h2
open Classical in
noncomputable def limX (q:XSpec)(C:Cals)(T:Tab)(f:Func)(d:rcvT q.rcv)(x:argT q.ps):Option (newT q.nw×argT q.rs×rcvT q.rcv):=
 if h:∃y:newT q.nw×argT q.rs×rcvT q.rcv,∀G,∃k,evalX q C T f k G d x=some (y,ghosts G q.rcv)then some (Classical.choose h)else none
theorem limX_spec {q:XSpec}{C:Cals}{T:Tab}{f:Func}{d:rcvT q.rcv}{x:argT q.ps}{y:newT q.nw×argT q.rs×rcvT q.rcv}(h:limX q C T f d x=some y):∀G,∃k,evalX q C T f k G d x=some (y,ghosts G q.rcv):=by
 unfold limX at h
 split at h
 ·rename_i hex
  obtain rfl:=Option.some.inj h
  exact Classical.choose_spec hex
 ·cases h
theorem limX_of {q:XSpec}{C:Cals}{T:Tab}{f:Func}{d:rcvT q.rcv}{x:argT q.ps}(y:newT q.nw×argT q.rs×rcvT q.rcv)(h:∀G,∃k,evalX q C T f k G d x=some (y,ghosts G q.rcv)):limX q C T f d x=some y:=by
 have hex:∃y:newT q.nw×argT q.rs×rcvT q.rcv,∀G,∃k,evalX q C T f k G d x=some (y,ghosts G q.rcv):=⟨y,h⟩
 unfold limX
 rw[dif_pos hex]
 obtain⟨k1,h1⟩:=h ⟨0,fun _=>undef⟩
 obtain⟨k2,h2⟩:=Classical.choose_spec hex ⟨0,fun _=>undef⟩
 have h3:=evalX_mono (Nat.le_max_left k1 k2) h1
 have h4:=evalX_mono (Nat.le_max_right k1 k2) h2
 rw[h3]at h4
 have h5:=Option.some.inj h4
 exact congrArg some (congrArg Prod.fst h5).symm
noncomputable def XSpec.sig (q:XSpec)(C:Cals)(T:Tab)(f:Func):XSig:=⟨q.rcv,q.nilr,q.ps,q.pown,q.nw,q.rs,q.own,limX q C T f⟩
section
variable {P:Program} {T:Tab} {C:Cals} {w:World} {may:Nat→Prop} {ow:Ow} {m:Mem} {s:S} {a:Act}
theorem rawsOf_rel {ok:Nat→Prop}:∀{ls:List Leaf} {zs us:List Value},rawsOf ls=some zs→F2 (LfRel w ok may ow) ls us→us=zs∧∀u∈us,u.oneCell'=true
 |[],zs,us,h,hF=>by
  obtain rfl:=Option.some.inj h
  obtain rfl:=hF.nil_left
  exact⟨rfl,fun u hu=>by simp at hu⟩
 |l::ls,zs,[],h,hF=>hF.elim
 |l::ls,zs,u::us,h,hF=>by
  unfold rawsOf at h
  split at h
  ·rename_i e;cases e
  ·rename_i fr v r e
   injection e with e1 e2
   subst e1 e2
   split at h
   ·rename_i q hq
    obtain rfl:=Option.some.inj h
    obtain⟨h1,h2⟩:=rawsOf_rel hq hF.2
    have h3:[u]=[v]∧v.oneCell'=true:=hF.1
    have h4:u=v:=by have:=h3.1;injection this
    subst h4
    refine⟨by rw[h1],fun z hz=> ?_⟩
    rcases List.mem_cons.1 hz with rfl|hz
    ·exact h3.2
    ·exact h2 z hz
   ·cases h
  ·cases h
theorem out_rcv {s':S}(M:MemRel w may ow m)(hbx:m.boxes=s'.m.boxes){rcv:Option Rcv}{nilr:Bool}{z:List Leaf×Option Nat×Nat×List Value}{d:rcvT rcv}{G:Gh}(h:outR s' rcv=some z)(hd:packR m rcv z.1=some d)(ho:z.1.all (ownLf m)=true)(hg:z.2.2=ghosts G rcv)
  (hs:SVRel w (okOf ow s'.m) may ow s'.m (s'.get 0) (a.tmps.getD 0 undef)):
  ∃rv0 ids0 bb,Made w may ow m (thawL 0 (rcvL rcv d)).2 rv0 ids0∧ids0.filterMap id=ownIds z.1∧bb.length=(entR G (thawL 0 (rcvL rcv d)).1 rcv nilr).2.length∧z.2.1.toList.length=bb.length∧(∀rc,rcv=some rc→bb=[G.b])∧
   ∀(i:Nat) (bx:Box),(entR G (thawL 0 (rcvL rcv d)).1 rcv nilr).2[i]? =some bx→∃g b vs,bb[i]? =some g∧z.2.1.toList[i]? =some b∧blk ow m (.box b)=some g∧w.heap[g]? =some (.cells vs.toArray bx.t (0,0))∧
    ∀(ok' may':Nat→Prop) (o':Ow),RvAt 0 rv0 o'.rv→F2 (LfRel w ok' may' o') bx.ls vs:=by
 cases rcv with
 |none=>
  obtain rfl:=Option.some.inj h
  exact⟨[],[],[],Made.nil,rfl,by cases nilr<;>rfl,rfl,(fun rc e=>by cases e),fun i bx e=>by cases nilr<;>simp[entR]at e⟩
 |some rc=>
  simp only[outR]at h
  split at h
  case h_2=>cases h
  rename_i b o g hget
  rw[hget]at hs
  obtain⟨hgb,hv⟩:=hs
  cases hb:s'.m.box? b with
  |none=>simp[hb]at h
  |some bx=>
   simp only[hb]at h
   obtain⟨hc,h2⟩:=cond_none h
   simp only[Bool.and_eq_true]at hc
   obtain⟨⟨ho1,ht⟩,hl⟩:=hc
   have ht:=Nat.eq_of_beq_eq_true ht
   have hl:=Nat.eq_of_beq_eq_true hl
   split at h2
   case h_2=>cases h2
   rename_i zs hzs
   obtain rfl:=Option.some.inj h2
   obtain⟨rfl,rfl⟩:=Prod.mk.inj (hg:(g,zs)=(G.b,(List.range (rc.pre+rc.post)).map G.v))
   have hbm:m.box? b=some bx:=by unfold Mem.box? at hb⊢;rw[hbx];exact hb
   obtain⟨γ,hγ,vs,hcell,hls⟩:=M.boxes b bx hbm
   have hlv:vs.length=rc.pre+rc.k.n+rc.post:=by rw[←hl];exact hls.len.symm
   obtain rfl:G.b=γ:=Option.some.inj (Option.some.inj (hgb.symm.trans hγ))
   obtain⟨rv0,ids0,m0,i0,f0⟩:=thawL_own M (k:=rc.k) 0 ho ((hls.drop rc.pre).take rc.k.n) hd
   obtain⟨hz1,hz2⟩:=rawsOf_rel hzs ((hls.take rc.pre).append (hls.drop (rc.pre+rc.k.n)))
   have hget1:∀j,j<rc.pre→vs[j]? =some (G.v j):=by
    intro j hj
    have:(vs.take rc.pre++vs.drop (rc.pre+rc.k.n))[j]? =((List.range (rc.pre+rc.post)).map G.v)[j]? :=by rw[hz1]
    rw[List.getElem?_append_left (by simp;omega),List.getElem?_take,if_pos hj]at this
    rw[this,List.getElem?_map,List.getElem?_range (by omega)];rfl
   have hget2:∀j,j<rc.post→vs[rc.pre+rc.k.n+j]? =some (G.v (rc.pre+j)):=by
    intro j hj
    have:(vs.take rc.pre++vs.drop (rc.pre+rc.k.n))[rc.pre+j]? =((List.range (rc.pre+rc.post)).map G.v)[rc.pre+j]? :=by rw[hz1]
    rw[List.getElem?_append_right (by simp;omega),List.getElem?_drop]at this
    rw[show rc.pre+rc.k.n+(rc.pre+j-(vs.take rc.pre).length)=rc.pre+rc.k.n+j by simp;omega]at this
    rw[this,List.getElem?_map,List.getElem?_range (by omega)];rfl
   have hone:∀(j:Nat) (u:Value),vs[j]? =some u→u.oneCell'=true:=fun j u hu=>F2.ones hls u (List.mem_of_getElem? hu)
   refine⟨rv0,ids0,[G.b],m0,i0,rfl,rfl,(fun rc' e=>rfl),fun i bx' e=> ?_⟩
   cases i with
   |succ i=>cases nilr<;>simp[entR]at e
   |zero=>
    have e:some (⟨rc.t,raws G 0 rc.pre++(thawL 0 (rcvL (some rc) d)).1++raws G rc.pre rc.post⟩:Box)=some bx':=by cases nilr<;>exact e
    obtain rfl:=Option.some.inj e
    refine⟨G.b,b,vs,rfl,rfl,blk_box hbm hγ,by rw[hcell,ht],fun ok' may' o' hrv=> ?_⟩
    have e1:vs=vs.take rc.pre++((vs.drop rc.pre).take rc.k.n++(vs.drop rc.pre).drop rc.k.n):=by rw[List.take_append_drop,List.take_append_drop]
    rw[e1,List.append_assoc]
    refine F2.append (raws_rel (by simp;omega) fun j u hu=> ?_) (F2.append (f0 ok' may' o' hrv) (raws_rel (by simp;omega) fun j u hu=> ?_))
    ·have hj:j<rc.pre:=by
      have:=(List.getElem?_eq_some_iff.1 hu).1
      simp at this;omega
     rw[List.getElem?_take,if_pos hj]at hu
     rw[Nat.zero_add]
     exact⟨Option.some.inj ((hget1 j hj).symm.trans hu),hone j u hu⟩
    ·rw [List.getElem?_drop,List.getElem?_drop]at hu
     have hj:j<rc.post:=by
      have:=(List.getElem?_eq_some_iff.1 hu).1
      omega
     exact⟨Option.some.inj ((hget2 j hj).symm.trans (by rw[Nat.add_assoc];exact hu)),hone _ u hu⟩
theorem out_new {s':S}(M:MemRel w may ow m)(hbx:m.boxes=s'.m.boxes)(F:FrRel w (okOf ow s'.m) may ow s' a){nw:Option New}{l:List ResultVar}{z:List Leaf×Option Nat×List ResultVar}{nv:newT nw}(n:Nat)(h:outN T s' nw l=some z)(hd:packN m nw z.2.1 z.1=some nv)(ho:z.1.all (ownLf m)=true):
  ∃rv1 ids1 bb,Made w may ow m (thawL n (newL nw nv)).2 rv1 ids1∧ids1.filterMap id=ownIds z.1∧(∀sh,bb.length=(xnew sh (thawL n (newL nw nv)).1 nw nv).2.length)∧z.2.1.toList.length=bb.length∧
   (∀(sh i:Nat) (bx:Box),(xnew sh (thawL n (newL nw nv)).1 nw nv).2[i]? =some bx→∃g b vs,bb[i]? =some g∧z.2.1.toList[i]? =some b∧blk ow m (.box b)=some g∧w.heap[g]? =some (.cells vs.toArray bx.t (0,0))∧
    ∀(ok' may':Nat→Prop) (o':Ow),RvAt n rv1 o'.rv→F2 (LfRel w ok' may' o') bx.ls vs)∧
   ((nw=none∧l=z.2.2∧∀sh,(xnew sh (thawL n (newL nw nv)).1 nw nv).1=none)∨∃t u,l= .tmp t::z.2.2∧a.tmps.getD t undef=u∧∀(sh:Nat) (bbl:List Nat) (o':Ow),bbl.length=sh→o'.bb=(bbl++bb).map some→∃hd,(xnew sh (thawL n (newL nw nv)).1 nw nv).1=some hd∧HdRel o' hd u):=by
 cases nw with
 |none=>
  obtain rfl:=Option.some.inj h
  exact⟨[],[],[],Made.nil,rfl,fun _=>rfl,rfl,fun sh i bx e=>by simp[xnew]at e,.inl ⟨rfl,rfl,fun _=>rfl⟩⟩
 |some r1=>
  cases l with
  |nil=>cases h
  |cons rvv l=>
   cases rvv with
   |cell=>cases h
   |tmp t=>
    simp only[outN]at h
    have hF:=plain_rel (F t)
    split at h
    ·rename_i hget
     obtain rfl:=Option.some.inj h
     have hd:(some none:Option (newT (some r1)))=some nv:=hd
     obtain rfl:=Option.some.inj hd
     rw[hget]at hF
     exact⟨[],[],[],Made.nil,rfl,fun _=>rfl,rfl,fun sh i bx e=>by simp[xnew]at e,.inr ⟨t,_,rfl,rfl,fun sh bbl o' _ _=>⟨.nilp,rfl,hF⟩⟩⟩
    ·rename_i b hget
     rw[hget]at hF
     cases hb:s'.m.box? b with
     |none=>simp[hb]at h
     |some bx=>
      simp only[hb]at h
      obtain⟨hc,h2⟩:=cond_none h
      simp only[Bool.and_eq_true]at hc
      obtain rfl:=Option.some.inj h2
      have ht:=Nat.eq_of_beq_eq_true hc.1
      have hbm:m.box? b=some bx:=by unfold Mem.box? at hb⊢;rw[hbx];exact hb
      obtain⟨γ,hγ,vs,hcell,hls⟩:=M.boxes b bx hbm
      obtain⟨g1,hg1,hv1⟩:=hF
      obtain rfl:g1=γ:=Option.some.inj (Option.some.inj (hg1.symm.trans hγ))
      have hd:(match packK m r1.k bx.ls with
       |some x=>some (some x)
       |none=>none)=some nv:=hd
      split at hd
      case h_2=>cases hd
      rename_i x hx
      obtain rfl:=Option.some.inj hd
      obtain⟨rv0,ids0,m0,i0,f0⟩:=thawL_own M (k:=r1.k) n ho hls hx
      refine⟨rv0,ids0,[g1],m0,i0,fun _=>rfl,rfl,fun sh i bx' e=> ?_,.inr ⟨t,_,rfl,rfl,fun sh bbl o' hl ho'=>⟨.box sh,rfl,g1,?_,?_⟩⟩⟩
      ·cases i with
       |succ i=>simp[xnew]at e
       |zero=>
        simp only[xnew,List.getElem?_cons_zero,Option.some.injEq]at e
        subst e
        exact⟨g1,b,vs,rfl,rfl,blk_box hbm hγ,by rw[hcell,ht],fun ok' may' o' hr=>f0 ok' may' o' hr⟩
      ·rw [ho',List.getElem?_map,List.getElem?_append_right (by omega)]
       simp[hl]
      ·rw [hv1,Addr.add_zero_off]
    ·cases h
theorem results_all (TK:TabOk P T)(M:MemRel w may ow s.m)(F:FrRel w (okOf ow s.m) may ow s a):∀(l:List ResultVar) (cs:List Cmp),seqOf (l.map (resV T s))=some cs→∃us,F2 (CmpRel w (okOf ow s.m) may ow) cs us∧(l.mapM (fun rv:ResultVar=>(match rv with
   | .tmp t=>(pure (a.tmps.getD t undef):Sem Value)
   | .cell x t=>do loadVar t (←asAddr (a.tmps.getD x undef))))).run P w= .ok us w:=by
 have one:∀rv c,resV T s rv=some c→∃u,CmpRel w (okOf ow s.m) may ow c u∧(match rv with
   | .tmp t=>(pure (a.tmps.getD t undef):Sem Value)
   | .cell x t=>do loadVar t (←asAddr (a.tmps.getD x undef))).run P w= .ok u w:=by
  intro rv c hc
  cases rv with
  |tmp t=>exact⟨_,cmp?_rel (F t) hc,by simp⟩
  |cell x t=>
   simp only[resV]at hc
   split at hc
   case h_2=>cases hc
   rename_i b ag n hb ht
   split at hc
   case h_2=>cases hc
   rename_i bx hbx
   obtain⟨hn,hmk⟩:=cond_none hc
   have hn:=Nat.eq_of_beq_eq_true hn
   obtain⟨ti,hT,hti⟩:=tyN_some ht
   obtain⟨rfl,rfl⟩:=Prod.mk.inj hti
   have hx:=F x
   rw[hb]at hx
   obtain⟨g,hg,hv⟩:=hx
   obtain⟨g',hg',vs,hcell,hF⟩:=M.boxes b bx hbx
   obtain rfl:g=g':=Option.some.inj (Option.some.inj (hg.symm.trans hg'))
   obtain⟨u,h1,h2⟩:=loadVar_ok (ad:=⟨g,0,none⟩) TK hT hF hn (fun j u hu=>by
    rw[Addr.add_zero_off]
    simp[World.cell?,hcell,hu]) hmk
   refine⟨u,h2,?_⟩
   have h0:a.tmps.getD x undef= .pointer (some ⟨g,0,none⟩):=by rw[hv,Addr.add_zero_off]
   simp only[h0]
   simp[asAddr,h1]
 intro l
 induction l with
 |nil=>intro cs h;obtain rfl:=Option.some.inj h;exact⟨[],trivial,by simp⟩
 |cons rv l ih=>
  intro cs h
  simp only[List.map_cons]at h
  cases h1:resV T s rv with
  |none=>rw[h1]at h;simp[seqOf]at h
  |some c=>
   rw[h1]at h
   simp only[seqOf]at h
   obtain⟨cs',h2,rfl⟩:=Option.map_eq_some_iff.1 h
   obtain⟨us,h3,h4⟩:=ih cs' h2
   obtain⟨u,h5,h6⟩:=one rv c h1
   refine⟨u::us,⟨h5,h3⟩,?_⟩
   rw[List.mapM_cons]
   simp only[Sem.run_bind,h6,Result.andThen_ok,h4]
   rfl
theorem results_run {f:Func}{us:List Value} (h:(f.results.toList.mapM (fun rv:ResultVar=>(match rv with
   | .tmp t=>(pure (a.tmps.getD t undef):Sem Value)
   | .cell x t=>do loadVar t (←asAddr (a.tmps.getD x undef))))).run P w= .ok us w):(results f a.tmps).run P w= .ok (if h:us.toArray.size=1 then us.toArray[0]else .tuple us.toArray) w:=by
 unfold results
 rw[Array.mapM_eq_mapM_toList]
 simp only[Sem.run_bind,Sem.run_map]
 erw [h]
 rfl
theorem xres_some {ok:Nat→Prop}{m':Mem}{hd:Hd}{cs:List Cmp}{u:Value}{us:List Value}(h:HdRel ow hd u)(hF:F2 (CmpRel w ok may ow) cs us):SVRel w ok may ow m' (xres (some hd) cs) (if h:(u::us).toArray.size=1 then(u::us).toArray[0]else .tuple (u::us).toArray):=by
 match cs,us,hF with
 |[],[],_=>
  show SVRel w ok may ow m' hd.sv u
  cases hd with
  |nilp=>exact h
  |box b=>obtain⟨g,h1,h2⟩:=h;exact⟨g,h1,by rw[h2,Addr.add_zero_off]⟩
 |c::cs,v::us,hF=>exact⟨u,v::us,rfl,h,hF⟩
 |[],_::_,hF=>exact hF.elim
 |_::_,[],hF=>exact hF.elim
theorem entR_fr_len (G:Gh)(L:List Leaf)(rcv:Option Rcv)(nilr:Bool):(entR G L rcv nilr).1.length=xn rcv nilr:=by cases rcv<;>cases nilr<;>rfl
theorem rvAt_mid {rv0 rv1 rv2:List Value}{n:Nat}(h:n=rv0.length):RvAt n rv1 (rv0++rv1++rv2):=fun i v e=>by
 have hi:=(List.getElem?_eq_some_iff.1 e).1
 rw[h,List.getElem?_append_left (by simp;omega),List.getElem?_append_right (by omega),Nat.add_sub_cancel_left];exact e
theorem rvAt_end {rv0 rv1 rv2:List Value}{n:Nat}(h:n=rv0.length+rv1.length):RvAt n rv2 (rv0++rv1++rv2):=fun i v e=>by
 rw[h,List.getElem?_append_right (by simp),List.length_append,Nat.add_sub_cancel_left];exact e
end
end Go.Fx
