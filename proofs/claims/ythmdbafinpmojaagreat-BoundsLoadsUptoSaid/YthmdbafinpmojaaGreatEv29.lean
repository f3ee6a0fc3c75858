/- A function that is lent a variable, or given rows, or makes a variable: its contract, from its evaluation. -/
import Derived.Test.YthmdbafinpmojaaGreatEv28
namespace Go.Fx
open Go Go.RowKit
set_option linter.unusedVariables false
set_option linter.unusedSimpArgs false
section
variable {P:Program} {T:Tab} {C:Cals}
theorem xcontract_of {g:FuncId}{f:Func}{q:XSpec}{code:Code}(TK:TabOk P T)(CK:CalsOk P C)(hmix:P.follows .mixedOrders=true)(hf:P.funcs[g]? =some f)(hb:f.body=some code)
  (hd:noDup (loopTags code)=true) (hn:Nat.ble (xn q.rcv q.nilr+q.ps.length) f.ntmps=true):XContract P C.tabs g (q.sig C T f):=by
 intro w may ow G d x y s vs hm htab htabo hent M0 hslots hvl hy fs
 obtain⟨k,hk⟩:=limX_spec hy G
 have hn:=Nat.le_of_ble_eq_true hn
 have hent:q.ent G d x=some s:=hent
 let b:Frame:={(default:Frame)with fn:=g,kind:= .normal}
 let a0:Act:={tmps:=vs.toArray++Array.replicate (f.ntmps-vs.toArray.size) undef,defers:=[]}
 have henter:Frame.enter P g vs.toArray .normal=b.at a0 [.code code]:=by
  simp[Frame.enter,Frame.at,hf,hb,b,a0]
 have hent2:∃z,thaw q.pown true (thawL 0 (rcvL q.rcv d)).2.length q.ps x=some z∧s.fr.length=xn q.rcv q.nilr+z.1.length∧s.m.boxes=(entR G (thawL 0 (rcvL q.rcv d)).1 q.rcv q.nilr).2.map some∧(∀rc,q.rcv=some rc→lookup s.fr 0= .pbox 0 rc.pre G.b):=by
  unfold XSpec.ent at hent
  simp only at hent
  split at hent
  case h_1=>cases hent
  rename_i z hz
  obtain rfl:=Option.some.inj hent
  refine⟨z,hz,?_,rfl,?_⟩
  ·rw [List.length_append,numFrom_len]
   rw[entR_fr_len]
  ·intro rc e
   have:∀(o:Option Rcv) (nilr:Bool) (L:List Leaf) (tl:List (Nat×SV)),o=some rc→lookup ((entR G L o nilr).1++tl) 0= .pbox 0 rc.pre G.b:=by
    rintro _ nilr L tl rfl;cases nilr<;>rfl
   exact this _ _ _ _ e
 obtain⟨z0,hz0,hfl,hbx0,hl0⟩:=hent2
 have hthl:∀{own fr:Bool} {n:Nat} {rs:List (Bool×K)} {y:argT rs} {q:List Cmp×List (Option Row)},thaw own fr n rs y=some q→q.1.length=rs.length:=by
  intro own fr n rs
  induction rs generalizing n with
  |nil=>intro y q h;simp only[thaw]at h;obtain rfl:=Option.some.inj h;rfl
  |cons p rs ih=>
   intro y q h
   simp only[thaw]at h
   split at h
   ·rename_i c zz _ hzz
    obtain rfl:=Option.some.inj h
    simp[ih hzz]
   ·cases h
 have hvn:vs.length≤f.ntmps:=by rw[hvl,hfl,hthl hz0];exact hn
 have F0:FrRel w (okOf ow s.m) may ow s a0:=by
  intro t
  show SVRel _ _ _ _ _ (lookup s.fr t) _
  rcases lookup_mem (fr:=s.fr) (t:=t)with h1|h1
  ·rw [h1];trivial
  ·obtain ⟨v,h2,h3⟩:=hslots _ h1
   have:a0.tmps.getD t undef=v:=by
    have hlt:=(List.getElem?_eq_some_iff.1 h2).1
    simp only[a0]
    rw[Array.getD_eq_getD_getElem?,Array.getElem?_append_left (by simpa using hlt)]
    simp at h2
    simp[h2]
   rw[this];exact h3
 have I0:Inv (okOf ow s.m) may f.ntmps w s a0 w ow:=⟨M0,F0,by simp only[a0,Array.size_append,List.size_toArray,Array.size_replicate];omega,rfl,Nat.le_refl _,fun b _ h=>⟨h,rfl⟩,rfl,rfl,rfl⟩
 have hL0:Live0 C may (okOf ow s.m) w:=⟨hm,fun g tb e=>⟨htab g tb e,htabo g tb e⟩⟩
 have hbb0:∀rc,q.rcv=some rc→ow.bb[0]? =some (some G.b):=by
  intro rc e
  have:=F0 0
  rw[show s.get 0=lookup s.fr 0 from rfl,hl0 rc e]at this
  exact this.1
 let Post:Act→World→Prop:=fun a w'=>a.defers=[]∧∃v,(results f a.tmps).run P w'= .ok v w'∧∃z ow',q.ext G y=some z∧MemRel w' may ow' z.2∧SVRel w' (okOf ow' z.2) may ow' z.2 z.1 v∧(∀b,b<s.m.boxes.length→ow'.bb[b]? =ow.bb[b]?)∧
   w.heap.size≤w'.heap.size∧(∀b,b<w.heap.size→okOf ow s.m b→okOf ow' z.2 b∧w'.heap[b]? =w.heap[b]?)∧w'.os=w.os∧w'.tape=w.tape∧w'.output=w.output
 have hfin:∀s1 a w' ow1,finishX T q f.results.toList s1=some (y,ghosts G q.rcv)→Inv (okOf ow s.m) may f.ntmps w s1 a w' ow1→Post a w':=by
  intro s1 a w' ow1 h I
  refine⟨I.defers,?_⟩
  unfold finishX at h
  split at h
  case h_2=>cases h
  rename_i za zb hza hzb
  split at h
  case h_2=>cases h
  rename_i cs hcs
  simp only at h
  obtain⟨hc,h⟩:=cond_none h
  simp only[Bool.and_eq_true,Bool.or_eq_true]at hc
  obtain⟨hagg,hvf,hgv,hndr,hndb⟩:=hc
  obtain⟨m1,hm1,M1,K1,hfz,hbx1⟩:∃m1,m1=(bif q.own then s1.m else s1.m.freezeAll (allLeaves cs))∧MemRel w' may ow1 m1∧Keep may w' ow1 s1.m w' ow1 m1∧(q.own=false→∀l∈allLeaves cs,Froz m1 l)∧m1.boxes=s1.m.boxes:=by
   cases q.own with
   |true=>exact⟨s1.m,rfl,I.mem,Keep.refl _ _ _ _,(fun e=>by cases e),rfl⟩
   |false=>
    obtain⟨M1,K1⟩:=I.mem.freezeAll (allLeaves cs)
    have hb:∀(ls:List Leaf) (m:Mem),(m.freezeAll ls).boxes=m.boxes:=by
     intro ls
     induction ls with
     |nil=>intro m;rfl
     |cons l ls ih=>intro m;show((m.freeze l).freezeAll ls).boxes=_;rw[ih];cases l<;>rfl
    exact⟨_,rfl,M1,K1,fun _=>freezeAll_froz _ _,hb _ _⟩
  simp only[←hm1]at h hvf hgv
  split at h
  case h_2=>cases h
  rename_i dd nv yy hdd hnv hyy
  have h:=Option.some.inj h
  have hy0:(nv,yy,dd)=y:=congrArg Prod.fst h
  have hgh:za.2.2=ghosts G q.rcv:=congrArg Prod.snd h
  subst hy0
  obtain⟨us,hus,hrun⟩:=results_all TK I.mem I.fr zb.2.2 cs hcs
  have hus1:F2 (CmpRel w' (okOf ow1 m1) may ow1) cs us:=hus.imp fun _ _ h=>CmpRel.keep K1.stay K1.rv h
  rw[List.all_append,List.all_append,Bool.and_eq_true,Bool.and_eq_true]at hgv
  obtain⟨rv0,ids0,bb0,md0,hi0,hlb0,hlz0,hrc0,hbx00⟩:=out_rcv (nilr:=q.nilr) (a:=a) M1 hbx1 hza hdd hgv.1 hgh (I.fr 0)
  obtain⟨rv1,ids1,bb1,md1,hi1,hlb1,hlz1,hbx11,hres⟩:=out_new M1 hbx1 I.fr (thawL 0 (rcvL q.rcv dd)).2.length hzb hnv hgv.2.1
  obtain⟨cs',rows2,rv2,ids2,ht2,md2,hi2,hr2⟩:=args_piece M1 ((thawL 0 (rcvL q.rcv dd)).2.length+(thawL (thawL 0 (rcvL q.rcv dd)).2.length (newL q.nw nv)).2.length) hagg hus1 hyy (fun e=>by have:=hgv.2.2;rw[e]at this;exact this) (fun e=>⟨hfz e,by rcases hvf with h|h;rw[e]at h;cases h;exact h⟩)
  generalize hE:(entR G (thawL 0 (rcvL q.rcv dd)).1 q.rcv q.nilr).2=e1 at hlb0 hbx00
  have hlb1:=hlb1 e1.length
  have hbx11:=hbx11 e1.length
  have hres:(q.nw=none∧f.results.toList=zb.2.2∧(xnew e1.length (thawL (thawL 0 (rcvL q.rcv dd)).2.length (newL q.nw nv)).1 q.nw nv).1=none)∨∃t u,f.results.toList= .tmp t::zb.2.2∧a.tmps.getD t undef=u∧∀(o':Ow),o'.bb=(bb0++bb1).map some→∃hd,(xnew e1.length (thawL (thawL 0 (rcvL q.rcv dd)).2.length (newL q.nw nv)).1 q.nw nv).1=some hd∧HdRel o' hd u:=by
   rcases hres with⟨k1,k2,k3⟩|⟨t,u,k1,k2,k3⟩
   ·exact .inl ⟨k1,k2,k3 _⟩
   ·exact .inr ⟨t,u,k1,k2,fun o' ho=>k3 e1.length bb0 o' hlb0 ho⟩
  have hext:q.ext G (nv,yy,dd)=some (xres (xnew e1.length (thawL (thawL 0 (rcvL q.rcv dd)).2.length (newL q.nw nv)).1 q.nw nv).1 cs',⟨(thawL 0 (rcvL q.rcv dd)).2++(thawL (thawL 0 (rcvL q.rcv dd)).2.length (newL q.nw nv)).2++rows2,(e1++(xnew e1.length (thawL (thawL 0 (rcvL q.rcv dd)).2.length (newL q.nw nv)).1 q.nw nv).2).map some⟩):=by
   unfold XSpec.ext
   simp only[ht2,hE]
  have hfr0:∀(i:Nat) (row:Row),(⟨(thawL 0 (rcvL q.rcv dd)).2++(thawL (thawL 0 (rcvL q.rcv dd)).2.length (newL q.nw nv)).2++rows2,[]⟩:Mem).row? i=some row→row.fr=true:=made_fr (made_fr (rows_fr_thawL _ _) (rows_fr_thawL _ _)) (fun i row e=>(thaw_fr ht2 i row e).1)
  have hmr1:=md0.len
  have hmr2:=md1.len
  generalize hhx:xnew e1.length (thawL (thawL 0 (rcvL q.rcv dd)).2.length (newL q.nw nv)).1 q.nw nv=hx at hlb1 hbx11 hres hext
  clear hhx hE ht2
  have hids:(ids0++ids1++ids2).filterMap id=ownIds (za.1++(zb.1++bif q.own then allLeaves cs else[])):=by
   rw[List.filterMap_append,List.filterMap_append,hi0,hi1,hi2,ownIds_append,ownIds_append,List.append_assoc]
   cases q.own<;>rfl
  have hmm:∀b,((∃r,r∈(ids0++ids1++ids2).filterMap id∧blk ow1 m1 (.row r)=some b)∨∃q',q'∈za.2.1.toList++zb.2.1.toList∧blk ow1 m1 (.box q')=some b)→may b:=by
   rintro b (⟨r,_,h⟩|⟨r,_,h⟩)<;>exact(M1.may_ _ _ h).1
  obtain⟨M2,hok2,_⟩:=assemble (may':=may) M1 (fun b _ h=>h) ((md0.append md1).append md2) hfr0 (by rw[hids];exact hndr) (boxes:=e1++hx.2) (bb:=bb0++bb1) (bids:=za.2.1.toList++zb.2.1.toList) hndb
   (by rw[List.length_append,List.length_append,hlb0,hlb1])
   (fun i bx e=>by
    by_cases hi:i<e1.length
    ·rw [List.getElem?_append_left hi]at e
     obtain⟨g',b',vs',h1,h2,h3,h4,h5⟩:=hbx00 i bx e
     refine⟨g',b',vs',?_,?_,h3,h4,fun ok' _=>h5 ok' may _ ?_⟩
     ·rw [List.getElem?_append_left (by rw[hlb0];exact hi)];exact h1
     ·rw [List.getElem?_append_left (by rw[hlz0,hlb0];exact hi)];exact h2
     ·intro i v hv
      rw[Nat.zero_add,List.append_assoc,List.getElem?_append_left (List.getElem?_eq_some_iff.1 hv).1];exact hv
    ·rw [List.getElem?_append_right (by omega)]at e
     obtain⟨g',b',vs',h1,h2,h3,h4,h5⟩:=hbx11 (i-e1.length) bx e
     refine⟨g',b',vs',?_,?_,h3,h4,fun ok' _=>h5 ok' may _ (rvAt_mid md0.len.symm)⟩
     ·rw [List.getElem?_append_right (by rw[hlb0];omega),hlb0];exact h1
     ·rw [List.getElem?_append_right (by rw[hlz0,hlb0];omega),hlz0,hlb0];exact h2) hmm
  generalize hmo:(⟨(thawL 0 (rcvL q.rcv dd)).2++(thawL (thawL 0 (rcvL q.rcv dd)).2.length (newL q.nw nv)).2++rows2,(e1++hx.2).map some⟩:Mem)=mo at hext M2 hok2
  have hcs2:=hr2 (okOf ⟨rv0++rv1++rv2,(bb0++bb1).map some⟩ mo) may ⟨rv0++rv1++rv2,(bb0++bb1).map some⟩ (fun b h1 h2=>⟨hok2 b h1,h2⟩) (rvAt_end (by rw[hmr1,hmr2]))
  obtain⟨v,hv1,hv2⟩:∃v,(results f a.tmps).run P w'= .ok v w'∧SVRel w' (okOf ⟨rv0++rv1++rv2,(bb0++bb1).map some⟩ mo) may ⟨rv0++rv1++rv2,(bb0++bb1).map some⟩ mo (xres hx.1 cs') v:=by
   rcases hres with⟨_,hl,hx1⟩|⟨t,u,hl,htu,hx1⟩
   ·rw [←hl]at hrun
    refine⟨_,results_run hrun,?_⟩
    rw[hx1]
    exact ofCs_rel hcs2
   ·obtain ⟨hd',k1,k2⟩:=hx1 ⟨rv0++rv1++rv2,(bb0++bb1).map some⟩ rfl
    have hrun':(f.results.toList.mapM (fun rv:ResultVar=>(match rv with
     | .tmp t=>(pure (a.tmps.getD t undef):Sem Value)
     | .cell x t=>do loadVar t (←asAddr (a.tmps.getD x undef))))).run P w'= .ok (u::us) w':=by
     rw[hl,List.mapM_cons]
     have h0:(pure (a.tmps.getD t undef):Sem Value).run P w'= .ok u w':=by simp[htu]
     simp only[Sem.run_bind,h0,Result.andThen_ok]
     erw [hrun]
     rfl
    refine⟨_,results_run hrun',?_⟩
    rw[k1]
    exact xres_some k2 hcs2
  refine⟨v,hv1,_,_,hext,M2,hv2,fun b hb=> ?_,I.base.size,fun b hb hok=> ?_,I.base.os,I.base.tape,I.base.output⟩
  ·rw [hbx0,List.length_map]at hb
   have hor:q.rcv=none∨∃rc,q.rcv=some rc:=by
    generalize q.rcv=o
    cases o with
    |none=>exact .inl rfl
    |some rc=>exact .inr ⟨rc,rfl⟩
   rcases hor with hr|⟨rc,hr⟩
   ·have:∀(o:Option Rcv) (L:List Leaf),o=none→(entR G L o q.nilr).2.length=0:=by
     rintro _ L rfl;cases q.nilr<;>rfl
    rw[this _ _ hr]at hb
    omega
   ·have:∀(o:Option Rcv) (L:List Leaf),o=some rc→(entR G L o q.nilr).2.length=1:=by
     rintro _ L rfl;cases q.nilr<;>rfl
    rw[this _ _ hr]at hb
    obtain rfl:b=0:=by omega
    rw[hbb0 rc hr,hrc0 rc hr]
    rfl
  ·obtain ⟨h1,h2⟩:=I.base.frame b hb hok
   exact⟨hok2 b (K1.stay b (Nat.lt_of_lt_of_le hb I.base.size) h1).1,h2⟩
 have hfits:Fits (Func.pts f) code []:=fits_of hd fun j z hz=>by simp[Func.pts,hb,hz]
 have hE:Ends P b fs Post [.code code] a0 w:=by
  unfold evalX at hk
  rw[hent,Option.bind_some]at hk
  have he:entry f=[.code code]:=by simp[entry,hb]
  rw[he]at hk
  exact go_ok TK CK hmix hL0 (fun j s a w' ow hf' h I=>heads_ok TK CK hmix hL0 hfin k j s a w' ow hf' h I) hfin _ _ _ _ _ _ ⟨hfits,trivial⟩ hk I0
 obtain⟨todo,a',w',hst,hdef,v,hres,z,ow',h1,h2⟩:=hE
 rw[henter]
 exact⟨.returned v,w',{b.at a' todo with mode:= .returning},⟨v,z,ow',rfl,h1,h2⟩,hst,rfl,rfl,hdef,rfl,f,hf,hres⟩
theorem xok_of {g:FuncId}{f:Func}{q:XSpec}(TK:TabOk P T)(CK:CalsOk P C)(hmix:P.follows .mixedOrders=true)(hf:P.funcs[g]? =some f)(hb:f.body.isSome=true)
  (hd:noDup (loopTags (f.body.get hb))=true) (hn:Nat.ble (xn q.rcv q.nilr+q.ps.length) f.ntmps=true) (hnm:(f.name== "runtime.NumGoroutine")=false):XOk P C.tabs g (q.sig C T f):=
 ⟨⟨f,hf,hnm,by rw[(Option.some_get hb).symm];rfl⟩,xcontract_of TK CK hmix hf (Option.some_get hb).symm hd hn⟩
end
end Go.Fx
