import Derived.Test.YthmdbafinpmojaaGreatEvA
import Derived.Maps.AppendAt
import Derived.MapKept
set_option linter.unusedVariables false
set_option linter.unusedSimpArgs false
namespace Go.Fx
open Go Go.RowKit
theorem kN {α:Type}:∀{l:List (Option α)} {x:List α},iV l=some x→l=x.map some
 |[],x,h=>by simp only[iV]at h;obtain rfl:=Option.some.inj h;rfl
 |some a::r,x,h=>by
  simp only[iV]at h
  obtain⟨y,h1,rfl⟩:=Option.map_eq_some_iff.1 h
  rw[kN h1];rfl
 |none::r,x,h=>by simp[iV]at h
section
variable {R:Type} {P:Program} {T:dH} {w:World} {may:Nat→Prop} {ow:Ow} {m:Mem} {r:R}
theorem Tc {α β:Type}(f:α→Sem β)(g:α→β):∀(l:List α) (w:World),(∀a∈l,∀w,(f a).run P w= .ok (g a) w)→(l.mapM f).run P w= .ok (l.map g) w
 |[],w,_=>by simp
 |a::l,w,h=>by
  rw[List.mapM_cons]
  simp[h a (by simp),Tc f g l w (fun b hb=>h b (by simp[hb]))]
theorem KW {α β:Type}(f:α→Sem β)(g:α→β)(l:Array α)(w:World)(h:∀a∈l,∀w,(f a).run P w= .ok (g a) w):(l.mapM f).run P w= .ok (l.map g) w:=by
 rw[Array.mapM_eq_mapM_toList]
 simp only[Sem.run_map,Tc f g l.toList w (fun a ha=>h a (by simpa using ha)),Result.andThen_ok]
 congr 1
 exact Array.ext' (by simp)
theorem Ot {s:S}{a:Act}(F:dw w (ay ow s.m) may ow s a):∀{ps:List (Nat×Operand)} {cs:List (Nat×lM)},ps.map (fun p=>(s.gJ p.2).cmp?.map fun v=>(p.1,v))=cs.map some→
  F2 (fun (p:Nat×lM) (q:Nat×Value)=>p.1=q.1∧bG w (ay ow s.m) may ow p.2 q.2) cs (ps.map fun p=>(p.1,a.eval p.2))
 |[],[],_=>trivial
 |[],_::_,h=>by cases h
 |_::_,[],h=>by cases h
 |p::ps,c::cs,h=>by
  simp only[List.map_cons,List.cons.injEq]at h
  obtain⟨v,h1,rfl⟩:=Option.map_eq_some_iff.1 h.1
  exact⟨⟨rfl,cmp?nK (dG F p.2) h1⟩,Ot F h.2⟩
theorem abf {s:S}{a:Act}(TK:aZ P T)(M:aC w may ow s.m)(F:dw w (ay ow s.m) may ow s a){t:TypeId}{ps:Array (Nat×Operand)}{fs:List (Nat×TypeId)}{k:K}
  (hB:aaW T t=some (fs,k)) {cs:List (Nat×lM)} (sW:iV (ps.toList.map fun p=>(s.gJ p.2).cmp?.map fun v=>(p.1,v))=some cs) {ls:List aT} (Ez:Oj T (kM k) fs cs=some ls)
  {c:SV→Mem→Option R} (h:c (.one (.agg ls)) s.m=some r):g_ P may w ow s.m (do pure (.value (←Instr.build t (ps.map fun p=>(p.1,a.eval p.2))))) c r:=by
 unfold aaW at hB
 split at hB
 ·rename_i fs' k' ag by' hT
  obtain⟨e1,e2⟩:=Prod.mk.inj (Option.some.inj hB)
  rw[e1,e2]at hT
  obtain⟨FF,hu,pY,hF⟩:=(TK _ _ hT).desc
  obtain⟨inf,yx,JI,hi3,z,S9,Si⟩:=(TK _ _ hT).info
  have hpl:(FF.mapM fun (f:Field)=>(do pure (f.offset,←sizeOf f.type):Sem (Nat×Nat))).run P w= .ok (FF.map fun (f:Field)=>(f.offset,((T f.type).map (·.k.n)).getD 0)) w:=by
   refine KW _ _ _ _ fun f hf w=> ?_
   obtain⟨i,hi,rfl⟩:=Array.mem_iff_getElem.1 hf
   obtain⟨f',h1,h2,h3,fi,h4,h5⟩:=hF i _ _ (List.getElem?_eq_getElem (show i<fs.length by omega))
   rw[Array.getElem?_eq_getElem hi]at h1
   obtain rfl:=Option.some.inj h1
   rw[←h3]at h4
   simp[(TK _ _ h4).size,h4]
  obtain⟨out,ho1,ho2⟩:=XG (T:=T) (place:=fun i=>(FF.map fun (f:Field)=>(f.offset,((T f.type).map (·.k.n)).getD 0))[i]?) (fs:=fs) (fun i o ft hi=>by
    obtain⟨f',h1,h2,h3,fi,h4,h5⟩:=hF i _ _ hi
    refine⟨fi.k.n,by simp[h1,h2,h3,h4],fun ti hti=> ?_⟩
    rw[h4]at hti;obtain rfl:=Option.some.inj hti;rfl) (uS (w:=w) (ok:=ay ow s.m) (may:=may) (ow:=ow) k) (Ot F (kN sW)) Ez
  refine g_.quiet M h (v:= .agg out.toArray) ?_ ⟨out,rfl,ho2⟩
  have hzc:z.cells=(zeroCells k).toArray:=by rw[←Si]
  simp only[Instr.build,Sem.run_bind,zeroValue,typeInfo,run_program,Result.andThen_ok,yx,S9,Sem.run_pure,run_underlying hu,hpl,hzc,Array.toList_map,ho1]
 ·cases hB
theorem Td {s:S}{a:Act}(F:dw w (ay ow s.m) may ow s a):∀{ps:List (Nat×Operand)} {cs:List lM},ps.map (fun p=>(s.gJ p.2).cmp?)=cs.map some→
  F2 (bG w (ay ow s.m) may ow) cs (ps.map fun p=>a.eval p.2)
 |[],[],_=>trivial
 |[],_::_,h=>by cases h
 |_::_,[],h=>by cases h
 |p::ps,c::cs,h=>by
  simp only[List.map_cons,List.cons.injEq]at h
  exact⟨cmp?nK (dG F p.2) h.1,Td F h.2⟩
theorem ER (M:aC w may ow m){k:K}:∀{cs:List lM} {vs:List Value} {xs:List k.T},(∀l∈aB cs,yw m l)→F2 (bG w (ay ow m) may ow) cs vs→ji m k cs=some xs→
  aY w (o7 (ay ow m) may ((aB cs).all (fK m))) k xs (vs.flatMap fun v=>v.cells.toList)
 |[],[],xs,_,_,e=>by simp only[ji]at e;obtain rfl:=Option.some.inj e;rfl
 |c::cs,v::vs,xs,hf,h,e=>by
  simp only[ji]at e
  cases h1:bM m k c.leaves with
  |none=>simp[h1]at e
  |some x=>
   cases h2:ji m k cs with
   |none=>simp[h1,h2]at e
   |some y=>
    simp only[h1,h2]at e
    obtain rfl:=Option.some.inj e
    have Jm:aB (c::cs)=c.leaves++aB cs:=by simp[aB]
    have r1:=yS M (fun l hl=>hf l (by rw[Jm];exact List.mem_append_left _ hl)) h.1.cells h1
    have r2:=ER M (fun l hl=>hf l (by rw[Jm];exact List.mem_append_right _ hl)) h.2 h2
    refine⟨_,_,by simp,r1.up fun g=> ?_,r2.aW (iF.mono fun b _ hb=>⟨hb.1,fun g=>hb.2 ?_⟩)⟩
    ·rw [Jm,List.all_append,Bool.and_eq_true]at g;exact g.1
    ·rw [Jm,List.all_append,Bool.and_eq_true]at g;exact g.2
 |[],_::_,_,_,h,_=>h.elim
 |_::_,[],_,_,h,_=>h.elim
theorem IG (M:aC w may ow m){k:K}:∀{cs:List lM} {vs:List Value} {xs:List k.T},F2 (bG w (ay ow m) may ow) cs vs→ji m k cs=some xs→xs.length=cs.length∧∀v∈vs,v.cells.size=k.n
 |[],[],xs,_,e=>by simp only[ji]at e;obtain rfl:=Option.some.inj e;simp
 |c::cs,v::vs,xs,h,e=>by
  simp only[ji]at e
  cases h1:bM m k c.leaves with
  |none=>simp[h1]at e
  |some x=>
   cases h2:ji m k cs with
   |none=>simp[h1,h2]at e
   |some y=>
    simp only[h1,h2]at e
    obtain rfl:=Option.some.inj e
    obtain⟨i1,i2⟩:=IG M h.2 h2
    have l1:=(GZ M h.1.cells h1).len
    refine⟨by simp[i1],fun u hu=> ?_⟩
    rcases List.mem_cons.1 hu with rfl|hu
    ·simpa using l1
    ·exact i2 u hu
 |[],_::_,_,h,_=>h.elim
 |_::_,[],_,h,_=>h.elim
theorem Tf (n:Nat):∀(vs:List Value) (i:Nat) (done rest:List Value),(∀v∈vs,v.cells.size=n)→done.length=i*n→rest.length=vs.length*n→
  Instr.fill (fun j=>some (j*n,n)) (done++rest).toArray ((vs.zipIdx i).map fun p=>(p.2,p.1))=some (done++vs.flatMap fun v=>v.cells.toList).toArray
 |[],i,done,rest,_,_,h=>by
  have:rest=[]:=List.eq_nil_of_length_eq_zero (by simpa using h)
  simp[Instr.fill,this]
 |v::vs,i,done,rest,hv,hd,hr=>by
  have hs:=hv v (by simp)
  have JH:rest.length=vs.length*n+n:=by rw[hr,List.length_cons,Nat.add_mul,Nat.one_mul]
  simp only[List.zipIdx_cons,List.map_cons,Instr.fill]
  rw[if_neg (by simp[hs];omega)]
  have h1:=G6 (i*n) v.cells.toList 0 (done++rest).toArray (by simp[hs];omega)
  have h2:(v.cells.zipIdx.foldl (fun cs (x:Value×Nat)=>cs.setIfInBounds (i*n+x.2) x.1) (done++rest).toArray)=(done++v.cells.toList++rest.drop n).toArray:=by
   rw[←Array.foldl_toList,Array.toList_zipIdx]
   rw[h1]
   simp only[Nat.add_zero,←hd,Array.length_toList,hs,List.take_left,List.drop_length_add_append]
  have h3:=Tf n vs (i+1) (done++v.cells.toList) (rest.drop n) (fun u hu=>hv u (by simp[hu])) (by simp[hs,hd,Nat.add_mul]) (by simp;omega)
  simp only[List.append_assoc]at h2 h3
  refine Eq.trans ?_ (h3.trans ?_)
  ·congr 1
  ·simp
theorem Bq {s:S}{a:Act}(TK:aZ P T)(M:aC w may ow s.m)(F:dw w (ay ow s.m) may ow s a){t e:TypeId}{ps:Array (Nat×Operand)}{k:K}{ag:Bool}{by':Nat}{n:Nat}
  (hT:T t=some ⟨.sl e,.sl e k,ag,by'⟩) {cs:List lM} (sW:iV (ps.toList.map fun p=>(s.gJ p.2).cmp?)=some cs) (hn:n*k.n≤16777216) (hi:ps.toList.map (·.1)=List.range n)
  {xs:List k.T} (hp:ji (s.m.aI (aB cs)) k cs=some xs):
  ∃cs':List Value,(Instr.buildSlice t n (ps.map fun p=>(p.1,a.eval p.2))).run P w= .ok (.slice (some ⟨w.heap.size,0,none⟩) n n) (w.alloc (.cells cs'.toArray e))∧
   (w.alloc (.cells cs'.toArray e)).ownsRow 0 e k.n (.slice (some ⟨w.heap.size,0,none⟩) n n) xs.length cs'∧aY w (o7 (ay ow (s.m.aI (aB cs))) may ((aB cs).all (fK (s.m.aI (aB cs))))) k xs cs'∧xs.length=n:=by
 obtain⟨hu,ei,yO,AY,Bo⟩:=(TK _ _ hT).desc
 injection AY with _ AY
 subst AY
 obtain⟨inf,yx,JI,hi3,z,S9,Si⟩:=(TK _ _ yO).info
 obtain⟨M1,K1⟩:=M.aI (aB cs)
 have hc0:=Td F (kN sW)
 have hc1:F2 (bG w (ay ow (s.m.aI (aB cs))) may ow) cs (ps.toList.map fun p=>a.eval p.2):=hc0.imp fun _ _ h=>bG.aW K1.stay K1.rv h
 have lQ:=ER M1 (fun l hl=>lY _ _ l hl) hc1 hp
 have Ti:ps.toList.length=n:=by have:=congrArg List.length hi;simpa using this
 obtain⟨Qc,pY⟩:=IG M1 hc1 hp
 have Jo:xs.length=n:=by rw[Qc,hc1.len,List.length_map,Ti]
 have Qh:(ps.map fun p=>(p.1,a.eval p.2)).toList=((ps.toList.map fun p=>a.eval p.2).zipIdx 0).map fun p=>(p.2,p.1):=by
  rw[Array.toList_map]
  apply List.ext_getElem
  ·simp
  ·intro i h1 h2
   simp only[List.getElem_map,List.getElem_zipIdx,Nat.zero_add]
   congr 1
   have:(ps.toList.map (·.1))[i]'(by simpa using h1)=i:=by simp[hi]
   simpa using this
 have hz:z.cells.size=ei.k.n:=by rw[←Array.length_toList,Si,Bl]
 have ahB:∀zs:Array Value,zs.size=n*ei.k.n→Instr.fill (fun j=>some (j*ei.k.n,ei.k.n)) zs (ps.map fun p=>(p.1,a.eval p.2)).toList=some ((ps.toList.map fun p=>a.eval p.2).flatMap fun v=>v.cells.toList).toArray:=by
  intro zs S_
  rw[Qh]
  have:=Tf ei.k.n (ps.toList.map fun p=>a.eval p.2) 0 [] zs.toList pY (by simp) (by simp[S_,Ti])
  simpa using this
 refine⟨(ps.toList.map fun p=>a.eval p.2).flatMap fun v=>v.cells.toList,?_,?_,lQ,Jo⟩
 ·have hf:∀Z:Array Value,Instr.fill (fun j=>some (j*ei.k.n,ei.k.n)) ((Array.range (n*ei.k.n)).map (Z[· %Z.size]!)) (ps.map fun p=>(p.1,a.eval p.2)).toList=some ((ps.toList.map fun p=>a.eval p.2).flatMap fun v=>v.cells.toList).toArray:=
   fun Z=>ahB _ (by simp)
  have CG:¬(n*ei.k.n>2^24):=by simp;omega
  have II:=(TK _ _ yO).size (w:=w)
  unfold Instr.buildSlice
  simp only[Sem.run_bind,run_underlying hu,Result.andThen_ok,II]
  rw[if_neg CG]
  by_cases h0:n*ei.k.n=0
  ·have h1:=hf #[]
   simp only[h0,if_true,Sem.run_bind,Sem.run_pure,Result.andThen_ok]at h1⊢
   rw[h1]
   rfl
  ·have h1:=hf z.cells
   simp only[h0,if_false,Sem.run_bind,zeroValue,typeInfo,run_program,yx,S9,Sem.run_pure,Result.andThen_ok]at h1⊢
   rw[h1]
   rfl
 ·rw [Jo]
  refine⟨by rw[lQ.len,Jo],.inr ⟨w.heap.size,n,_,rfl,Nat.zero_le _,heap_alloc_new w _,Nat.le_refl _,?_,?_,?_⟩⟩
  ·have:n≤n*ei.k.n:=Nat.le_mul_of_pos_right _ Bo
   clear ahB Qh lQ
   have hn2:n*ei.k.n≤16777216:=hn
   unfold maxLen;omega
  ·rw [List.size_toArray,lQ.len,Jo]
  ·rw [List.toList_toArray,List.take_of_length_le (by rw[lQ.len,Jo];exact Nat.le_refl _)]
theorem Nz {s:S}{a:Act}(TK:aZ P T)(M:aC w may ow s.m)(hm:∀b,w.heap.size≤b→may b)(F:dw w (ay ow s.m) may ow s a){t e:TypeId}{ps:Array (Nat×Operand)}{k:K}{ag:Bool}{by':Nat}{n:Nat}
  (hT:T t=some ⟨.sl e,.sl e k,ag,by'⟩) {cs:List lM} (sW:iV (ps.toList.map fun p=>(s.gJ p.2).cmp?)=some cs) (hn:n*k.n≤16777216) (hi:ps.toList.map (·.1)=List.range n)
  {xs:List k.T} (hp:ji (s.m.aI (aB cs)) k cs=some xs)
  {c:SV→Mem→Option R} (h:newRow (s.m.aI (aB cs)) ⟨e,k,(aB cs).all (fK (s.m.aI (aB cs))),true,xs⟩ c=some r):
  g_ P may w ow s.m (do pure (.value (←Instr.buildSlice t n (ps.map fun p=>(p.1,a.eval p.2))))) c r:=by
 obtain⟨M1,K1⟩:=M.aI (aB cs)
 obtain⟨cs',h1,h2,h3,h4⟩:=Bq TK M F hT sW hn hi hp
 refine g_.mono K1 (g_.newRow M1 hm h h1 (zH _ _) rfl h2 h3 (fun b hb=> ?_))
 simp[Value.ownBlock]at hb;omega
end
def wS:Option Int→Option Value→Prop
  |none,none=>True
  |some i,some v=>∃k,v= .int k i
  |_,_=>False
section
variable {R:Type} {P:Program} {T:dH} {w:World} {may:Nat→Prop} {ow:Ow} {m:Mem} {r:R}
theorem kP {ok:Nat→Prop}{s:S}{a:Act}(F:dw w ok may ow s a){x:Option Operand}{i:Option Int}(h:o_ s x=some i):wS i (x.map a.eval):=by
  cases x with
  |none=>simp only[o_]at h;obtain rfl:=Option.some.inj h;trivial
  |some x=>
    simp only[o_]at h
    obtain⟨j,h1,rfl⟩:=Option.map_eq_some_iff.1 h
    exact int?nK (dG F x) h1
theorem Qi {t e:TypeId}{n:Nat}(hu:P.underlying t=some (.slice e))(hs:(sizeOf e).run P w= .ok n w){A:Option Addr}{len cap:Nat}{lo hi:Option Int}{Ou G8:Option Value}(JJ:wS lo Ou)(D5:wS hi G8)
    {l h:Nat} (hl:lo.getD 0=(l:Int)) (hh:hi.getD (len:Int)=(h:Int)) (h1:l≤h) (h2:h≤cap):
    (Instr.sliceAt t (.slice A len cap) Ou G8 none).run P w= .ok (.slice (if cap=l then A else A.map (·.add (l*n))) (h-l) (cap-l)) w:=by
  have hb:(Instr.sliceBounds true len cap Ou G8 none).run P w= .ok (l,h,cap) w:=by
    cases lo with
    |none=>
      cases Ou with
      |some=>exact JJ.elim
      |none=>
        simp at hl;obtain rfl:l=0:=by omega
        cases hi with
        |none=>
          cases G8 with
          |some=>exact D5.elim
          | none => simp at hh; obtain rfl : h = len := by omega
                    simp[Instr.sliceBounds]
        |some j=>
          cases G8 with
          |none=>exact D5.elim
          |some v=>
            obtain⟨k,rfl⟩:=D5
            simp at hh;subst hh
            simp[Instr.sliceBounds,run_sliceBound,show(h:Int)≤cap by omega]
    |some i=>
      cases Ou with
      |none=>exact JJ.elim
      |some v=>
        obtain⟨k,rfl⟩:=JJ
        simp at hl;subst hl
        cases hi with
        |none=>
          cases G8 with
          |some=>exact D5.elim
          | none => simp at hh; obtain rfl : h = len := by omega
                    simp[Instr.sliceBounds,run_sliceBound,show(l:Int)≤h by omega]
        |some j=>
          cases G8 with
          |none=>exact D5.elim
          |some v=>
            obtain⟨k',rfl⟩:=D5
            simp at hh;subst hh
            simp[Instr.sliceBounds,run_sliceBound,show(h:Int)≤cap by omega,show(l:Int)≤h by omega]
  simp[Instr.sliceAt,run_underlying hu,Instr.slice,hb,hs]
def aiQ {α:Type}(take drop:Nat→α→α)(x:α):Option Int→Option Int→Nat→Nat→α
  |none,none,_,_=>x
  |none,some _,_,q=>take q x
  |some _,none,l,_=>drop l x
  |some _,some _,l,q=>drop l (take q x)
theorem CJ {α:Type}{n:Nat}{take drop:Nat→α→α}{x:α}{lo hi:Option Int}{c:α→Option R}(h:EF n take drop x lo hi c=some r):
    ∃l q:Nat,lo.getD 0=(l:Int)∧hi.getD (n:Int)=(q:Int)∧l≤q∧q≤n∧
      c (aiQ take drop x lo hi l q)=some r:=by
  unfold EF at h
  cases lo with
  |none=>
    cases hi with
    |none=>exact⟨0,n,rfl,rfl,Nat.zero_le _,Nat.le_refl _,h⟩
    |some j=>
      obtain⟨hb,h⟩:=aG h
      simp only[Bool.and_eq_true,decide_eq_true_eq]at hb
      exact⟨0,j.toNat,rfl,by simp;omega,Nat.zero_le _,by omega,h⟩
  |some i=>
    cases hi with
    |none=>
      obtain⟨hb,h⟩:=aG h
      simp only[Bool.and_eq_true,decide_eq_true_eq]at hb
      exact⟨i.toNat,n,by simp;omega,rfl,by omega,Nat.le_refl _,h⟩
    |some j=>
      obtain⟨hb,h⟩:=aG h
      simp only[Bool.and_eq_true,decide_eq_true_eq]at hb
      exact⟨i.toNat,j.toNat,by simp;omega,by simp;omega,by omega,by omega,h⟩
theorem KX {α:Type}{xs:List α}{lo hi:Option Int}{l q:Nat}(hl:lo.getD 0=(l:Int))(hq:hi.getD (xs.length:Int)=(q:Int)):
    aiQ List.take List.drop xs lo hi l q=(xs.take q).drop l:=by
  cases lo<;>cases hi<;>simp at hl hq<;>simp only[aiQ]
  · obtain rfl : l = 0 := by omega
    obtain rfl:q=xs.length:=by omega
    simp
  · obtain rfl : l = 0 := by omega
    rfl
  · obtain rfl : q = xs.length := by omega
    simp
theorem Ov {t e:TypeId}{k:K}(hu:P.underlying t=some (.slice e))(hs:(sizeOf e).run P w= .ok k.n w)(M:aC w may ow m){fr:Bool}{e':TypeId}{xs:List k.T}{u:Value}(hx:aQ w (ay ow m) may ow (.val fr (.sl e' k) xs) u)
    {lo hi:Option Int} {Ou G8:Option Value} (JJ:wS lo Ou) (D5:wS hi G8) {l q:Nat} (hl:lo.getD 0=(l:Int)) (hq:hi.getD (xs.length:Int)=(q:Int)) (h1:l≤q) (h2:q≤xs.length) {c:SV→Mem→Option R}
    (h:c (.one (.lf (.val fr (.sl e' k) ((xs.take q).drop l)))) m=some r):g_ P may w ow m (do pure (.value (←Instr.sliceAt t u Ou G8 none))) c r:=by
  have hx':Rd w (o7 (ay ow m) may fr) (.sl e' k) xs [u]:=hx
  obtain⟨A,cp,KQ,hc,KR⟩:=hx'
  obtain rfl:u= .slice A xs.length cp:=by simpa using KQ
  exact g_.quiet M h (Qi hu hs JJ D5 hl hq h1 (by omega)) (Rd.cut (k:=k) (e:=e') hx l q cp h1 h2 A cp rfl (by omega))
theorem Ze (TK:aZ P T)(M:aC w may ow m){t:TypeId}{n:Nat}{x:aT}{u:Value}{lo hi:Option Int}{Ou G8:Option Value}{c:SV→Mem→Option R}(hn:vJ T t=some n)(hx:aQ w (ay ow m) may ow x u)
    (JJ:wS lo Ou) (D5:wS hi G8) (h:qw m n x lo hi c=some r):g_ P may w ow m (do pure (.value (←Instr.sliceAt t u Ou G8 none))) c r:=by
  unfold vJ at hn
  split at hn
  case h_2=>cases hn
  rename_i e e' k' ag by' hT
  obtain rfl:=Option.some.inj hn
  obtain⟨hu,ei,yO,AY,_⟩:=(TK _ _ hT).desc
  injection AY with h1 h2
  subst h1 h2
  have pY:=(TK _ _ yO).size (w:=w)
  cases x with
  |nil=>simp[qw]at h
  |val fr k xs=>
    cases k<;>simp only[qw]at h<;>try (cases h;done)
    rename_i e2 k
    obtain⟨hk,h⟩:=aG h
    have hk:=Nat.eq_of_beq_eq_true hk
    rw[hk]at pY
    obtain⟨l,q,hl,hq,h1,h2,h⟩:=CJ h
    exact Ov (k:=k) hu pY M (xs:=xs) hx JJ D5 hl hq h1 h2 (by rw[←KX (α:=k.T) (xs:=xs) hl hq];exact h)
  |own z=>
    simp only[qw]at h
    cases hr:m.row? z with
    |none=>simp[hr]at h
    |some row=>
      simp only[hr]at h
      obtain⟨hk,h⟩:=aG h
      have hk:=Nat.eq_of_beq_eq_true hk
      rw[hk]at pY
      obtain⟨v,hv,RR⟩:=M.sl z row hr hx.1 hx.2
      obtain rfl:u=v:=Option.some.inj (hx.1.symm.trans hv)
      split at h
      · rename_i hw _
        obtain⟨l,q,hl,hq,h1,h2,h⟩:=CJ h
        obtain rfl:l=0:=by simpa using hl.symm
        rw[KX (xs:=row.xs) hl hq]at h
        simp only[List.drop_zero]at h
        obtain⟨_,R2⟩:=RR
        rw[hw]at R2
        simp only[if_true]at R2
        obtain⟨cs,dM,lQ⟩:=R2
        obtain⟨A,cap,rfl⟩:=ownsRow.slice dM
        have afk:row.xs.length≤cap:=by
          rcases dM.2 with⟨h3,h4⟩|⟨g,cp,cur,h3,hg,hh,hn,rest⟩
          · omega
          · injection h3 with _ _ h3;omega
        have vW:=Qi (P:=P) (w:=w) (A:=A) (len:=row.xs.length) (cap:=cap) hu pY JJ D5 hl hq (Nat.zero_le _) (by omega)
        have hA:(if cap=0 then A else A.map (·.add (0*row.k.n)))=A:=by
          split
          · rfl
          · cases A<;>simp[Addr.add]
        simp only[Nat.sub_zero,hA]at vW
        have xU:w.ownsRow 0 row.e row.k.n (.slice A q cap) (row.xs.take q).length (cs.take (q*row.k.n)):=by
          have hlen:(row.xs.take q).length=q:=by rw[List.length_take];omega
          refine⟨by rw[(lQ.take q).len],?_⟩
          rw[hlen]
          rcases dM.2 with⟨h3,h4⟩|⟨g,cp,cur,h3,hg,hh,hn,hm',hc',ht'⟩
          · injection h3 with h5 h6 h7
            subst h5 h7
            exact .inl ⟨by have : q = 0 := by omega
                           subst this;rfl,by omega⟩
          · injection h3 with h5 h6 h7
            subst h5 h7
            refine .inr ⟨g,_,cur,rfl,hg,hh,by omega,hm',hc',?_⟩
            rw[←ht',List.take_take,Nat.min_eq_left (Nat.mul_le_mul_right _ h2)]
        have nY:∀b,(Value.slice A q cap).ownBlock=some b→(Value.slice A row.xs.length cap).ownBlock=some b:=fun b hb=>by
          cases A with
          |none=>cases hb
          |some ad=>exact hb
        obtain⟨M',K'⟩:=M.renew (w':=w) z {row with xs:=row.xs.take q} (.slice A q cap) (Nat.le_refl _) rfl rfl rfl (fun _ _ _=>rfl) hw _ xU (lQ.take q) (fun b hb=>by
          have wQ:eG ow m (.row z)=some b:=(fF hr hv hw).trans (KI.trans (nY b hb))
          exact⟨(M.fH _ _ wQ).1,(M.fH _ _ wQ).2,.inr wQ⟩)
        unfold Fx.newRow at h
        simp only[List.length_set]at h
        refine⟨_,_,.slice A q cap,w,_,h,.inl (by simp[vW]),M',K',?_,_,_,_,rfl⟩
        show(ow.rv++[_])[m.rows.length]? =_
        rw[←M.lX];simp
      · rename_i lo' _
        obtain⟨l,q,hl,hq,h1,h2,h⟩:=CJ h
        rw[KX (xs:=row.xs) hl hq]at h
        obtain⟨M1,K1⟩:=M.freeze (.own z)
        have XH:=kY M1 (uQ m (.own z)) (aQ.aW K1.stay K1.rv hx) (k:= .sl row.e row.k) (x:=row.xs) (by
          simp only[bP,row?vT,if_true,hr,Option.map_some]
          simp[K.cast])
        have vF:fK (m.freeze (.own z)) (.own z)=row.fr:=by simp[fK,row?vT,hr]
        rw[vF]at XH
        refine g_.mono K1 (Ov (k:=row.k) hu pY M1 (e':=row.e) (xs:=row.xs) XH JJ D5 hl hq h1 h2 h)
theorem VY (TK:aZ P T)(M:aC w may ow m){t:TypeId}{n:Nat}{x:aT}{u:Value}{hi q:Int}{G8 vq:Value}{c:SV→Mem→Option R}(hn:vJ T t=some n)(hx:aQ w (ay ow m) may ow x u)
    (D5:∃k,G8= .int k hi) (hq:∃k,vq= .int k q) (h:mV m n x hi q c=some r):g_ P may w ow m (do pure (.value (←Instr.sliceAt t u none (some G8) (some vq)))) c r:=by
  unfold vJ at hn
  split at hn
  case h_2=>cases hn
  rename_i e e' k' ag by' hT
  obtain rfl:=Option.some.inj hn
  obtain⟨hu,ei,yO,AY,_⟩:=(TK _ _ hT).desc
  injection AY with h1 h2
  subst h1 h2
  have pY:=(TK _ _ yO).size (w:=w)
  obtain⟨k1,rfl⟩:=D5
  obtain⟨k2,rfl⟩:=hq
  cases x with
  |nil=>simp[mV]at h
  |own=>simp[mV]at h
  |val fr k xs=>
    cases k<;>simp only[mV]at h<;>try (cases h;done)
    rename_i e2 k
    obtain⟨hk,h⟩:=aG h
    have hk:=Nat.eq_of_beq_eq_true hk
    rw[hk]at pY
    obtain⟨hb,h⟩:=aG h
    simp only[Bool.and_eq_true,decide_eq_true_eq]at hb
    have hx':Rd w (o7 (ay ow m) may fr) (.sl e2 k) xs [u]:=hx
    obtain⟨A,cp,KQ,hc,KR⟩:=hx'
    obtain rfl:u= .slice A (List.length (α:=k.T) xs) cp:=by simpa using KQ
    have vW:(Instr.sliceAt t (.slice A (List.length (α:=k.T) xs) cp) none (some (.int k1 hi)) (some (.int k2 q))).run P w= .ok (.slice (if q.toNat=0 then A else A.map (·.add (0*k.n))) (hi.toNat-0) (q.toNat-0)) w:=by
      have hq:(q.toNat:Int)=q:=by omega
      simp[Instr.sliceAt,run_underlying hu,Instr.slice,Instr.sliceBounds,run_sliceBound,pY,show(0:Int)≤q by omega,show q≤(cp:Int)by omega,show(0:Int)≤hi by omega,hq,show hi≤q by omega]
    refine g_.quiet M (c:=c) (sv:= .one (.lf (.val fr (.sl e2 k) (List.take (α:=k.T) hi.toNat xs)))) h vW ?_
    have:=Rd.cut (k:=k) (e:=e2) (xs:=xs) hx 0 hi.toNat q.toNat (Nat.zero_le _) (by omega) A cp rfl (by omega)
    rw[List.drop_zero]at this
    exact this
theorem afl (TK:aZ P T)(M:aC w may ow m){t:TypeId}{n:Nat}{x:SV}{u:Value}{lo hi:Option Int}{Ou G8:Option Value}{c:SV→Mem→Option R}(hn:vJ T t=some n)(hx:aS w (ay ow m) may ow m x u)
    (JJ:wS lo Ou) (D5:wS hi G8) (h:Ny m n x lo hi c=some r):g_ P may w ow m (do pure (.value (←Instr.sliceAt t u Ou G8 none))) c r:=by
  unfold vJ at hn
  split at hn
  case h_2=>cases hn
  rename_i e e' k' ag by' hT
  obtain rfl:=Option.some.inj hn
  obtain⟨hu,ei,yO,AY,_⟩:=(TK _ _ hT).desc
  injection AY with h1 h2
  subst h1 h2
  have pY:=(TK _ _ yO).size (w:=w)
  unfold Ny at h
  split at h
  case h_2=>cases h
  rename_i q hl
  have hx:=leaf?nK hx hl
  cases hr:m.row? q with
  |none=>simp[hr]at h
  |some row=>
    simp only[hr]at h
    obtain⟨hb,h⟩:=aG h
    simp only[Bool.and_eq_true,decide_eq_true_eq]at hb
    obtain⟨⟨hk,hw⟩,h0,h1,h2⟩:=hb
    have hk:=Nat.eq_of_beq_eq_true hk
    obtain⟨v,hv,RR⟩:=M.sl q row hr hx.1 hx.2
    obtain rfl:u=v:=Option.some.inj (hx.1.symm.trans hv)
    obtain⟨⟨A,L,C,rfl⟩,R2⟩:=RR
    rw[hw]at R2
    simp only[if_true]at R2
    obtain⟨cs,dM,_⟩:=R2
    obtain⟨l,VL⟩:=Int.eq_ofNat_of_zero_le h0
    obtain⟨g,zA⟩:=Int.eq_ofNat_of_zero_le (show 0≤hi.getD (row.xs.length:Int)by omega)
    rw[VL,zA]at h h1
    rw[zA]at h2
    have alo:∀(len cap:Nat) (A:Option Addr),row.xs.length=len→g≤cap→(Instr.sliceAt t (.slice A len cap) Ou G8 none).run P w= .ok (.slice (if cap=l then A else A.map (·.add (l*ei.k.n))) (g-l) (cap-l)) w:=by
      intro len cap A hlen afk
      exact Qi hu pY JJ D5 VL (by rw[←hlen];exact zA) (by omega) afk
    have e1:(Int.toNat (l:Int))=l:=Int.toNat_natCast l
    have e2:((g:Int)-(l:Int)).toNat=g-l:=by omega
    rw[e1,e2]at h
    rcases dM.2 with⟨h3,h4⟩|⟨γ,cap,cur,h3,_,hh,VW,hcm,sW,Aw⟩
    · injection h3 with h5 h6 h7
      subst h5 h6 h7
      refine g_.quiet M h (alo 0 0 none h4 (by omega)) ⟨row?_lt hr,⟨_,_,_,hv⟩,fun row' JH=> ?_⟩
      rw[hr]at JH
      obtain rfl:=Option.some.inj JH
      exact⟨by omega,⟨_,_,rfl,by omega⟩,fun Bo=>by omega⟩
    · injection h3 with h5 h6 h7
      subst h5 h6 h7
      refine g_.quiet M h (alo _ _ _ rfl (by omega)) ⟨row?_lt hr,⟨_,_,_,hv⟩,fun row' JH=> ?_⟩
      rw[hr]at JH
      obtain rfl:=Option.some.inj JH
      refine⟨by omega,⟨_,_,rfl,by omega⟩,fun Bo=>⟨γ,_,_,C-l,hv,by rw[if_neg (by omega),hk];rfl,fun δ hδ=>by cases hδ⟩⟩
end
section
variable {R:Type} {P:Program} {T:dH} {w:World} {may:Nat→Prop} {ow:Ow} {m:Mem} {r:R}
theorem Qj {t t2 e e2:TypeId}{ty:TypeId}{u v:Value}(hu:P.underlying t=some (.slice e))(Vr:P.underlying t2=some (.slice e2))(w:World):
    (Builtin.append_ #[t,t2] ty #[u,v]).run P w=(Builtin.append_ #[t,t] ty #[u,v]).run P w:=by
  have h0:(#[t,t2]:Array TypeId)[0]? =some t:=rfl
  have h1:(#[t,t2]:Array TypeId)[1]? =some t2:=rfl
  have h2:(#[t,t]:Array TypeId)[0]? =some t:=rfl
  have h3:(#[t,t]:Array TypeId)[1]? =some t:=rfl
  have h4:(#[u,v]:Array Value)[0]? =some u:=rfl
  have h5:(#[u,v]:Array Value)[1]? =some v:=rfl
  simp only[Builtin.append_,h0,h1,h2,h3,h4,h5,Sem.run_bind,run_underlying hu,Result.andThen_ok]
  cases u<;>try rfl
  simp only[Sem.run_bind,run_underlying hu,run_underlying Vr,Result.andThen_ok,Sem.run_pure]
theorem Tj {t e:TypeId}{ty:TypeId}{inf:TypeInfo}(hu:P.underlying t=some (.slice e))(hi:P.info? e=some inf){A:Option Addr}{n cap c:Nat}(h:n≤cap)(w:World):
    (Builtin.append_ #[t,t] ty #[.slice A n cap,.slice none 0 c]).run P w= .ok (.slice A n cap) w:=by
  cases A<;>simp[Builtin.append_,run_underlying hu,sizeOf,typeInfo,hi,Builtin.lenOf,h,Builtin.firstCells,storeCells,loadCells,loadCellsFrom]
theorem abg {t? :Option TypeId}(TK:aZ P T)(h:uM T t? =true):∃t e,t? =some t∧P.underlying t=some (.slice e):=by
  unfold uM at h
  split at h
  · rename_i t
    split at h
    · rename_i hT
      exact⟨t,_,rfl,(TK _ _ hT).desc.1⟩
    · cases h
  · cases h
theorem CO (M:aC w may ow m){y:aT}{v:Value}(hy:aQ w (ay ow m) may ow y v){e:TypeId}{k:K}{ys:List k.T}(hf:yw m y)(hd:bP m (.sl e k) y=some ys):
    ∃A c cs,v= .slice A ys.length c∧ys.length≤c∧aY w (o7 (ay ow m) may (qB m y)) k ys cs∧(ys≠[]→∃ad,A=some ad∧∀j u,cs[j]? =some u→w.cell? (ad.add j)=some u):=by
  have h:=kY M hf hy hd
  obtain⟨A,c,cs,h1,h2,h3,h4⟩:=aY.alh h
  refine⟨A,c,cs,h1,h2,?_,fun wH=> ?_⟩
  · cases y with
    |val fr k' x=>
      simp only[bP]at hd
      obtain⟨rfl,_⟩:=dP hd
      simp only[fK,K.flat,Bool.or_false]at h3
      simp only[qB]
      cases fr with
      |true=>exact h3
      |false=>
        cases hk:k.flat with
        |true=>exact h3.flat hk
        |false=>simpa using h3
    |nil=>exact h3
    |own q=>
      simp only[fK,qB]at h3⊢
      exact h3
  · obtain ⟨ad, h5, _, _, h6⟩ := h4 wH
    exact⟨ad,h5,h6⟩
theorem KY (TK:aZ P T){t t2 e e2:TypeId}{ty:TypeId}{ei:TI}(hu:P.underlying t=some (.slice e))(Vr:P.underlying t2=some (.slice e2))(yO:T e=some ei)(Bo:0<ei.k.n)
    {v:Value} {n:Nat} {xs:List Value} (dM:w.ownsRow 0 e ei.k.n v n xs) {A:Option Addr} {q c:Nat} {news:List Value} (hl:news.length=q*ei.k.n)
    (hA:q≠0→∃ad,A=some ad∧∀j u,news[j]? =some u→w.cell? (ad.add j)=some u) (hA0:q=0→A=none→c=c) (h1:∀u∈news,u.oneCell'=true) (Jp:n+q<zy ei.bytes):
    ∃v' w',(Builtin.append_ #[t,t2] ty #[v,.slice A q c]).run P w= .ok v' w'∧w'.ownsRow 0 e ei.k.n v' (n+q) (xs++news)∧w.grownBy w' v.ownBlock∧(v'.ownBlock=v.ownBlock∨v'.ownBlock=some w.heap.size):=by
  obtain⟨inf,yx,JI,hi3,z,S9,Si⟩:=(TK _ _ yO).info
  rw[Qj hu Vr]
  have S_:z.cells.size=ei.k.n:=by rw[←Array.length_toList,Si,Bl]
  have hb:(n+q)*ei.bytes≤140737488355328:=by
    unfold zy at Jp
    exact Nat.le_trans (Nat.mul_le_mul_right _ (Nat.le_of_lt Jp)) (Nat.div_mul_le_self _ _)
  have hm:n+q≤maxLen:=by
    have:n+q<140737488355328:=Nat.lt_of_lt_of_le Jp (Nat.div_le_self _ _)
    unfold maxLen;omega
  cases A with
  |some ad=>
    obtain⟨v',w',h2,h3,h4,_,h5⟩:=run_append_own_at (P:=P) w 0 t ty e inf z ei.k.n ei.bytes hu yx S9 JI hi3 S_ Bo v n xs dM ad q c news hl (fun j u hu=>by
      by_cases hq:q=0
      · subst hq
        have:news=[]:=List.eq_nil_of_length_eq_zero (by simpa using hl)
        subst this;simp at hu
      · obtain ⟨ad', h6, h7⟩ := hA hq
        obtain rfl:=Option.some.inj h6
        exact h7 j u hu) h1 hm hb (Nat.zero_le _)
    exact⟨v',w',h2,h3,h4,h5⟩
  |none=>
    have hq:q=0:=by
      rcases Nat.eq_zero_or_pos q with h|h
      · exact h
      · obtain⟨ad,h6,_⟩:=hA (by omega);cases h6
    subst hq
    have afm:news=[]:=List.eq_nil_of_length_eq_zero (by simpa using hl)
    subst afm
    obtain⟨A',c',rfl⟩:=ownsRow.slice dM
    have afk:n≤c':=by
      rcases dM.2 with⟨h3,h4⟩|⟨g,cp,cur,h3,hg,hh,hn,rest⟩
      · omega
      · injection h3 with _ _ h3;omega
    exact⟨_,w,Tj hu yx afk w,by simpa using dM,⟨rfl,rfl,rfl,Nat.le_refl _,fun _ _ _=>rfl⟩,.inl rfl⟩
theorem Zf (TK:aZ P T)(M:aC w may ow m)(hm:∀b,w.heap.size≤b→may b){ts:List TypeId}{ty:TypeId}{l y:aT}{u v:Value}{c:SV→Mem→Option R}(KQ:aQ w (ay ow m) may ow l u)(hv:aQ w (ay ow m) may ow y v)
    (h:jv T m .append ts [.one (.lf l),.one (.lf y)] c=some r) (hts:ts.length=2):g_ P may w ow m (do pure (.value (←Builtin.append_ ts.toArray ty #[u,v]))) c r:=by
  match ts,hts with
  |[t,t2],_=>
  simp only[jv,List.getElem?_cons_zero,List.getElem?_cons_succ]at h
  obtain⟨hs,h⟩:=aG h
  obtain⟨_,e2,ht2,Vr⟩:=abg TK hs
  obtain rfl:=Option.some.inj ht2
  simp only[Option.bind_some]at h
  split at h
  case h_2=>cases h
  rename_i e e' k ag by' hT
  obtain⟨hu,ei,yO,AY,Bo⟩:=(TK _ _ hT).desc
  injection AY with h1 h2
  subst h1 h2
  obtain⟨M1,K1⟩:=M.freeze y
  have JK:aQ w (ay ow (m.freeze y)) may ow y v:=aQ.aW K1.stay K1.rv hv
  have Tn:aQ w (ay ow (m.freeze y)) may ow l u:=aQ.aW K1.stay K1.rv KQ
  simp only[yO]at h
  cases hd:bP (m.freeze y) (.sl e' ei.k) y with
  |none=>simp[hd]at h
  |some ys=>
    simp only[hd]at h
    obtain⟨A,cp,cs,rfl,hcp,lQ,hA⟩:=CO M1 JK (uQ m y) hd
    cases l with
    |val=>cases h
    |nil=>
      simp only at h
      obtain⟨Jp,h⟩:=aG h
      simp only[decide_eq_true_eq]at Jp
      obtain rfl:u= .slice none 0 0:=Tn
      obtain⟨v',w',h3,h4,h5,h6⟩:=KY (P:=P) (ty:=ty) TK hu Vr yO Bo (World.ownsRow_nil w 0 e' ei.k.n) (A:=A) (c:=cp) (lQ.len) (fun hq=>hA (by rintro rfl;simp at hq)) (fun _ _=>rfl) lQ.one (by simpa using Jp)
      refine g_.mono K1 (g_.newRow M1 hm h h3 ⟨h5.os,h5.tape,h5.output,h5.size,fun b hb=>h5.block b hb (by simp[Value.ownBlock])⟩ rfl (by simpa using h4) lQ fun b hb=> ?_)
      rcases h6 with h6|h6
      · rw[h6]at hb;cases hb
      · rw[h6]at hb;have:=Option.some.inj hb;omega
    |own z=>
      simp only at h
      cases hr:(m.freeze y).row? z with
      |none=>simp[hr]at h
      |some row=>
        simp only[hr]at h
        cases hc:K.cast (.sl row.e row.k) (.sl e' ei.k) row.xs with
        |none=>simp[hc]at h
        |some xs=>
          simp only[hc]at h
          obtain⟨e1,e2⟩:=dP hc
          obtain⟨re,rk,rfr,rrw,XI⟩:=row
          simp only at e1 e2 h hc
          injection e1 with e3 e4
          subst e3 e4
          simp only at e2
          subst e2
          obtain⟨hw,h'⟩:=aG h
          clear h
          have h:=h'
          clear h'
          simp only[Bool.and_eq_true,decide_eq_true_eq]at hw
          obtain⟨hw,Jp⟩:=hw
          subst hw
          obtain⟨v1,Jq,RR⟩:=M1.sl z _ hr Tn.1 Tn.2
          obtain rfl:u=v1:=Option.some.inj (Tn.1.symm.trans Jq)
          obtain⟨_,R2⟩:=RR
          simp only[if_true]at R2
          obtain⟨cs0,dM,VZ⟩:=R2
          obtain⟨v',w',h3,h4,h5,h6⟩:=KY (P:=P) (ty:=ty) TK hu Vr yO Bo dM (A:=A) (c:=cp) (lQ.len) (fun hq=>hA (by rintro rfl;simp at hq)) (fun _ _=>rfl) lQ.one Jp
          have VO:eG ow (m.freeze y) (.row z)=u.ownBlock:=(fF hr Jq rfl).trans (jl Tn.2)
          obtain⟨M2,K2⟩:=M1.renew (w':=w') z ⟨re,ei.k,rfr&&qB (m.freeze y) y,true,List.append XI ys⟩ v' h5.size h5.os h5.tape h5.output (fun b hb wH=>h5.block b hb (by rw[VO]at wH;exact fun e=>wH e.symm)) rfl (cs0++cs)
            (by have e5 : (List.append XI ys).length = XI.length + List.length (α := ei.k.T) ys := List.length_append
                show w'.ownsRow 0 re ei.k.n v' (List.append XI ys).length _
                rw[e5];exact h4) ((VZ.aW (iF.mono fun b _ hb=>⟨hb.1,fun g=>hb.2 (by simp at g;exact g.1)⟩)).append (lQ.aW (iF.mono fun b _ hb=>⟨hb.1,fun g=>hb.2 (by simp at g;exact g.2)⟩))) (fun b hb=>by
              have dX:=(World.ownsRow.lt h4 b hb).2
              rcases h6 with h6|h6
              · rw [h6] at hb
                have:=M1.fH _ _ (VO.trans hb)
                exact⟨this.1,dX,.inr (VO.trans hb)⟩
              · rw [h6] at hb
                have:=Option.some.inj hb
                exact⟨hm b (by omega),dX,.inl (by omega)⟩)
          unfold Fx.newRow at h
          simp only[List.length_set]at h
          obtain⟨A',c',Cm⟩:=ownsRow.slice h4
          refine g_.mono K1 ⟨_,_,v',w',_,h,.inl (by simp[h3]),M2,K2,?_,A',_,c',Cm⟩
          show(ow.rv++[_])[(m.freeze y).rows.length]? =_
          rw[←M1.lX];simp
end
section
variable {R:Type} {P:Program} {T:dH} {w:World} {may:Nat→Prop} {ow:Ow} {m:Mem} {r:R}
theorem abh {dT sT e ty:TypeId}{inf:TypeInfo}(hu:P.underlying dT=some (.slice e))(hi:P.info? e=some inf){g dLen dCap:Nat}{t:TypeId}{cur:Array Value}(hg:w.heap[g]? =some (.cells cur t (0,0)))
  {A:Option Addr} {sLen sCap:Nat} {cs:List Value} (hn:cs.length=Nat.min sLen dLen*inf.size) (hA:cs≠[]→∃ad,A=some ad∧∀j u,cs[j]? =some u→w.cell? (ad.add j)=some u) (hA0:A=none→sLen=0) (DY:cs.length≤cur.size) (h1:∀v∈cs,v.oneCell'=true):
  (Builtin.copy_ #[dT,sT] ty #[.slice (some ⟨g,0,none⟩) dLen dCap,.slice A sLen sCap]).run P w= .ok (goInt (Nat.min sLen dLen)) (w.setRow g (cs++cur.toList.drop cs.length).toArray):=by
 have EO:=run_storeCells_at P g 0 t cs 0 cur w hg (by simpa using DY) h1
 simp only[Nat.add_zero,List.take_zero,List.nil_append,Nat.zero_add]at EO
 have hf:(Builtin.firstCells inf.size (Nat.min sLen dLen) (.slice A sLen sCap)).run P w= .ok cs.toArray w:=by
  cases A with
  |none=>
   have h0:=hA0 rfl
   subst h0
   have:cs=[]:=List.eq_nil_of_length_eq_zero (by simpa using hn)
   subst this
   exact run_firstCells_none w _ _ _ _
  |some ad=>
   refine run_firstCells_some w _ _ ad _ _ cs hn fun j u hu=> ?_
   obtain⟨ad',h2,h3⟩:=hA (by rintro rfl;simp at hu)
   obtain rfl:=Option.some.inj h2
   exact h3 j u hu
 simp[Builtin.copy_,run_underlying hu,Builtin.lenOf,sizeOf,typeInfo,hi,hf,EO]
theorem afo (TK:aZ P T)(M:aC w may ow m){ts:List TypeId}{ty:TypeId}{z:Nat}{y:aT}{u v:Value}{c:SV→Mem→Option R}(KQ:aQ w (ay ow m) may ow (.own z) u)(hv:aQ w (ay ow m) may ow y v)
  (h:jv T m .copy ts [.one (.lf (.own z)),.one (.lf y)] c=some r) (hts:ts.length=2):g_ P may w ow m (do pure (.value (←Builtin.copy_ ts.toArray ty #[u,v]))) c r:=by
 match ts,hts with
 |[t,t2],_=>
 simp only[jv,List.getElem?_cons_zero,List.getElem?_cons_succ,Option.bind_some]at h
 obtain⟨M1,K1⟩:=M.freeze y
 have JK:aQ w (ay ow (m.freeze y)) may ow y v:=aQ.aW K1.stay K1.rv hv
 have Tn:aQ w (ay ow (m.freeze y)) may ow (.own z) u:=aQ.aW K1.stay K1.rv KQ
 split at h
 case h_2=>cases h
 rename_i e e' k ag by' row hT hr
 obtain⟨hu,ei,yO,AY,Bo⟩:=(TK _ _ hT).desc
 injection AY with h1 h2
 subst h1 h2
 obtain⟨inf,yx,JI,_⟩:=(TK _ _ yO).info
 cases hd:bP (m.freeze y) (.sl row.e row.k) y with
 |none=>simp[hd]at h
 |some ys=>
  simp only[hd]at h
  obtain⟨ys',hys⟩:∃ys':List row.k.T,ys'=ys:=⟨ys,rfl⟩
  subst hys
  obtain⟨hb,h⟩:=aG h
  simp only[Bool.and_eq_true]at hb
  obtain⟨hw,hk⟩:=hb
  have hk:=Nat.eq_of_beq_eq_true hk
  obtain⟨A,cp,cs,rfl,hcp,lQ,hA⟩:=CO M1 JK (uQ m y) hd
  obtain⟨v1,Jq,RR⟩:=M1.sl z _ hr Tn.1 Tn.2
  obtain rfl:u=v1:=Option.some.inj (Tn.1.symm.trans Jq)
  obtain⟨_,R2⟩:=RR
  rw[hw]at R2
  simp only[if_true]at R2
  obtain⟨cs0,dM,VZ⟩:=R2
  have alq:0<row.k.n:=hk▸Bo
  have abj:=lQ.aW (ok':=o7 (ay ow (m.freeze y)) may (row.fr&&qB (m.freeze y) y)) (iF.mono fun b _ hb=>⟨hb.1,fun g=>hb.2 (by simp at g;exact g.2)⟩)
  have Zg:=VZ.aW (ok':=o7 (ay ow (m.freeze y)) may (row.fr&&qB (m.freeze y) y)) (iF.mono fun b _ hb=>⟨hb.1,fun g=>hb.2 (by simp at g;exact g.1)⟩)
  have rU:=(abj.take row.xs.length).append (Zg.drop (List.length (α:=row.k.T) ys'))
  have hl:(List.take row.xs.length ys'++row.xs.drop (List.length (α:=row.k.T) ys')).length=row.xs.length:=by
   simp only[List.length_append,List.length_take,List.length_drop];omega
  have Zd:(cs.take (row.xs.length*row.k.n)).length=Nat.min (List.length (α:=row.k.T) ys') row.xs.length*inf.size:=by
   rw[List.length_take,lQ.len,JI,hk,←Nat.mul_min_mul_right,Nat.min_comm]
  rcases dM.2 with⟨h3,h4⟩|⟨g,cap,cur,h3,hg,hh,VW,hcm,sW,Aw⟩
  ·-- a row without memory
   subst h3
   have afm:row.xs=[]:=List.eq_nil_of_length_eq_zero h4
   have vW:(Builtin.copy_ #[t,t2] ty #[.slice none 0 0,.slice A (List.length (α:=row.k.T) ys') cp]).run P w= .ok (goInt 0) w:=by
    have hf:(Builtin.firstCells inf.size 0 (.slice A (List.length (α:=row.k.T) ys') cp)).run P w= .ok #[] w:=by
     cases A<;>simp[Builtin.firstCells,loadCells,loadCellsFrom]
    simp[Builtin.copy_,run_underlying hu,Builtin.lenOf,sizeOf,typeInfo,yx,hf]
   have Zh:Nat.min (List.length (α:=row.k.T) ys') row.xs.length=0:=by rw[afm];simp
   rw[Zh]at h
   obtain⟨M2,K2⟩:=M1.write (w':=w) z row {row with fr:=row.fr&&qB (m.freeze y) y,xs:=List.take row.xs.length ys'++row.xs.drop (List.length (α:=row.k.T) ys')} _ hr Jq hw rfl hl hw rfl rfl rfl rfl (fun _ _ _=>rfl)
    _ (by
     have e1:List.take row.xs.length ys'++row.xs.drop (List.length (α:=row.k.T) ys')=[]:=List.eq_nil_of_length_eq_zero (by rw[hl,h4])
     have e2:cs.take (row.xs.length*row.k.n)++cs0.drop (List.length (α:=row.k.T) ys'*row.k.n)=[]:=by
      refine List.eq_nil_of_length_eq_zero ?_
      rw[rU.len,hl,h4,Nat.zero_mul]
     rw[e1,e2]
     exact World.ownsRow_nil w 0 _ _) rU
   exact g_.mono K1 ⟨_,_,.int .i64 0,w,ow,h,.inl (by simp[vW,goInt]),M2,K2,rfl⟩
  ·subst h3
   have ali:cs0.length≤cur.size:=by rw[dM.1,sW];exact Nat.mul_le_mul_right _ VW
   have au7:=dM.1
   have DY:(cs.take (row.xs.length*row.k.n)).length≤cur.size:=by
    rw[List.length_take];omega
   have vW:=abh (P:=P) (ty:=ty) (sT:=t2) (dT:=t) hu yx (dLen:=row.xs.length) (dCap:=cap) hh (A:=A) (sLen:=List.length (α:=row.k.T) ys') (sCap:=cp) Zd
    (fun wH=>by
     obtain⟨ad,h5,h6⟩:=hA (by rintro rfl;have:=lQ.len;simp at this;subst this;simp at wH)
     exact⟨ad,h5,fun j u hu=>h6 j u (by rw[List.getElem?_take]at hu;split at hu;exact hu;cases hu)⟩)
    (fun Ox=>by
     by_cases hy:ys'=[]
     ·subst hy;rfl
     ·obtain ⟨ad,h5,_⟩:=hA hy;rw[Ox]at h5;cases h5) DY
    (fun v hv=>lQ.one v (List.mem_of_mem_take hv))
   have KZ:(cs.take (row.xs.length*row.k.n)++cur.toList.drop (cs.take (row.xs.length*row.k.n)).length).take (row.xs.length*row.k.n)=
     cs.take (row.xs.length*row.k.n)++cs0.drop (List.length (α:=row.k.T) ys'*row.k.n):=by
    have hle:(cs.take (row.xs.length*row.k.n)).length≤row.xs.length*row.k.n:=List.length_take_le _ _
    rw[List.take_append,List.take_of_length_le hle]
    congr 1
    have hl1:(cs.take (row.xs.length*row.k.n)).length=Nat.min (row.xs.length*row.k.n) (List.length (α:=row.k.T) ys'*row.k.n):=by rw[List.length_take,lQ.len]
    rw[←Aw,hl1]
    apply List.ext_getElem?
    intro j
    simp only[List.getElem?_take,List.getElem?_drop]
    by_cases hc:List.length (α:=row.k.T) ys'*row.k.n≤row.xs.length*row.k.n
    ·rw [show Nat.min (row.xs.length*row.k.n) (List.length (α:=row.k.T) ys'*row.k.n)=List.length (α:=row.k.T) ys'*row.k.n from Nat.min_eq_right hc]
     by_cases hj:j<row.xs.length*row.k.n-List.length (α:=row.k.T) ys'*row.k.n
     ·rw [if_pos hj,if_pos (by omega)]
     ·rw [if_neg hj,if_neg (by omega)]
    ·rw [show Nat.min (row.xs.length*row.k.n) (List.length (α:=row.k.T) ys'*row.k.n)=row.xs.length*row.k.n from Nat.min_eq_left (by omega)]
     rw[if_neg (by omega),if_neg (by omega)]
   obtain⟨M2,K2⟩:=M1.write (w':=w.setRow g (cs.take (row.xs.length*row.k.n)++cur.toList.drop (cs.take (row.xs.length*row.k.n)).length).toArray) z row
    {row with fr:=row.fr&&qB (m.freeze y) y,xs:=List.take row.xs.length ys'++row.xs.drop (List.length (α:=row.k.T) ys')} _ hr Jq hw rfl hl hw (setRow_size _ _ _) rfl rfl rfl
    (fun b hb wH=>vV w g _ b (fun e=>wH (by rw[e];rfl))) _ (by
     refine⟨?_,.inr ⟨g,cap,_,by rw[hl],Nat.zero_le _,setRow_heap w g cur _ row.e _ hh,by rw[hl];exact VW,hcm,?_,?_⟩⟩
     ·exact rU.len
     ·rw [←sW]
      simp only[List.size_toArray,List.length_append,List.length_drop,Array.length_toList]
      omega
     ·rw [hl]
      simpa using KZ) rU
   exact g_.mono K1 ⟨_,_,.int .i64 _,_,ow,h,.inl (by simp[vW,goInt]),M2,K2,rfl⟩
theorem Tq {dT sT e ty:TypeId}{inf:TypeInfo}(hu:P.underlying dT=some (.slice e))(hi:P.info? e=some inf){g o dLen dCap:Nat}{t:TypeId}{cur:Array Value}(hg:w.heap[g]? =some (.cells cur t (0,0)))
  {A:Option Addr} {sLen sCap:Nat} {cs:List Value} (hn:cs.length=Nat.min sLen dLen*inf.size) (hA:cs≠[]→∃ad,A=some ad∧∀j u,cs[j]? =some u→w.cell? (ad.add j)=some u) (hA0:A=none→sLen=0) (DY:o+cs.length≤cur.size) (h1:∀v∈cs,v.oneCell'=true):
  (Builtin.copy_ #[dT,sT] ty #[.slice (some ((⟨g,0,none⟩:Addr).add o)) dLen dCap,.slice A sLen sCap]).run P w= .ok (goInt (Nat.min sLen dLen)) (w.setRow g (cur.toList.take o++cs++cur.toList.drop (o+cs.length)).toArray):=by
 have EO:=run_storeCells_at P g o t cs 0 cur w hg (by simpa using DY) h1
 simp only[Nat.add_zero]at EO
 rw[Addr.fO]
 have hf:(Builtin.firstCells inf.size (Nat.min sLen dLen) (.slice A sLen sCap)).run P w= .ok cs.toArray w:=by
  cases A with
  |none=>
   have h0:=hA0 rfl
   subst h0
   have:cs=[]:=List.eq_nil_of_length_eq_zero (by simpa using hn)
   subst this
   exact run_firstCells_none w _ _ _ _
  |some ad=>
   refine run_firstCells_some w _ _ ad _ _ cs hn fun j u hu=> ?_
   obtain⟨ad',h2,h3⟩:=hA (by rintro rfl;simp at hu)
   obtain rfl:=Option.some.inj h2
   exact h3 j u hu
 simp[Builtin.copy_,run_underlying hu,Builtin.lenOf,sizeOf,typeInfo,hi,hf,EO]
theorem V3 (TK:aZ P T)(M:aC w may ow m){ts:List TypeId}{ty:TypeId}{z o n:Nat}{gg:Option (Nat×Nat)}{y:aT}{u v:Value}{c:SV→Mem→Option R}(KQ:aS w (ay ow m) may ow m (.sub z o n gg) u)(hv:aQ w (ay ow m) may ow y v)
  (h:jv T m .copy ts [.sub z o n gg,.one (.lf y)] c=some r) (hts:ts.length=2):g_ P may w ow m (do pure (.value (←Builtin.copy_ ts.toArray ty #[u,v]))) c r:=by
 match ts,hts with
 |[t,t2],_=>
 simp only[jv,List.getElem?_cons_zero,List.getElem?_cons_succ,Option.bind_some]at h
 obtain⟨M1,K1⟩:=M.freeze y
 have JK:aQ w (ay ow (m.freeze y)) may ow y v:=aQ.aW K1.stay K1.rv hv
 have Tn:=aS.aW K1 KQ
 split at h
 case h_2=>cases h
 rename_i e e' k ag by' row hT hr
 obtain⟨hu,ei,yO,AY,Bo⟩:=(TK _ _ hT).desc
 injection AY with h1 h2
 subst h1 h2
 obtain⟨inf,yx,JI,_⟩:=(TK _ _ yO).info
 cases hd:bP (m.freeze y) (.sl row.e row.k) y with
 |none=>simp[hd]at h
 |some ys=>
  simp only[hd]at h
  obtain⟨ys',hys⟩:∃ys':List row.k.T,ys'=ys:=⟨ys,rfl⟩
  subst hys
  obtain⟨hb,h⟩:=aG h
  simp only[Bool.and_eq_true]at hb
  obtain⟨⟨hw,Zh⟩,hk,hle⟩:=hb
  have hk:=Nat.eq_of_beq_eq_true hk
  have hle:=Nat.le_of_ble_eq_true hle
  have Zh:0<n:=Nat.le_of_ble_eq_true Zh
  obtain⟨A,cp,cs,rfl,hcp,lQ,hA⟩:=CO M1 JK (uQ m y) hd
  obtain⟨_,_,Tn⟩:=Tn
  obtain⟨_,_,Tn⟩:=Tn row hr
  obtain⟨γ,L,C,c',Vr,rfl,_⟩:=Tn Zh
  obtain⟨v1,Jq,RR⟩:=M1.sl z _ hr Vr ⟨_,_,_,rfl⟩
  obtain rfl:=Option.some.inj (Jq.symm.trans Vr)
  obtain⟨_,R2⟩:=RR
  rw[hw]at R2
  simp only[if_true]at R2
  obtain⟨cs0,dM,VZ⟩:=R2
  have alq:0<row.k.n:=hk▸Bo
  have hq:∃q,q=Nat.min (List.length (α:=row.k.T) ys') n:=⟨_,rfl⟩
  obtain⟨q,hq⟩:=hq
  have hqn:q≤n:=hq▸Nat.min_le_right _ _
  have hqy:q≤List.length (α:=row.k.T) ys':=hq▸Nat.min_le_left _ _
  have htk:List.take n ys'=List.take q ys':=by
   rw[hq]
   by_cases hyn:List.length (α:=row.k.T) ys'≤n
   ·rw [show Nat.min (List.length (α:=row.k.T) ys') n=List.length (α:=row.k.T) ys' from Nat.min_eq_left hyn,List.take_of_length_le hyn,List.take_length]
   ·rw [show Nat.min (List.length (α:=row.k.T) ys') n=n from Nat.min_eq_right (by omega)]
  rw[←hq,htk]at h
  have abj:=lQ.aW (ok':=o7 (ay ow (m.freeze y)) may (row.fr&&qB (m.freeze y) y)) (iF.mono fun b _ hb=>⟨hb.1,fun g=>hb.2 (by simp at g;exact g.2)⟩)
  have Zg:=VZ.aW (ok':=o7 (ay ow (m.freeze y)) may (row.fr&&qB (m.freeze y) y)) (iF.mono fun b _ hb=>⟨hb.1,fun g=>hb.2 (by simp at g;exact g.1)⟩)
  have rU:=(Zg.take o).append ((abj.take q).append (Zg.drop (o+q)))
  have hl:(row.xs.take o++(List.take q ys'++row.xs.drop (o+q))).length=row.xs.length:=by
   simp only[List.length_append,List.length_take,List.length_drop];omega
  have Zd:(cs.take (q*row.k.n)).length=Nat.min (List.length (α:=row.k.T) ys') n*inf.size:=by
   rw[List.length_take,lQ.len,JI,hk,←hq]
   exact Nat.min_eq_left (Nat.mul_le_mul_right _ hqy)
  have Tt:(cs.take (q*row.k.n)).length=q*row.k.n:=by rw[Zd,JI,hk,hq]
  rcases dM.2 with⟨h3,h4⟩|⟨g,cap,cur,h3,hg,hh,VW,hcm,sW,Aw⟩
  ·cases h3
  ·injection h3 with h5 h6 h7
   injection h5 with h5
   injection h5 with h5
   subst h5 h6 h7
   have hoq:o*row.k.n+q*row.k.n≤row.xs.length*row.k.n:=by rw[←Nat.add_mul];exact Nat.mul_le_mul_right _ (by omega)
   have ali:row.xs.length*row.k.n≤cur.size:=by rw[sW];exact Nat.mul_le_mul_right _ VW
   have vW:=Tq (P:=P) (ty:=ty) (sT:=t2) (dT:=t) hu yx (o:=o*row.k.n) (dLen:=n) (dCap:=c') hh (A:=A) (sLen:=List.length (α:=row.k.T) ys') (sCap:=cp) Zd
    (fun wH=>by
     obtain⟨ad,h5,h6⟩:=hA (by rintro rfl;have:=lQ.len;simp at this;subst this;simp at wH)
     exact⟨ad,h5,fun j u hu=>h6 j u (by rw[List.getElem?_take]at hu;split at hu;exact hu;cases hu)⟩)
    (fun Ox=>by
     by_cases hy:ys'=[]
     ·subst hy;rfl
     ·obtain ⟨ad,h5,_⟩:=hA hy;rw[Ox]at h5;cases h5) (by rw[Tt];omega)
    (fun v hv=>lQ.one v (List.mem_of_mem_take hv))
   have KZ:(cur.toList.take (o*row.k.n)++cs.take (q*row.k.n)++cur.toList.drop (o*row.k.n+(cs.take (q*row.k.n)).length)).take (row.xs.length*row.k.n)=
     cs0.take (o*row.k.n)++(cs.take (q*row.k.n)++cs0.drop ((o+q)*row.k.n)):=by
    have h9:(cur.toList.take (o*row.k.n)).length=o*row.k.n:=by simp;omega
    rw[Tt,List.append_assoc,List.take_append,h9,List.take_of_length_le (by rw[h9];omega),List.take_append,Tt,List.take_of_length_le (l:=cs.take (q*row.k.n)) (by rw[Tt];omega)]
    rw[←Aw,List.take_take,Nat.min_eq_left (by omega)]
    congr 2
    apply List.ext_getElem?
    intro j
    simp only[List.getElem?_take,List.getElem?_drop,Nat.add_mul]
    by_cases hj:j<row.xs.length*row.k.n-o*row.k.n-q*row.k.n
    ·rw [if_pos hj,if_pos (by omega)]
    ·rw [if_neg hj,if_neg (by omega)]
   obtain⟨M2,K2⟩:=M1.write (w':=w.setRow γ (cur.toList.take (o*row.k.n)++cs.take (q*row.k.n)++cur.toList.drop (o*row.k.n+(cs.take (q*row.k.n)).length)).toArray) z row
    {row with fr:=row.fr&&qB (m.freeze y) y,xs:=row.xs.take o++(List.take q ys'++row.xs.drop (o+q))} _ hr Jq hw rfl hl hw (setRow_size _ _ _) rfl rfl rfl
    (fun b hb wH=>vV w γ _ b (fun e=>wH (by rw[e];rfl))) _ (by
     refine⟨?_,.inr ⟨γ,_,_,by rw[hl],Nat.zero_le _,setRow_heap w γ cur _ row.e _ hh,by rw[hl];exact VW,hcm,?_,?_⟩⟩
     ·exact rU.len
     ·rw [←sW]
      simp only[List.size_toArray,List.length_append,List.length_drop,Array.length_toList,Tt,List.length_take]
      omega
     ·rw [hl]
      simpa using KZ) rU
   have abk:(Builtin.copy_ [t,t2].toArray ty #[.slice (some ((⟨γ,0,none⟩:Addr).add (o*row.k.n))) n c',.slice A (List.length (α:=row.k.T) ys') cp]).run P w= .ok (.int .i64 (q:Nat)) (w.setRow γ (cur.toList.take (o*row.k.n)++cs.take (q*row.k.n)++cur.toList.drop (o*row.k.n+(cs.take (q*row.k.n)).length)).toArray):=by
    exact vW.trans (by rw[←hq];rfl)
   exact g_.mono K1 ⟨_,_,.int .i64 _,_,ow,h,.inl (by simp only[Sem.run_bind,abk];rfl),M2,K2,rfl⟩
theorem abl (TK:aZ P T)(M:aC w may ow m){src dst:TypeId}{x:aT}{u:Value}{c:SV→Mem→Option R}(hx:aQ w (ay ow m) may ow x u)
  (h:Ba T m src dst x (fun l=>c (.one (.lf l)) m)=some r):g_ P may w ow m (do pure (.value (←convert src dst u))) c r:=by
 unfold Ba at h
 split at h
 ·rename_i hs hd
  obtain rfl:=zF hx
  exact g_.quiet M h (v:= .int _ _) (by simp[convert,run_underlying (TK _ _ hs).desc.1,run_underlying (TK _ _ hd).desc.1,Conv.intToInt]) rfl
 ·rename_i e k1 ag by' k2 ag2 by2 q hs hd
  split at h
  case h_2=>cases h
  rename_i k3 ag3 by3 row yO hr
  obtain⟨hu,_⟩:=(TK _ _ hs).desc
  have hu8:P.underlying e=some (.int .u8):=(TK _ _ yO).desc.1
  have hd':P.underlying dst=some .string:=(TK _ _ hd).desc.1
  cases hc:K.cast (.sl row.e row.k) (.sl row.e (.int .u8)) row.xs with
  |none=>simp[hc]at h
  |some xs=>
   simp only[hc]at h
   obtain⟨e1,e2⟩:=dP hc
   obtain⟨re,rk,rfr,rrw,XI⟩:=row
   simp only at e1 e2 h hc
   injection e1 with _ e4
   subst e4
   simp only at e2
   subst e2
   obtain⟨v,hv,RR⟩:=M.sl q _ hr hx.1 hx.2
   obtain rfl:u=v:=Option.some.inj (hx.1.symm.trans hv)
   have XH:=RR.read (ok':=fun _=>True) (fun _ _=>trivial) fun Dl b hb=>⟨trivial,(M.fH (.row q) b (by rw[fF hr hv Dl];exact hb)).1⟩
   obtain⟨xs,XJ⟩:∃xs:List Int,xs=XI:=⟨XI,rfl⟩
   subst XJ
   obtain⟨A,cp,KQ,hc',KR⟩:=XH
   obtain rfl:u= .slice A xs.length cp:=(List.cons.inj KQ).1
   refine g_.quiet M h (v:= .string (strOfNums xs)) ?_ rfl
   cases xs with
   |nil=>
    cases A with
    |none=>exact run_convert_bytes_nil w src e hu hu8 _ _ dst hd'
    |some ad=>
     have:=run_convert_bytes_string w src dst e (some ad) 0 cp hu hu8 hd'
     show(convert src dst (.slice (some ad) 0 cp)).run P w=_
     rw[this]
     simp[Conv.bytesToString,loadCells,loadCellsFrom]
     rfl
   |cons x0 xr=>
    obtain⟨ad,es,rfl,_,_,hr0,hc0⟩:=KR 0 x0 rfl
    have ap9:es=[.int .u8 x0]:=hr0
    have ahC:ad.spot=none:=by
     have:=hc0 0 (.int .u8 x0) (by rw[ap9];rfl)
     simp[Addr.add,World.cell?]at this
     split at this
     ·split at this
      ·cases this
      ·rename_i hs;simpa using hs
     ·cases this
    obtain⟨b,off,sp⟩:=ad
    simp only at ahC
    subst ahC
    exact run_convert_bytes_arg w src e hu hu8 b off _ cp (x0::xr) rfl (fun i hi=>by
     obtain⟨ad',es',h5,_,_,Sj,hc1⟩:=KR i _ (List.getElem?_eq_getElem hi)
     obtain rfl:=Option.some.inj h5
     have ap_:es'=[.int .u8 ((x0::xr)[i])]:=Sj
     have:=hc1 0 _ (by rw[ap_];rfl)
     simp only[K.n,Nat.mul_one,Nat.add_zero]at this
     have e9:(⟨b,off,none⟩:Addr).add i=⟨b,off+i,none⟩:=by unfold Addr.add;split<;>simp_all
     rw[e9]at this
     rw[this]
     simp[List.getD,List.getElem?_eq_getElem hi]) dst hd'
 ·cases h
end
def ES (w:World)(ok:Nat→Prop)(p:Bool×K)(x:p.2.T)(v:Value):Prop:=
 if p.1=true then ∃cs:List Value,v= .agg cs.toArray∧Rd w ok p.2 x cs else Rd w ok p.2 x [v]
def jy (w:World)(ok:Nat→Prop):(ps:List (Bool×K))→eH ps→List Value→Prop
 |[],_,vs=>vs=[]
 |p::r,x,vs=>∃v vr,vs=v::vr∧ES w ok p x.1 v∧jy w ok r x.2 vr
def vX (w:World)(okA:Nat→Prop):Md→(ps:List (Bool×K))→eH ps→List Value→Prop
 | .first,p::r,x,vs=>∃v vr,vs=v::vr∧ES w okA p x.1 v∧jy w (fun _=>True) r x.2 vr
 |_,ps,x,vs=>jy w okA ps x vs
theorem vX.of {w:World}{okA:Nat→Prop}{md:Md}{ps:List (Bool×K)}{x:eH ps}{vs:List Value}(h:md.isShared=false)(H:jy w okA ps x vs):vX w okA md ps x vs:=by
 cases md<;>first|exact H|cases h
def Laid (w:World)(g:Nat)(tb:PW):Prop:=g<w.heap.size∧∀(j:Nat) (x:Int),tb.xs[j]? =some x→w.cell? ((⟨g,0,none⟩:Addr).add j)=some (.int tb.k x)
def Qk (aJ:Nat→Option PW)(w:World):Prop:=∀g tb,aJ g=some tb→Laid w g tb
def Tv (P:Program)(tb:PW):Prop:=∃e,P.underlying tb.t=some (.array tb.xs.length e)∧∀w,(sizeOf e).run P w= .ok 1 w
def ET (P:Program)(aJ:Nat→Option PW)(g:FuncId)(sg:kH):Prop:=
 ∀(w:World) (okA:Nat→Prop) (x:eH sg.ps) (y:eH sg.rs) (vs:List Value),Qk aJ w→sg.fn x=some y→vX w okA sg.md sg.ps x vs→
  Calls P g vs.toArray w fun e w'=>∃v cs rows aO,e= .returned v∧jh sg.md.vI false 0 sg.rs y=some (cs,rows)∧aC w' (fun b=>w.heap.size≤b) aO ⟨rows,[]⟩∧
   aS w' (fun b=>ay aO ⟨rows,[]⟩ b∧((sg.md.isShared=true∧okA b)∨w.heap.size≤b)) (fun b=>w.heap.size≤b) aO ⟨rows,[]⟩ (Dj cs) v∧Below w.heap.size w w'
structure bW (P:Program) (aJ:Nat→Option PW) (g:FuncId) (sg:kH):Prop where
 fn:∃fn,P.funcs[g]? =some fn∧(fn.name== "runtime.NumGoroutine")=false∧fn.body.isNone=false
 contract:ET P aJ g sg
def Body (P:Program)(g:FuncId):Prop:=∃fn,P.funcs[g]? =some fn∧(fn.name== "runtime.NumGoroutine")=false∧fn.body.isNone=false
def wU (A:Option Addr)(b:Nat):Prop:=∀a,A=some a→b≠a.block
structure afq (P:Program) (g:FuncId) (gg:KC):Prop where
 fn:Body P g
 contract:∀(w:World) (zs:List gg.k.T) (x:eH gg.ps) (y:eH gg.rs) (A:Option Addr) (L Q:Nat) (cs vs:List Value),gg.fn zs x=some y→w.ownsRow 0 gg.e gg.k.n (.slice A L Q) zs.length cs→aY w (wU A) gg.k zs cs→jy w (wU A) gg.ps x vs→
  Calls P g (Value.slice A L Q::vs).toArray w fun e w'=>∃v ds,e= .returned v∧jh false false 0 gg.rs y=some (ds,[])∧
   (∀(ok may:Nat→Prop) (ow:Ow) (m:Mem),aS w' ok may ow m (Dj ds) v)∧w.heap.size≤w'.heap.size∧w'.os=w.os∧w'.tape=w.tape∧w'.output=w.output∧(∀b,b<w.heap.size→wU A b→w'.heap[b]? =w.heap[b]?)
structure aiU (P:Program) (g:FuncId) (e:TypeId) (n b:Nat):Prop where
 fn:Body P g
 contract:∀(w:World) (A:Option Addr) (len c:Nat) (cs:List Value),cs.length=len*n→(∀u∈cs,u.oneCell'=true)→(len≠0→∃ad,A=some ad∧∀j u,cs[j]? =some u→w.cell? (ad.add j)=some u)→len≤c→len<zy b→
  Calls P g #[.slice A len c] w fun e' w'=>∃v,e'= .returned v∧w'.ownsRow 0 e n v len cs∧(∀d,v.ownBlock=some d→w.heap.size≤d)∧Below w.heap.size w w'
structure Zi (P:Program) (g:FuncId) (ig:Bc):Prop where
 fn:∃fn,P.funcs[g]? =some fn∧(fn.name== "runtime.NumGoroutine")=false∧fn.body.isNone=false
 contract:∀(w:World) (zs:List ig.k.T) (o n:Nat) (x:eH ig.ps) (y:eH ig.rs) (ws:List ig.k.T) (γ L Q c:Nat) (cs:List Value) (vs:List Value),ig.fn zs o n x=some (y,ws)→ws.length=zs.length→ig.k.flat=true→0<n→o+n≤zs.length→n≤c→
  w.ownsRow 0 ig.e ig.k.n (.slice (some ⟨γ,0,none⟩) L Q) zs.length cs→aY w (fun _=>True) ig.k zs cs→jy w (fun b=>b≠γ) ig.ps x vs→
  Calls P g (Value.slice (some ((⟨γ,0,none⟩:Addr).add (o*ig.k.n))) n c::vs).toArray w fun e w'=>∃v ds es,e= .returned v∧jh false false 0 ig.rs y=some (ds,[])∧
   (∀(ok may:Nat→Prop) (ow:Ow) (m:Mem),aS w' ok may ow m (Dj ds) v)∧w.heap.size≤w'.heap.size∧w'.os=w.os∧w'.tape=w.tape∧w'.output=w.output∧(∀b,b<w.heap.size→b≠γ→w'.heap[b]? =w.heap[b]?)∧
   w'.ownsRow 0 ig.e ig.k.n (.slice (some ⟨γ,0,none⟩) L Q) zs.length es∧aY w' (fun _=>True) ig.k ws es
def XK (P:Program)(g:FuncId):Oth→Prop
 | .io ig=>Zi P g ig
 | .gv gg=>afq P g gg
 | .cl e n b=>aiU P g e n b
def rP.spec (xg:rP):jH:=⟨xg.gy,xg.gK,xg.ps,xg.mO,xg.nw,xg.rs,xg.own,fun _=>[],xg.AO⟩
def Oy (P:Program)(aJ:Nat→Option PW)(g:FuncId)(xg:rP):Prop:=
 ∀(w:World) (may:Nat→Prop) (ow:Ow) (G:Gh) (d:rO xg.gy) (x:eH xg.ps) (y:xO xg.nw×eH xg.rs×rO xg.gy) (s:S) (vs:List Value),(∀b,w.heap.size≤b→may b)→Qk aJ w→(∀g tb,aJ g=some tb→ay ow s.m g)→
  xg.spec.Vq G d x=some s→aC w may ow s.m→(∀q∈s.fr,∃v,vs[q.1]? =some v∧aS w (ay ow s.m) may ow s.m q.2 v)→vs.length=s.fr.length→xg.fn d x=some y→
  Calls P g vs.toArray w fun e w'=>∃v z aO,e= .returned v∧xg.spec.ext G y=some z∧aC w' may aO z.2∧aS w' (ay aO z.2) may aO z.2 z.1 v∧(∀b,b<s.m.boxes.length→aO.bb[b]? =ow.bb[b]?)∧
   w.heap.size≤w'.heap.size∧(∀b,b<w.heap.size→ay ow s.m b→ay aO z.2 b∧w'.heap[b]? =w.heap[b]?)∧w'.os=w.os∧w'.tape=w.tape∧w'.output=w.output
structure Oz (P:Program) (aJ:Nat→Option PW) (g:FuncId) (xg:rP):Prop where
 fn:∃fn,P.funcs[g]? =some fn∧(fn.name== "runtime.NumGoroutine")=false∧fn.body.isNone=false
 contract:Oy P aJ g xg
def Zj (P:Program)(t:TypeId)(n:Nat):Prop:=∀(w:World) (op:BinOp) (x y:Operand) (xs ys:List Int),xs.length=n→ys.length=n→(op= .eql∨op= .neq)→
 (do eqGuard op t x y (.agg (xs.map (Value.int .i64)).toArray) (.agg (ys.map (Value.int .i64)).toArray);binOp op t (.agg (xs.map (Value.int .i64)).toArray) (.agg (ys.map (Value.int .i64)).toArray)).run P w= .ok (.bool (if op= .eql then xs==ys else !(xs==ys))) w
structure ah (P:Program) (C:ak):Prop where
 fn:∀g sg,C g=some sg→bW P C.aJ g sg
 io:∀g ig,C.io g=some ig→XK P g ig
 aJ:∀g tb,C.aJ g=some tb→Tv P tb
 x:∀g n xg,C.x g n=some xg→Oz P C.aJ g xg
 eqs:∀t n,C.eqs t=some n→Zj P t n
structure Live (C:ak) (may:Nat→Prop) (w:World) (ow:Ow) (m:Mem):Prop where
 new:∀b,w.heap.size≤b→may b
 EU:Qk C.aJ w
 ok:∀g tb,C.aJ g=some tb→ay ow m g
theorem Laid.aW {w w':World}{g:Nat}{tb:PW}{ok ok':Nat→Prop}(h:Laid w g tb)(S:iF w ok w' ok')(hg:ok g):Laid w' g tb:=
 ⟨(S g h.1 hg).2.1,fun j x hx=>S.cell (by rw[Addr.gU];exact hg) (h.2 j x hx)⟩
theorem Live.aW {C:ak}{may:Nat→Prop}{w w':World}{ow aO:Ow}{m m':Mem}(h:Live C may w ow m)(K:dZ may w ow m w' aO m'):Live C may w' aO m':=
 ⟨fun b hb=>h.new b (Nat.le_trans K.size hb),fun g tb e=>(h.EU g tb e).aW K.stay (h.ok g tb e),fun g tb e=>(K.stay g (h.EU g tb e).1 (h.ok g tb e)).1⟩
def Bv (fr:Bool)(d:Nat):aT→aT
 | .own r=> .own (r+d)
 | .val f k x=> .val (f||fr) k x
 | .nil=> .nil
def Vs (fr:Bool)(d:Nat):lM→lM
 | .lf l=> .lf (Bv fr d l)
 | .agg ls=> .agg (ls.map (Bv fr d))
theorem Bz (fr:Bool)(d:Nat):∀(k:K) (x:k.T) (n:Nat) ,True→aN (n+d) (bf true k x)=((aN n (bf true k x)).1.map (Bv fr d),(aN n (bf true k x)).2):=by
 have key:∀(ls:List aT) (n:Nat),(∀l∈ls,∃k x,l= .val true k x)→aN (n+d) ls=((aN n ls).1.map (Bv fr d),(aN n ls).2):=by
  intro ls
  induction ls with
  |nil=>intro n _;rfl
  |cons l r ih=>
   intro n h
   have h':∀q∈r,∃k x,q=aT.val true k x:=fun q hq=>h q (by simp[hq])
   obtain⟨k,x,rfl⟩:=h l (by simp)
   have ih:=fun n=>ih n h'
   cases k with
   |sl e k=>
    simp only[aN]
    rw[show n+d+1=n+1+d by omega,ih (n+1)]
    rfl
   |_=>simp only[aN,ih,List.map_cons,Bv,Bool.true_or]
 intro k x n _
 refine key _ n ?_
 have sp:∀(k:K) (x:k.T),∀l∈bf true k x,∃k x,l=aT.val true k x:=by
  intro k
  induction k with
  |prod a b iha ihb=>
   intro x l hl
   rcases List.mem_append.1 hl with h|h
   ·exact iha _ _ h
   ·exact ihb _ _ h
  |unit=>intro x l hl;simp[bf]at hl
  |_=>intro x l hl;simp[bf]at hl;exact⟨_,_,hl⟩
 exact sp k x
theorem abn (fr:Bool)(d:Nat):∀(k:K) (x:k.T),bf fr k x=(bf false k x).map (Bv fr d):=by
 intro k
 induction k with
 |prod a b iha ihb=>intro x;simp only[bf,List.map_append];rw[iha,ihb]
 |_=>intro x;simp[bf,Bv]
theorem afs (f:aT→aT)(agg:Bool)(ls:List aT):GL agg (ls.map f)=(GL agg ls).map fun| .lf l=> .lf (f l)| .agg ls=> .agg (ls.map f):=by
 cases agg with
 |true=>rfl
 |false=>
  match ls with
  |[]=>rfl
  |[l]=>rfl
  |_::_::_=>rfl
theorem zI (own fr:Bool)(d:Nat):∀(rs:List (Bool×K)) (y:eH rs) (n:Nat),jh own fr (n+d) rs y=(jh own false n rs y).map fun q=>(q.1.map (Vs fr d),q.2)
 |[],y,n=>rfl
 |p::r,y,n=>by
  have key:(if own then aN (n+d) (bf true p.2 y.1)else(bf fr p.2 y.1,[]))=
    (((if own then aN n (bf true p.2 y.1)else(bf false p.2 y.1,[])).1).map (Bv fr d),(if own then aN n (bf true p.2 y.1)else(bf false p.2 y.1,[])).2):=by
   cases own with
   |true=>exact Bz fr d _ _ n trivial
   |false=>
    simp only[Bool.false_eq_true,if_false]
    congr 1
    exact abn fr d _ _
  simp only[jh]
  rw[key]
  simp only[]
  rw[afs,show ∀q:Nat,n+d+q=n+q+d from fun q=>by omega,zI own fr d r y.2]
  cases GL p.1 (if own=true then aN n (bf true p.2 y.1)else(bf false p.2 y.1,[])).1 with
  |none=>rfl
  |some c=>
   cases jh own false (n+(if own=true then aN n (bf true p.2 y.1)else(bf false p.2 y.1,[])).2.length) r y.2 with
   |none=>rfl
   |some z=>cases c<;>rfl
section
variable {R:Type} {P:Program} {T:dH} {w w':World} {may:Nat→Prop} {ow aO:Ow} {m:Mem} {r:R}
theorem aQ.shift {ok ok' may':Nat→Prop}{rv:List Value}{bb:List (Option Nat)}{fr:Bool}(Ho:∀b,ok b→ok' b)(Hm:∀b,may' b→may b)(Hf:fr=true→∀b,ok b→may b):∀{l:aT} {v:Value},aQ w ok may' aO l v→aQ w ok' may ⟨rv++aO.rv,bb⟩ (Bv fr rv.length l) v
 | .val f k x,v,h=>Rd.mono (fun b hb=>⟨Ho b hb.1,fun g=>by
   cases f with
   |true=>exact Hm b (hb.2 rfl)
   |false=>exact Hf (by simpa using g) b hb.1⟩) (h:Rd _ _ _ _ _)
 | .nil,v,h=>h
 | .own q,v,h=>⟨by
   show(rv++aO.rv)[q+rv.length]? =some v
   rw[List.getElem?_append_right (by omega),Nat.add_sub_cancel];exact h.1,h.2⟩
theorem bG.shift {ok ok' may':Nat→Prop}{rv:List Value}{bb:List (Option Nat)}{fr:Bool}(Ho:∀b,ok b→ok' b)(Hm:∀b,may' b→may b)(Hf:fr=true→∀b,ok b→may b):∀{c:lM} {v:Value},bG w ok may' aO c v→bG w ok' may ⟨rv++aO.rv,bb⟩ (Vs fr rv.length c) v
 | .lf l,v,h=>aQ.shift Ho Hm Hf h
 | .agg ls,v,⟨vs,e,h⟩=>⟨vs,e,F2.qE.2 (h.imp fun _ _ h=>aQ.shift Ho Hm Hf h)⟩
theorem aS.shift {ok ok' may':Nat→Prop}{rv:List Value}{bb:List (Option Nat)}{fr:Bool}{m1 m2:Mem}(Ho:∀b,ok b→ok' b)(Hm:∀b,may' b→may b)(Hf:fr=true→∀b,ok b→may b){cs:List lM}{v:Value}(h:aS w ok may' aO m1 (Dj cs) v):
  aS w ok' may ⟨rv++aO.rv,bb⟩ m2 (Dj (cs.map (Vs fr rv.length))) v:=by
 match cs with
 |[]=>obtain⟨vs,e,h⟩:=h;exact⟨vs,e,by obtain rfl:=h.jk;trivial⟩
 |[c]=>exact bG.shift Ho Hm Hf h
 |c::d::cs=>obtain⟨vs,e,h⟩:=h;exact⟨vs,e,F2.qE.2 (h.imp fun _ _ h=>bG.shift Ho Hm Hf h)⟩
theorem aC.join (M:aC w may ow m)(hm:∀b,w.heap.size≤b→may b)(hb:Below w.heap.size w w'){rows:List (Option Row)}(M':aC w' (fun b=>w.heap.size≤b) aO ⟨rows,[]⟩)
  (vF:∀i row,(⟨rows,[]⟩:Mem).row? i=some row→row.fr=true∧row.rw=true):
  aC w' may ⟨ow.rv++aO.rv,ow.bb⟩ ⟨m.rows++rows,m.boxes⟩∧dZ may w ow m w' ⟨ow.rv++aO.rv,ow.bb⟩ ⟨m.rows++rows,m.boxes⟩∧
   ∀b,(w.heap.size≤b∧ay aO ⟨rows,[]⟩ b→ay ⟨ow.rv++aO.rv,ow.bb⟩ ⟨m.rows++rows,m.boxes⟩ b)∧(b<w.heap.size∧ay ow m b→ay ⟨ow.rv++aO.rv,ow.bb⟩ ⟨m.rows++rows,m.boxes⟩ b):=by
 have tH:∀i,(⟨m.rows++rows,m.boxes⟩:Mem).row? i=if i<m.rows.length then m.row? i else(⟨rows,[]⟩:Mem).row? (i-m.rows.length):=fun i=>row?Jj rows i m.boxes
 have VN:∀(i:Nat) (v:Value),ow.rv[i]? =some v→(ow.rv++aO.rv)[i]? =some v:=fun i v h=>by
  rw[List.getElem?_append_left (List.getElem?_eq_some_iff.1 h).1];exact h
 have alr:∀i,m.rows.length≤i→(ow.rv++aO.rv)[i]? =aO.rv[i-m.rows.length]? :=fun i h=>by
  rw[List.getElem?_append_right (by rw[M.lX];exact h),M.lX]
 have jX:∀x b,eG ⟨ow.rv++aO.rv,ow.bb⟩ ⟨m.rows++rows,m.boxes⟩ x=some b→(eG ow m x=some b∧(∀i,x= .row i→i<m.rows.length))∨∃i,m.rows.length≤i∧x= .row i∧eG aO ⟨rows,[]⟩ (.row (i-m.rows.length))=some b:=by
  intro x b h
  cases x with
  |box i=>exact .inl ⟨h,fun i h=>by cases h⟩
  |row i=>
   by_cases h1:i<m.rows.length
   ·refine .inl ⟨?_,fun j hj=>by cases hj;exact h1⟩
    simp only[eG,tH,h1,if_true]at h⊢
    cases e:m.row? i with
    |none=>rw[e]at h;cases h
    |some row=>
     rw[e]at h
     simp only at h⊢
     rwa[List.getElem?_append_left (by rw[M.lX];exact h1)]at h
   ·refine .inr ⟨i,by omega,rfl,?_⟩
    simp only[eG,tH,h1,if_false]at h⊢
    rwa[alr i (by omega)]at h
 have aiV:∀b,(w.heap.size≤b∧ay aO ⟨rows,[]⟩ b→ay ⟨ow.rv++aO.rv,ow.bb⟩ ⟨m.rows++rows,m.boxes⟩ b)∧(b<w.heap.size∧ay ow m b→ay ⟨ow.rv++aO.rv,ow.bb⟩ ⟨m.rows++rows,m.boxes⟩ b):=by
  intro b
  refine⟨fun ⟨h1,h2⟩ x hx=> ?_,fun ⟨h1,h2⟩ x hx=> ?_⟩
  ·rcases jX x b hx with⟨h3,_⟩|⟨i,_,_,h3⟩
   ·have:=(M.fH _ _ h3).2;omega
   ·exact h2 _ h3
  ·rcases jX x b hx with⟨h3,_⟩|⟨i,_,_,h3⟩
   ·exact h2 _ h3
   ·have:=(M'.fH _ _ h3).1
    omega
 have S:iF w (ay ow m) w' (ay ⟨ow.rv++aO.rv,ow.bb⟩ ⟨m.rows++rows,m.boxes⟩):=fun b dX h=>⟨(aiV b).2 ⟨dX,h⟩,Nat.lt_of_lt_of_le dX hb.size,hb.block b dX⟩
 refine⟨⟨?_,M.jc,fun i row e=> ?_,fun i bx e=> ?_,fun x y b h k=> ?_,fun x b h=> ?_,M.free⟩,⟨S,VN,fun _ _ h=>h,fun q row q1 e=> ?_,by simp,hb.size,fun b dX _=>hb.block b dX,hb.os,hb.tape,hb.output⟩,aiV⟩
 ·have h1:=M.lX
  have h2:aO.rv.length=rows.length:=M'.lX
  simp[h1,h2]
 ·rw [tH]at e
  by_cases h1:i<m.rows.length
  ·simp only[h1,if_true]at e
   obtain⟨v,hv,RR⟩:=M.rows i row e
   refine⟨v,VN i v hv,RR.aW S fun hw b AZ=>hb.block b ?_⟩
   exact(M.fH (.row i) b (by rw[fF e hv hw];exact AZ)).2
  ·simp only[h1,if_false]at e
   obtain⟨v,hv,RR⟩:=M'.rows _ row e
   refine⟨v,by rw[alr i (by omega)];exact hv,?_⟩
   obtain⟨h2,h3⟩:=vF _ _ e
   rcases RR with⟨hs,RR⟩|RR
   case inr=>exact RR.no.elim
   rw[h3]at RR
   simp only[if_true]at RR
   obtain⟨cs,dM,lQ⟩:=RR
   refine .inl ⟨hs,?_⟩
   rw[h3]
   simp only[if_true]
   refine⟨cs,dM,lQ.aW (iF.mono fun b _ AZ=> ?_)⟩
   rw[h2]at AZ⊢
   exact⟨(aiV b).1 ⟨AZ.2 rfl,AZ.1⟩,fun _=>hm b (AZ.2 rfl)⟩
 ·obtain ⟨g,hg,B⟩:=M.boxes i bx e
  exact⟨g,hg,B.aW S VN (hb.block g (M.fH _ _ (jf e hg)).2)⟩
 ·rcases jX x b h with⟨h1,h2⟩|⟨i,h1,h2,h3⟩<;>rcases jX y b k with⟨k1,k2⟩|⟨j,k1,k2,k3⟩
  ·exact M.qp x y b h1 k1
  ·have:=(M.fH _ _ h1).2;have:=(M'.fH _ _ k3).1;omega
  ·have:=(M.fH _ _ k1).2;have:=(M'.fH _ _ h3).1;omega
  ·have:=M'.qp _ _ b h3 k3
   injection this with this
   rw[h2,k2];congr 1;omega
 ·rcases jX x b h with⟨h1,h2⟩|⟨i,h1,h2,h3⟩
  ·have:=M.fH _ _ h1;exact⟨this.1,Nat.lt_of_lt_of_le this.2 hb.size⟩
  ·have:=M'.fH _ _ h3;exact⟨hm b this.1,this.2⟩
 ·rw [tH]at e
  simp only[q1,if_true]at e
  exact⟨row,e,rfl,fun _=>rfl⟩
theorem nU:∀(ls:List aT) (n i:Nat) (row:Row),(⟨(aN n ls).2,[]⟩:Mem).row? i=some row→row.fr=true∧row.rw=true
 |[],n,i,row,h=>by simp[aN,Mem.row?]at h
 |l::r,n,i,row,h=>by
  match l with
  | .val fr (.sl e k) xs=>
   simp only[aN]at h
   cases i with
   |zero=>simp[Mem.row?]at h;subst h;exact⟨rfl,rfl⟩
   |succ i=>exact nU r (n+1) i row (by simpa[Mem.row?]using h)
  | .val fr (.int q) xs=>exact nU r n i row (by simpa[aN]using h)
  | .val fr .bool xs=>exact nU r n i row (by simpa[aN]using h)
  | .val fr .raw xs=>exact nU r n i row (by simpa[aN]using h)
  | .val fr .hd xs=>exact nU r n i row (by simpa[aN]using h)
  | .val fr (.Ce g) xs=>exact nU r n i row (by simpa[aN]using h)
  | .val fr .str xs=>exact nU r n i row (by simpa[aN]using h)
  | .val fr .unit xs=>exact nU r n i row (by simpa[aN]using h)
  | .val fr (.prod a b) xs=>exact nU r n i row (by simpa[aN]using h)
  | .nil=>exact nU r n i row (by simpa[aN]using h)
  | .own q=>exact nU r n i row (by simpa[aN]using h)
theorem EW {own fr:Bool}:∀{rs:List (Bool×K)} {y:eH rs} {n:Nat} {q:List lM×List (Option Row)},jh own fr n rs y=some q→∀(i:Nat) (row:Row),(⟨q.2,[]⟩:Mem).row? i=some row→row.fr=true∧row.rw=true
 |[],y,n,q,h,i,row,hr=>by simp only[jh]at h;obtain rfl:=Option.some.inj h;simp[Mem.row?]at hr
 |p::rs,y,n,q,h,i,row,hr=>by
  simp only[jh]at h
  cases h1:GL p.1 (if own=true then aN n (bf true p.2 y.1)else(bf fr p.2 y.1,[])).1 with
  |none=>simp[h1]at h
  |some c=>
   cases h2:jh own fr (n+(if own=true then aN n (bf true p.2 y.1)else(bf fr p.2 y.1,[])).2.length) rs y.2 with
   |none=>simp[h1,h2]at h
   |some z=>
    simp only[h1,h2]at h
    obtain rfl:=Option.some.inj h
    simp only[Mem.row?]at hr
    by_cases hi:i<(if own=true then aN n (bf true p.2 y.1)else(bf fr p.2 y.1,[])).2.length
    ·rw [List.getElem?_append_left hi]at hr
     cases own with
     |true=>exact nU _ n i row (by simpa[Mem.row?]using hr)
     |false=>simp at hi
    ·rw [List.getElem?_append_right (by omega)]at hr
     exact EW h2 _ row (by simpa[Mem.row?]using hr)
theorem vY {ok2 Jk Q:Nat→Prop}:∀{ps:List (Bool×K)} {cs:List lM} {x:eH ps} {vs:List Value},(∀l∈aB cs,∀(k:K) (x:k.T) (v:Value),aQ w ok2 Jk ow l v→bP m k l=some x→Rd w Q k x [v])→F2 (bG w ok2 Jk ow) cs vs→bQ m ps cs=some x→kG ps cs=true→jy w Q ps x vs
 |[],[],x,vs,_,h,e,_=>h.jk
 |[],_::_,x,vs,_,h,e,_=>by simp[bQ]at e
 |p::ps,[],x,vs,_,h,e,_=>by simp[bQ]at e
 |p::ps,c::cs,x,v::vs,H,h,e,g=>by
  have Jm:aB (c::cs)=c.leaves++aB cs:=by simp[aB]
  simp only[bQ]at e
  cases h1:bM m p.2 c.leaves with
  |none=>simp[h1]at e
  |some y=>
   cases h2:bQ m ps cs with
   |none=>simp[h1,h2]at e
   |some z=>
    simp only[h1,h2]at e
    obtain rfl:=Option.some.inj e
    have r1:=CB (fun l hl=>H l (by rw[Jm];exact List.mem_append_left _ hl)) h.1.cells h1
    cases c with
    |lf l=>
     simp only[kG,Bool.and_eq_true,Bool.not_eq_true']at g
     refine⟨v,vs,rfl,?_,vY (fun l hl=>H l (by rw[Jm];exact List.mem_append_right _ hl)) h.2 h2 g.2⟩
     unfold ES
     rw[if_neg (by simp[g.1])]
     have h3:aQ w ok2 Jk ow l v:=h.1
     rw[uD h3.one]at r1
     exact r1
    |agg ls=>
     simp only[kG,Bool.and_eq_true]at g
     refine⟨v,vs,rfl,?_,vY (fun l hl=>H l (by rw[Jm];exact List.mem_append_right _ hl)) h.2 h2 g.2⟩
     unfold ES
     rw[if_pos g.1]
     obtain⟨us,rfl,h3⟩:=h.1
     exact⟨us,rfl,by simpa[Value.cells]using r1⟩
 |p::ps,c::cs,x,[],_,h,e,g=>h.elim
theorem zJ (M:aC w may ow m){ok2 Jk:Nat→Prop}{ps:List (Bool×K)}{cs:List lM}{x:eH ps}{vs:List Value}(h:F2 (bG w ok2 Jk ow) cs vs)(e:bQ m ps cs=some x)(g:kG ps cs=true):jy w (fun _=>True) ps x vs:=
 vY (fun l _ k x v h e=>EN M h e) h e g
theorem ou (M:aC w may ow m):∀{ps:List (Bool×K)} {cs:List lM} {x:eH ps} {vs:List Value},(∀l∈aB cs,yw m l)→F2 (bG w (ay ow m) may ow) cs vs→bQ m ps cs=some x→kG ps cs=true→∀fr:Bool,(fr=true→(aB cs).all (fK m)=true)→jy w (o7 (ay ow m) may fr) ps x vs
 |[],[],x,vs,_,h,e,_,_,_=>h.jk
 |[],_::_,x,vs,_,h,e,_,_,_=>by simp[bQ]at e
 |p::ps,[],x,vs,_,h,e,_,_,_=>by simp[bQ]at e
 |p::ps,c::cs,x,v::vs,hf,h,e,g,fr,vF=>by
  have Jm:aB (c::cs)=c.leaves++aB cs:=by simp[aB]
  simp only[bQ]at e
  cases h1:bM m p.2 c.leaves with
  |none=>simp[h1]at e
  |some y=>
   cases h2:bQ m ps cs with
   |none=>simp[h1,h2]at e
   |some z=>
    simp only[h1,h2]at e
    obtain rfl:=Option.some.inj e
    have r1:=Rd.up (g:=fr) (yS M (fun l hl=>hf l (by rw[Jm];exact List.mem_append_left _ hl)) h.1.cells h1) (fun e=>by have:=vF e;rw[Jm,List.all_append,Bool.and_eq_true]at this;exact this.1)
    have r2:=fun g=>ou M (fun l hl=>hf l (by rw[Jm];exact List.mem_append_right _ hl)) h.2 h2 g fr (fun e=>by have:=vF e;rw[Jm,List.all_append,Bool.and_eq_true]at this;exact this.2)
    cases c with
    |lf l=>
     simp only[kG,Bool.and_eq_true,Bool.not_eq_true']at g
     refine⟨v,vs,rfl,?_,r2 g.2⟩
     unfold ES
     rw[if_neg (by simp[g.1])]
     have h3:aQ w (ay ow m) may ow l v:=h.1
     rw[uD h3.one]at r1
     exact r1
    |agg ls=>
     simp only[kG,Bool.and_eq_true]at g
     refine⟨v,vs,rfl,?_,r2 g.2⟩
     unfold ES
     rw[if_pos g.1]
     obtain⟨us,rfl,h3⟩:=h.1
     exact⟨us,rfl,by simpa[Value.cells]using r1⟩
 |p::ps,c::cs,x,[],_,h,e,g,_,_=>h.elim
theorem NC (M:aC w may ow m){md:Md}{ps:List (Bool×K)}{cs:List lM}{x:eH ps}{vs:List Value}(hf:∀l∈aB cs,yw m l)(h:F2 (bG w (ay ow m) may ow) cs vs)(e:bQ m ps cs=some x)(g:kG ps cs=true):
  vX w (o7 (ay ow m) may ((aB (md.hds cs)).all (fK m))) md ps x vs:=by
 by_cases hmd:md= .first
 ·subst hmd
  match ps,cs,vs,x,h,e,g with
  |[],[],vs,x,h,e,g=>exact h.jk
  |[],_::_,vs,x,h,e,g=>simp[bQ]at e
  |p::ps,[],vs,x,h,e,g=>simp[bQ]at e
  |p::ps,c::cs,[],x,h,e,g=>exact h.elim
  |p::ps,c::cs,v::vs,x,h,e,g=>
   have Jm:aB (c::cs)=c.leaves++aB cs:=by simp[aB]
   have hd:(Md.first).hds (c::cs)=[c]:=rfl
   rw[hd]
   simp only[bQ]at e
   cases h1:bM m p.2 c.leaves with
   |none=>simp[h1]at e
   |some y=>
    cases h2:bQ m ps cs with
    |none=>simp[h1,h2]at e
    |some z=>
     simp only[h1,h2]at e
     obtain rfl:=Option.some.inj e
     have hf1:∀l∈aB [c],yw m l:=fun l hl=>hf l (by rw[Jm];exact List.mem_append_left _ (by simpa[aB]using hl))
     have hf2:∀l∈aB cs,yw m l:=fun l hl=>hf l (by rw[Jm];exact List.mem_append_right _ hl)
     have g1:kG [p] [c]=true∧kG ps cs=true:=by
      cases c<;>simp only[kG,Bool.and_eq_true,Bool.and_true]at g⊢<;>exact g
     obtain⟨v',vr,e',hv,_⟩:=ou M (ps:=[p]) (cs:=[c]) (x:=(y,())) (vs:=[v]) hf1 ⟨h.1,trivial⟩ (by simp[bQ,h1]) g1.1 ((aB [c]).all (fK m)) (fun e=>e)
     obtain⟨rfl,rfl⟩:=List.cons.inj e'
     exact⟨v,vs,rfl,hv,zJ M h.2 h2 g1.2⟩
 ·have e1:md.hds cs=cs:=by cases md<;>first|rfl|exact absurd rfl hmd
  have:=ou M hf h e g ((aB cs).all (fK m)) (fun e=>e)
  rw[e1]
  cases md<;>first|exact this|exact absurd rfl hmd
end
section
variable {R:Type} {P:Program} {T:dH} {w:World} {may:Nat→Prop} {ow:Ow} {m:Mem} {r:R}
def lS (P:Program)(may:Nat→Prop)(w:World)(ow:Ow)(m:Mem)(o:Oper)(a:Act)(c:SV→Mem→Option R)(r:R):Prop:=
 ∃sv m',c sv m'=some r∧∀(K:Act→World→Prop) (Q:Exit→Act→World→Prop),
  (∀v w' aO,aC w' may aO m'→dZ may w ow m w' aO m'→aS w' (ay aO m') may aO m' sv v→K (a.put o.dst v) w')→o.wp P a w K Q
theorem lS.jR {o:Oper}{a:Act}{c:SV→Mem→Option R}{x:Sem Next}(h:g_ P may w ow m x c r)(he:execOp a.eval o=x):lS P may w ow m o a c r:=by
 obtain⟨sv,m',v,w',aO,h1,h2,h3,h4,h5⟩:=h
 refine⟨sv,m',h1,fun K Q hK=> ?_⟩
 unfold Oper.wp
 rw[he]
 rcases h2 with h2|⟨h2,rfl⟩
 ·rw [h2];exact hK _ _ _ h3 h4 h5
 ·rw [h2];exact hK _ _ _ h3 h4 h5
theorem BA {s:S}{a:Act}(F:dw w (ay ow s.m) may ow s a):∀(l:List Operand),F2 (fun sv v=>aS w (ay ow s.m) may ow s.m sv v) (l.map s.gJ) (l.map a.eval)
 |[]=>trivial
 |x::l=>⟨dG F x,BA F l⟩
theorem K_:∀{vs:List SV} {cs:List lM} {us:List Value},F2 (fun sv v=>aS w (ay ow m) may ow m sv v) vs us→vs.map SV.cmp? =cs.map some→F2 (bG w (ay ow m) may ow) cs us
 |[],[],us,h,_=>by obtain rfl:=h.jk;trivial
 |[],_::_,us,h,e=>by simp at e
 |_::_,[],us,h,e=>by simp at e
 |v::vs,c::cs,[],h,e=>h.elim
 |v::vs,c::cs,u::us,h,e=>by
  simp only[List.map_cons,List.cons.injEq]at e
  exact⟨cmp?nK h.1 e.1,K_ h.2 e.2⟩
theorem OA {sg:kH}{g:FuncId}{aJ:Nat→Option PW}(Ql:ET P aJ g sg)(Dp:Qk aJ w)(hm:∀b,w.heap.size≤b→may b){a:Act}{o:Oper}{args:List Value}(uT:(execOp a.eval o).run P w= .ok (.enter g args.toArray) w)
  {c:SV→Mem→Option R} {cs:List lM} (m1:Mem) (okA:Nat→Prop) (fr:Bool) (M1:aC w may ow m1) (K1:dZ may w ow m w ow m1) (als:sg.md.isShared=true→∀b,okA b→ay ow m1 b∧(fr=true→may b))
  (lQ:∀x,bQ m1 sg.ps cs=some x→vX w okA sg.md sg.ps x args) (h:(match bQ m1 sg.ps cs with
   |none=>none
   |some x=>(sg.fn x).bind fun y=>match jh sg.md.vI fr m1.rows.length sg.rs y with
    |none=>none
    |some q=>c (Dj q.1) ⟨m1.rows++q.2,m1.boxes⟩)=some r):lS P may w ow m o a c r:=by
 cases hx:bQ m1 sg.ps cs with
 |none=>simp[hx]at h
 |some x=>
  simp only[hx]at h
  obtain⟨y,hy,h⟩:=Option.bind_eq_some_iff.1 h
  cases ht:jh sg.md.vI fr m1.rows.length sg.rs y with
  |none=>simp[ht]at h
  |some z=>
   simp only[ht]at h
   have ht0:(jh sg.md.vI false 0 sg.rs y).map (fun q=>(q.1.map (Vs fr m1.rows.length),q.2))=some z:=by
    rw[←zI,Nat.zero_add];exact ht
   obtain⟨z0,hz0,rfl⟩:=Option.map_eq_some_iff.1 ht0
   refine⟨_,_,h,fun K Q hK=> ?_⟩
   unfold Oper.wp
   rw[uT,Oper.upon_enter]
   refine(Ql w okA x y _ Dp hy (lQ x hx)).mono fun e w' ⟨v,cs',rows,aO,he,hth,M',ND,NG⟩=> ?_
   subst he
   rw[hz0]at hth
   obtain rfl:=Option.some.inj hth
   obtain⟨M2,K2,lU⟩:=M1.join hm NG M' (EW hz0)
   refine hK v w' _ M2 (K1.trans K2) ?_
   have:=aS.shift (m2:=⟨m1.rows++rows,m1.boxes⟩) (bb:=ow.bb) (rv:=ow.rv) (fr:=fr) (ok':=ay ⟨ow.rv++aO.rv,ow.bb⟩ ⟨m1.rows++rows,m1.boxes⟩) (may:=may) (fun b hb=> ?_) hm (fun hf b hb=> ?_) ND
   ·rw [M1.lX]at this;exact this
   ·rcases Nat.lt_or_ge b w.heap.size with dX|hge
    ·rcases hb.2 with⟨h1,h2⟩|h2
     ·exact (lU b).2 ⟨dX,(als h1 b h2).1⟩
     ·omega
    ·exact (lU b).1 ⟨hge,hb.1⟩
   ·rcases hb.2 with⟨h1,h2⟩|h2
    ·exact (als h1 b h2).2 hf
    ·exact hm b h2
theorem abo {C:ak}(CK:ah P C){a:Act}{o:Oper}{q:Call}(ho:o.op= .call q){g:FuncId}{sg:kH}(hC:C g=some sg){f:Operand}(hg:q.callee= .value f){us:List Value}(hfv:a.eval f= .func (.func g) #[] us.toArray):
  (execOp a.eval o).run P w= .ok (.enter g (q.args.toList.map a.eval++us).toArray) w:=by
 obtain⟨⟨fn,hf,hn,Vt⟩,Ql⟩:=CK.fn g sg hC
 have CG:fn.name≠ "runtime.NumGoroutine" :=by simpa using hn
 have AZ:fn.body≠none:=by intro e;simp[e]at Vt
 have:q.args.map a.eval=(q.args.toList.map a.eval).toArray:=by rw[←Array.toList_map]
 have h2:(q.args.toList.map a.eval++us).toArray=q.args.map a.eval++us.toArray:=by rw[this];simp
 rw[h2]
 simp[execOp,ho,resolve,hg,hfv,Deferred.ofValue,invoke,callFunc,hf,CG,AZ]
theorem abp {C:ak}(CK:ah P C)(M:aC w may ow m)(hL:Live C may w ow m){a:Act}{vs:List SV}{o:Oper}{q:Call}(ho:o.op= .call q){g:FuncId}{f:Operand}(hg:q.callee= .value f){us:List Value}(hfv:a.eval f= .func (.func g) #[] us.toArray)
  (F:F2 (fun sv v=>aS w (ay ow m) may ow m sv v) vs (q.args.toList.map a.eval++us)) {c:SV→Mem→Option R} (h:wL C m g vs c=some r):lS P may w ow m o a c r:=by
 unfold wL at h
 split at h
 case h_2=>cases h
 rename_i sg cs hC sW
 have hm:=hL.new
 have uT:=abo (w:=w) CK ho hC hg hfv
 obtain⟨_,Ql⟩:=CK.fn g sg hC
 have wV:F2 (bG w (ay ow m) may ow) cs (q.args.toList.map a.eval++us):=K_ F (kN sW)
 simp only at h
 obtain⟨sQ,h⟩:=aG h
 cases hsh:sg.md.isShared with
 |false=>
  rw[hsh]at h
  simp only[Bool.false_eq_true,if_false,Bool.not_false,Bool.true_or]at h
  exact OA Ql hL.EU hm uT m (fun _=>True) true M (dZ.refl _ _ _ _) (by simp[hsh]) (fun x hx=>vX.of hsh (zJ M wV hx sQ)) h
 |true=>
  rw[hsh]at h
  simp only[if_true,Bool.not_true,Bool.false_or]at h
  obtain⟨M1,K1⟩:=M.aI (aB cs)
  exact OA Ql hL.EU hm uT _ (o7 (ay ow (m.aI (aB cs))) may ((aB (sg.md.hds cs)).all (fK (m.aI (aB cs))))) _ M1 K1 (fun _ b hb=>hb)
   (fun x hx=>NC M1 (lY _ _) (wV.imp fun _ _ h=>bG.aW K1.stay K1.rv h) hx sQ) h
theorem XL {C:ak}(CK:ah P C)(M:aC w may ow m)(hL:Live C may w ow m){a:Act}{vs:List SV}{o:Oper}{q:Call}(F:F2 (fun sv v=>aS w (ay ow m) may ow m sv v) vs (q.args.toList.map a.eval))(ho:o.op= .call q){g:FuncId}{f:Operand}(hg:q.callee= .value f)(hfv:a.eval f= .func (.func g) #[] #[])
  {c:SV→Mem→Option R} (h:wL C m g vs c=some r):lS P may w ow m o a c r:=
 abp CK M hL ho hg (us:=[]) hfv (by rw[List.append_nil];exact F) h
theorem jy.mono {ok ok':Nat→Prop}(H:∀b,ok b→ok' b):∀{ps:List (Bool×K)} {x:eH ps} {vs:List Value},jy w ok ps x vs→jy w ok' ps x vs
 |[],x,vs,h=>h
 |p::ps,x,vs,⟨v,vr,e,h,k⟩=>by
  refine⟨v,vr,e,?_,jy.mono H k⟩
  unfold ES at h⊢
  split
  ·rename_i hp
   rw[if_pos hp]at h
   obtain⟨cs,e,h⟩:=h
   exact⟨cs,e,h.mono H⟩
  ·rename_i hp
   rw[if_neg hp]at h
   exact h.mono H
theorem Tz (M:aC w may ow m){t:TypeId}(hu:P.underlying t=some .string){x:ByteArray}{lo hi:Option Int}{Ou G8:Option Value}(JJ:wS lo Ou)(D5:wS hi G8)
  {c:SV→Mem→Option R} (h:qC m x lo hi c=some r):g_ P may w ow m (do pure (.value (←Instr.sliceAt t (.string x) Ou G8 none))) c r:=by
 unfold qC at h
 obtain⟨hb,h⟩:=aG h
 simp only[Bool.and_eq_true,decide_eq_true_eq]at hb
 obtain⟨h1,h2,h3⟩:=hb
 refine g_.quiet M h ?_ rfl
 cases lo with
 |none=>
  cases Ou with
  |some=>exact JJ.elim
  |none=>
   cases hi with
   |none=>
    cases G8 with
    |some=>exact D5.elim
    |none=>simp[Instr.sliceAt,run_underlying hu,Instr.slice,Instr.sliceBounds,run_sliceBound]
   |some j=>
    cases G8 with
    |none=>exact D5.elim
    |some vh=>
     obtain⟨k,rfl⟩:=D5
     simp only[Option.getD_none,Option.getD_some]at h1 h2 h3
     simp[Instr.sliceAt,run_underlying hu,Instr.slice,Instr.sliceBounds,run_sliceBound,h2,h3]
 |some i=>
  cases Ou with
  |none=>exact JJ.elim
  |some vl=>
   obtain⟨k,rfl⟩:=JJ
   cases hi with
   |none=>
    cases G8 with
    |some=>exact D5.elim
    |none=>
     simp only[Option.getD_none,Option.getD_some]at h1 h2 h3
     simp[Instr.sliceAt,run_underlying hu,Instr.slice,Instr.sliceBounds,run_sliceBound,h1,h2]
   |some j=>
    cases G8 with
    |none=>exact D5.elim
    |some vh=>
     obtain⟨k',rfl⟩:=D5
     simp only[Option.getD_none,Option.getD_some]at h1 h2 h3
     simp[Instr.sliceAt,run_underlying hu,Instr.slice,Instr.sliceBounds,run_sliceBound,h1,h2,h3,show(0:Int)≤j by omega,show i≤(j.toNat:Int)by omega,show i≤max j 0 by omega]
theorem abq (M:aC w may ow m){t:TypeId}(hu:P.underlying t=some .string){x:ByteArray}{i:Int}{ki:IntKind}{c:SV→Mem→Option R}
  (h1:0≤i) (h2:i<(x.size:Int)) (h:c (ci .u8 (VF x i)) m=some r):g_ P may w ow m (do pure (.value (←Instr.index t (.string x) (.int ki i)))) c r:=by
 refine g_.quiet M h (v:= .int .u8 (VF x i)) ?_ rfl
 have dX:i.toNat<x.size:=by omega
 have he:x[i.toNat]? =some x[i.toNat]:=getElem?_pos x i.toNat dX
 have hb:VF x i=((x[i.toNat]).toNat:Int):=by
  unfold VF
  rw[Array.getD_eq_getD_getElem?,Array.getElem?_eq_getElem (by exact dX)]
  rfl
 simp[Instr.index,asIntOf,run_underlying hu,h1,he,hb]
theorem Zk (M:aC w may ow m){t:TypeId}{ty:TypeId}(hu:P.underlying t=some .string){ts:Array TypeId}(ht:ts[0]? =some t){x:ByteArray}{c:SV→Mem→Option R}
  (h:c (ci .i64 (x.size:Int)) m=some r):g_ P may w ow m (do pure (.value (←Builtin.len_ ts ty #[.string x]))) c r:=by
 refine g_.quiet M h (v:= .int .i64 (x.size:Int)) ?_ rfl
 simp[Builtin.len_,ht,run_underlying hu,goInt]
theorem TA (M:aC w may ow m){l:aT}{v:Value}{n:Nat}(h:aQ w (ay ow m) may ow l v)(e:rH m l=some n):∃A cp,v= .slice A n cp:=by
 unfold rH at e
 split at e
 ·obtain rfl:=Option.some.inj e
  obtain⟨A,cp,h1,_⟩:=(h:Rd _ _ _ _ _)
  exact⟨A,cp,by simpa using h1⟩
 ·obtain rfl:=Option.some.inj e
  obtain rfl:=h
  exact⟨none,0,rfl⟩
 ·rename_i q
  cases hr:m.row? q with
  |none=>simp[hr]at e
  |some row=>
   simp[hr]at e;subst e
   obtain⟨v',hv,RR⟩:=M.sl q row hr h.1 h.2
   obtain rfl:v=v':=Option.some.inj (h.1.symm.trans hv)
   obtain⟨_,R2⟩:=RR
   cases hw:row.rw with
   |true=>
    rw[hw]at R2
    simp only[if_true]at R2
    obtain⟨cs,dM,_⟩:=R2
    obtain⟨A,cp,rfl⟩:=ownsRow.slice dM
    exact⟨A,cp,rfl⟩
   |false=>
    rw[hw]at R2
    simp only[Bool.false_eq_true,if_false]at R2
    obtain⟨A,cp,h1,_⟩:=R2
    exact⟨A,cp,by simpa using h1⟩
 ·cases e
theorem abr (TK:aZ P T)(M:aC w may ow m){t:TypeId}{ty:TypeId}{e:TypeId}{k:K}{ag:Bool}{by':Nat}(hT:T t=some ⟨.sl e,k,ag,by'⟩){ts:Array TypeId}(ht:ts[0]? =some t){l:aT}{v:Value}{n:Nat}
  (hl:aQ w (ay ow m) may ow l v) (hn:rH m l=some n) {c:SV→Mem→Option R}
  (h:c (ci .i64 (n:Int)) m=some r):g_ P may w ow m (do pure (.value (←Builtin.len_ ts ty #[v]))) c r:=by
 refine g_.quiet M h (v:= .int .i64 (n:Int)) ?_ rfl
 obtain⟨A,cp,rfl⟩:=TA M hl hn
 simp[Builtin.len_,ht,run_underlying (TK _ _ hT).desc.1,goInt]
theorem Zl (TK:aZ P T)(M:aC w may ow m){t:TypeId}{ty:TypeId}{e:TypeId}{k:K}{ag:Bool}{by':Nat}(hT:T t=some ⟨.sl e,k,ag,by'⟩){ts:Array TypeId}(ht:ts[0]? =some t){v:Value}{et:TypeId}{vs:List Value}{q:Nat}{i:Int}
  (hl:aS w (ay ow m) may ow m (.sK et vs i q) v) {c:SV→Mem→Option R}
  (h:c (ci .i64 (vs.length:Int)) m=some r):g_ P may w ow m (do pure (.value (←Builtin.len_ ts ty #[v]))) c r:=by
 refine g_.quiet M h (v:= .int .i64 (vs.length:Int)) ?_ rfl
 obtain⟨⟨A,cp,e1,_⟩,_⟩:=hl
 have e2:=(List.cons.inj e1).1
 subst e2
 have e3:(Builtin.len_ ts ty #[.slice A (List.length (α:=Value) vs) cp]).run P w= .ok (.int .i64 ((List.length (α:=Value) vs:Nat):Int)) w:=by
  simp[Builtin.len_,ht,run_underlying (TK _ _ hT).desc.1,goInt]
 exact e3
theorem Zm (M:aC w may ow m){y:aT}{v:Value}(hy:aQ w (ay ow m) may ow y v){e:TypeId}{k:K}{ys:List k.T}(hd:bP m (.sl e k) y=some ys):
  ∃A c cs,v= .slice A ys.length c∧ys.length≤c∧aY w (o7 (ay ow m) may (qB m y)) k ys cs∧(ys≠[]→∃ad,A=some ad∧∀j u,cs[j]? =some u→w.cell? (ad.add j)=some u):=by
 by_cases hf:yw m y
 ·exact CO M hy hf hd
 ·cases y with
  |val=>exact absurd (fun r e=>by cases e) hf
  |nil=>exact absurd (fun r e=>by cases e) hf
  |own q=>
   simp only[bP]at hd
   cases hr:m.row? q with
   |none=>simp[hr]at hd
   |some row=>
    simp only[hr]at hd
    have hw:row.rw=true:=by
     cases hw:row.rw with
     |true=>rfl
     |false=>
      refine absurd (fun r e row' JH=> ?_) hf
      injection e with e
      subst e
      obtain rfl:=Option.some.inj (hr.symm.trans JH)
      exact hw
    obtain⟨e1,e2⟩:=dP hd
    injection e1 with e3 e4
    obtain⟨u,hu,R⟩:=M.sl q row hr hy.1 hy.2
    obtain rfl:v=u:=Option.some.inj (hy.1.symm.trans hu)
    obtain⟨_,R2⟩:=R
    rw[hw]at R2
    simp only[if_true]at R2
    obtain⟨cs,dM,lQ⟩:=R2
    simp only[qB,hr]
    obtain⟨re,rk,rfr,rrw,XI⟩:=row
    simp only at*
    subst e3 e4
    have e2:XI=ys:=e2
    subst e2
    obtain⟨A,c,rfl⟩:=ownsRow.slice dM
    refine⟨A,c,cs,rfl,?_,lQ,fun wH=> ?_⟩
    ·rcases dM.2 with⟨h3,h4⟩|⟨g,cp,cur,h3,hg,hh,hn,rest⟩
     ·omega
     ·injection h3 with _ _ h3;omega
    ·rcases dM.2 with⟨h3,h4⟩|⟨g,cp,cur,h3,hg,hh,hn,rest⟩
     ·exact absurd (List.eq_nil_of_length_eq_zero h4) wH
     ·injection h3 with h3 _ h6
      subst h3
      exact⟨_,rfl,fun j u hu=>World.ownsRow.cells dM (g:=g) rfl j u hu⟩
theorem D6 {a:Act}{o:Oper}{q:Call}(ho:o.op= .call q){g:FuncId}(hB:Body P g)(hg:q.callee= .value (.func g)):(execOp a.eval o).run P w= .ok (.enter g (q.args.toList.map a.eval).toArray) w:=by
 obtain⟨fn,hf,hn,Vt⟩:=hB
 have CG:fn.name≠ "runtime.NumGoroutine" :=by simpa using hn
 have AZ:fn.body≠none:=by intro e;simp[e]at Vt
 have:q.args.map a.eval=(q.args.toList.map a.eval).toArray:=by rw[←Array.toList_map]
 rw[←this]
 simp[execOp,ho,resolve,hg,Act.eval,Deferred.ofValue,invoke,callFunc,hf,CG,AZ]
theorem Zn (TK:aZ P T)(M:aC w may ow m)(hm:∀b,w.heap.size≤b→may b){a:Act}{vs:List SV}{o:Oper}{args:List Value}(F:F2 (fun sv v=>aS w (ay ow m) may ow m sv v) vs args){g:FuncId}
  (uT:(execOp a.eval o).run P w= .ok (.enter g args.toArray) w) {e:TypeId} {n b:Nat} (hC:aiU P g e n b) {c:SV→Mem→Option R} (h:wM T m e n b vs c=some r):lS P may w ow m o a c r:=by
 unfold wM at h
 split at h
 case h_2=>cases h
 rename_i x
 split at h
 case h_2=>cases h
 rename_i l ei hl hT
 split at h
 case h_2=>cases h
 rename_i ys hd
 obtain⟨hb,h9⟩:=aG h
 simp only[Bool.and_eq_true,decide_eq_true_eq]at hb
 obtain rfl:=Nat.eq_of_beq_eq_true hb.1.1
 match args,F with
 |[u],F=>
 have hu:=leaf?nK F.1 hl
 obtain⟨A,cp,cs,rfl,hcp,lQ,hA⟩:=Zm M hu hd
 refine⟨_,_,h9,fun K Q hK=> ?_⟩
 unfold Oper.wp
 rw[uT,Oper.upon_enter]
 refine(hC.contract w A ys.length cp cs lQ.len lQ.one (fun hq=>hA (by rintro rfl;simp at hq)) hcp hb.2).mono fun e' w' ⟨v,he,dM,nY,NG⟩=> ?_
 subst he
 obtain⟨M',K'⟩:=M.add (w':=w') ⟨e,ei.k,qB m l,true,ys⟩ v NG.size NG.os NG.tape NG.output NG.block rfl cs dM lQ fun b e=>⟨hm b (nY b e),(World.ownsRow.lt dM b e).2,nY b e⟩
 obtain⟨A',q',rfl⟩:=ownsRow.slice dM
 refine hK _ w' _ M' K' ⟨?_,_,_,_,rfl⟩
 show(ow.rv++[_])[m.rows.length]? =_
 rw[←M.lX];simp
theorem Zo (M:aC w may ow m)(hm:∀b,w.heap.size≤b→may b){a:Act}{vs:List SV}{o:Oper}{args:List Value}(F:F2 (fun sv v=>aS w (ay ow m) may ow m sv v) vs args){g:FuncId}
  (uT:(execOp a.eval o).run P w= .ok (.enter g args.toArray) w) {gg:KC} (hC:afq P g gg) {c:SV→Mem→Option R} (h:vC m gg vs c=some r):lS P may w ow m o a c r:=by
 unfold vC at h
 split at h
 ·cases h
 rename_i x0 rest
 split at h
 case h_2=>cases h
 rename_i r0 cs hp sW
 cases hr:m.row? r0 with
 |none=>simp[hr]at h
 |some row=>
  simp only[hr]at h
  cases hc:K.cast (.sl row.e row.k) (.sl gg.e gg.k) row.xs with
  |none=>simp[hc]at h
  |some zs=>
   simp only[hc]at h
   obtain⟨hb,h8⟩:=aG h
   simp only[Bool.and_eq_true,List.all_eq_true]at hb
   obtain⟨⟨hw,Vu⟩,sQ,hfl⟩:=hb
   cases hx:bQ m gg.ps cs with
   |none=>simp[hx]at h8
   |some x=>
    simp only[hx]at h8
    obtain⟨y,hy,h7⟩:=Option.bind_eq_some_iff.1 h8
    split at h7
    case h_2=>cases h7
    rename_i z0 hth
    match args,F with
    |u::us,F=>
    have hu:aQ w (ay ow m) may ow (.own r0) u:=leaf?nK F.1 hp
    have wV:F2 (bG w (ay ow m) may ow) cs us:=K_ F.2 (kN sW)
    obtain⟨u',KQ,R⟩:=M.sl r0 row hr hu.1 hu.2
    obtain rfl:u=u':=Option.some.inj (hu.1.symm.trans KQ)
    obtain⟨_,R2⟩:=R
    rw[hw]at R2
    simp only[if_true]at R2
    obtain⟨ds,dM,lQ⟩:=R2
    have nY:eG ow m (.row r0)=yQ u:=fF hr hu.1 hw
    obtain⟨A,L,rfl⟩:=ownsRow.slice dM
    have NH:∀b,eG ow m (.row r0)≠some b→wU A b:=fun b hb a ha e=>hb (by rw[nY,ha,e];rfl)
    have atH:∀b,wU A b→eG ow m (.row r0)≠some b:=fun b hb e=>by
     rw[nY]at e
     cases A with
     |none=>cases e
     |some a=>exact hb a rfl (Option.some.inj e).symm
    have hra:=vY (Q:=fun b=>eG ow m (.row r0)≠some b) (fun l hl k x v h e=>P_ M (fun q hq=>by
     have:=Vu l hl
     subst hq
     intro e9
     rw[e9]at this
     have h10:Nat.beq r0 r0=true:=Nat.beq_refl r0
     simp[h10]at this) h e) wV hx sQ
    obtain⟨ge,gk,gps,grs,gfn⟩:=gg
    obtain⟨re,rk,rfr,rrw,XI⟩:=row
    simp only at*
    obtain⟨e1,e2⟩:=dP hc
    injection e1 with e3 e4
    subst e3 e4
    have e2:XI=zs:=e2
    subst e2
    refine⟨_,_,h7,fun K Q hK=> ?_⟩
    unfold Oper.wp
    rw[uT,Oper.upon_enter]
    refine(hC.contract w XI x y A _ L ds us hy dM (lQ.aW (iF.mono fun b _ hb=>NH b (hb.1 (.row r0)))) (hra.mono NH)).mono fun e' w' ⟨v,ds',he,alv,ND,pY,KJ,htp,wR,vF⟩=> ?_
    subst he
    rw[hth]at alv
    obtain rfl:=Option.some.inj alv
    obtain⟨M',K'⟩:=M.renew (w':=w') r0 ⟨re,rk,true,true,[]⟩ (.slice none 0 0) pY KJ htp wR (fun b hb hn=>vF b hb (NH b hn)) rfl [] (World.ownsRow_nil w' 0 re rk.n) rfl (fun b hb=>by cases hb)
    exact hK v w' _ M' K' (ND _ _ _ _)
theorem Zp {C:ak}(CK:ah P C)(M:aC w may ow m)(hm:∀b,w.heap.size≤b→may b){s:S}{a:Act}(hs:s.m=m)(F:dw w (ay ow m) may ow s a){o:Oper}{q:Call}(ho:o.op= .call q){g:FuncId}(hg:q.callee= .value (.func g))
  {ig:Bc} (hC:C.io g=some (.io ig)) {c:SV→Mem→Option R} (h:tC m ig (q.args.toList.map s.gJ) c=some r):lS P may w ow m o a c r:=by
 obtain⟨⟨fn,hf,hn,Vt⟩,Ql⟩:Zi P g ig:=CK.io g _ hC
 have CG:fn.name≠ "runtime.NumGoroutine" :=by simpa using hn
 have AZ:fn.body≠none:=by intro e;simp[e]at Vt
 have uT:(execOp a.eval o).run P w= .ok (.enter g (q.args.toList.map a.eval).toArray) w:=by
  have:q.args.map a.eval=(q.args.toList.map a.eval).toArray:=by rw[←Array.toList_map]
  rw[←this]
  simp[execOp,ho,resolve,hg,Act.eval,Deferred.ofValue,invoke,callFunc,hf,CG,AZ]
 revert uT
 generalize q.args.toList=zl at h
 intro uT
 cases zl with
 |nil=>simp[tC]at h
 |cons z l=>
  simp only[List.map_cons,tC]at h uT
  split at h
  case h_2=>cases h
  rename_i row0 off len cs hp sW
  obtain⟨gg,ND⟩:=part?nK hp
  have hz:=dG F z
  rw[ND]at hz
  have wV:F2 (bG w (ay ow m) may ow) cs (l.map a.eval):=by
   have h1:=kN sW
   rw[List.map_map]at h1
   clear sW h uT hz
   revert h1
   intro h1
   induction l generalizing cs with
   |nil=>cases cs with
    |nil=>trivial
    |cons=>simp at h1
   |cons x l ih=>cases cs with
    |nil=>simp at h1
    |cons d cs=>
     simp only[List.map_cons,List.cons.injEq,Function.comp]at h1
     exact⟨cmp?nK (dG F x) h1.1,ih (cs:=cs) h1.2⟩
  rw[hs]at hz
  obtain⟨M1,K1⟩:=M.aI (aB cs)
  have S9:=aS.aW K1 hz
  cases hr:(m.aI (aB cs)).row? row0 with
  |none=>simp[hr]at h
  |some row=>
   simp only[hr]at h
   cases hc:K.cast (.sl row.e row.k) (.sl ig.e ig.k) row.xs with
   |none=>simp[hc]at h
   |some zs=>
    simp only[hc]at h
    obtain⟨hb,h⟩:=aG h
    simp only[Bool.and_eq_true]at hb
    obtain⟨⟨hw,OB,Zh⟩,sQ,hfl⟩:=hb
    have Zh:0<len:=Nat.le_of_ble_eq_true Zh
    cases hx:bQ (m.aI (aB cs)) ig.ps cs with
    |none=>simp[hx]at h
    |some x=>
     simp only[hx]at h
     obtain⟨y,hy,h⟩:=Option.bind_eq_some_iff.1 h
     split at h
     case h_2=>cases h
     rename_i z0 ws hth hws
     obtain⟨hl,h⟩:=aG h
     have hl:=Nat.eq_of_beq_eq_true hl
     obtain⟨_,_,Si⟩:=S9
     obtain⟨hle,⟨A0,c0,hval0,hc0⟩,Si⟩:=Si row hr
     obtain⟨γ,L,Q,c',Vr,hval,_⟩:=Si Zh
     obtain⟨v1,JK,RR⟩:=M1.sl row0 row hr Vr ⟨_,_,_,rfl⟩
     obtain rfl:=Option.some.inj (JK.symm.trans Vr)
     have hcc:len≤c':=by
      rw[hval]at hval0
      injection hval0 with _ _ h6
      omega
     obtain⟨_,R2⟩:=RR
     rw[hw]at R2
     simp only[if_true]at R2
     obtain⟨cs0,dM,VZ⟩:=R2
     obtain⟨ie,ik,ips,irs,ifn⟩:=ig
     obtain⟨re,rk,rfr,rrw,XI⟩:=row
     simp only at*
     obtain⟨e1,e2⟩:=dP hc
     injection e1 with e3 e4
     subst e3 e4
     simp only at e2
     subst e2
     obtain⟨e5,e6⟩:=dP hws
     simp only at e6
     subst e6
     subst hw
     have nY:eG ow (m.aI (aB cs)) (.row row0)=some γ:=by rw[fF hr JK rfl];rfl
     have lQ:=jy.mono (ok':=fun b=>b≠γ) (fun b hb=>fun e=>by subst e;exact hb.1 _ nY) (ou M1 (lY _ _) (wV.imp fun _ _ h=>bG.aW K1.stay K1.rv h) hx sQ false (fun e=>by cases e))
     have alx:=Ql w _ off len x y.1 y.2 γ L Q c' cs0 _ hy hl OB Zh hle hcc dM (VZ.aW (iF.mono fun _ _ _=>trivial)) lQ
     refine⟨_,_,h,fun Kp Qp hK=> ?_⟩
     unfold Oper.wp
     rw[uT,Oper.upon_enter,hval]
     refine alx.mono fun e w' ⟨v,ds,es,he,aly,aqb,pY,KJ,htp,wR,vF,XM,Zg⟩=> ?_
     subst he
     rw[hth]at aly
     obtain rfl:=Option.some.inj aly
     obtain⟨M2,K2⟩:=M1.aa5 (w':=w') row0 _ ⟨re,rk,rfr,true,y.2⟩ _ hr JK rfl rfl hl rfl pY KJ htp wR (fun b hb wH=>vF b hb fun e=>wH (by rw[e];rfl)) es (by rw[hl];exact XM) (Zg.flat OB)
     exact hK v w' _ M2 (K1.trans K2) (aqb _ _ _ _)
theorem abu {C:ak}(TK:aZ P T)(CK:ah P C)(M:aC w may ow m)(hm:∀b,w.heap.size≤b→may b){s:S}{a:Act}(hs:s.m=m)(F:dw w (ay ow m) may ow s a){o:Oper}{q:Call}(ho:o.op= .call q){g:FuncId}(hg:q.callee= .value (.func g))
  {z:Oth} (hC:C.io g=some z) {c:SV→Mem→Option R} (h:KD T m z (q.args.toList.map s.gJ) c=some r):lS P may w ow m o a c r:=by
 subst hs
 have hO:=CK.io g z hC
 cases z with
 |io ig=>exact Zp CK M hm rfl F ho hg hC h
 |gv gg=>exact Zo M hm (BA F q.args.toList) (D6 ho (afq.fn hO) hg) hO h
 |cl e n b=>exact Zn TK M hm (BA F q.args.toList) (D6 ho (aiU.fn hO) hg) hO h
end
section
variable {R:Type} {P:Program} {T:dH} {w:World} {may:Nat→Prop} {ow:Ow} {m:Mem} {r:R}
theorem EX:∀{ls:List aT},Ol ls=true→m.aI ls=m
 |[],_=>rfl
 |l::ls,h=>by
  simp only[Ol,List.all_cons,Bool.and_eq_true]at h
  have h1:m.freeze l=m:=by cases l<;>first|rfl|(simp at h)
  show(m.freeze l).aI ls=m
  rw[h1];exact EX h.2
theorem TB {s:S}{a:Act}(TK:aZ P T)(M:aC w may ow s.m)(hm:∀b,w.heap.size≤b→may b)(F:dw w (ay ow s.m) may ow s a){t e:TypeId}{ps:Array (Nat×Operand)}{k:K}{ag:Bool}{by':Nat}{n:Nat}
  (hT:T t=some ⟨.sl e,.sl e k,ag,by'⟩) {cs:List lM} (sW:iV (ps.toList.map fun p=>(s.gJ p.2).cmp?)=some cs) (hn:n*k.n≤16777216) (hi:ps.toList.map (·.1)=List.range n) (Vu:Ol (aB cs)=true)
  {xs:List k.T} (hp:ji s.m k cs=some xs)
  {c:SV→Mem→Option R} (h:c (.one (.lf (.val ((aB cs).all (fK s.m)) (.sl e k) xs))) s.m=some r):
  g_ P may w ow s.m (do pure (.value (←Instr.buildSlice t n (ps.map fun p=>(p.1,a.eval p.2))))) c r:=by
 have hfz:=EX (m:=s.m) Vu
 obtain⟨cs',h1,h2,h3,h4⟩:=Bq TK M F hT sW hn hi (by rw[hfz];exact hp)
 rw[hfz]at h3
 have hb:=zH w (.cells cs'.toArray e)
 obtain⟨M1,K1,_⟩:=M.join hm hb (rows:=[]) (aO:=⟨[],[]⟩) ⟨rfl,rfl,fun i row e=>by simp[Mem.row?]at e,fun i bx e=>by simp[Mem.box?]at e,fun x y b h k=>by cases x<;>simp[eG,Mem.row?,Mem.box?]at h,fun x b h=>(by cases x<;>simp[eG,Mem.row?,Mem.box?]at h),fun i hi e=>by simp at hi⟩ (fun i row h=>by simp[Mem.row?]at h)
 simp only[List.append_nil]at M1 K1
 refine⟨_,_,.slice (some ⟨w.heap.size,0,none⟩) n n,_,_,h,.inl (by simp[h1]),M1,K1,?_⟩
 show Rd _ _ _ _ _
 have e4:Value.slice (some ⟨w.heap.size,0,none⟩) n n= .slice (some ⟨w.heap.size,0,none⟩) xs.length n:=by rw[h4]
 rw[e4]
 refine aY.aa4 (e:=e) (h3.aW K1.stay.o7) (by rw[h4];exact Nat.le_refl _) fun wH=>⟨_,rfl,?_,⟨?_,fun _=>hm _ (Nat.le_refl _)⟩,fun j u hj=>World.ownsRow.cells h2 (g:=w.heap.size) rfl j u hj⟩
 ·show w.heap.size<(w.alloc _).heap.size
  simp
 ·intro t ht
  have:eG ow s.m t=some w.heap.size:=ht
  have:=(M.fH _ _ this).2
  omega
end
section
variable {P:Program} {T:dH} {C:ak} {w:World} {may:Nat→Prop} {ow:Ow} {m:Mem} {s:S} {a:Act}
theorem zK:∀(x y:List aT) (n:Nat),aN n (x++y)=((aN n x).1++(aN (n+(aN n x).2.length) y).1,(aN n x).2++(aN (n+(aN n x).2.length) y).2)
 |[],y,n=>rfl
 |l::x,y,n=>by
  have ih:=fun n=>zK x y n
  match l with
  | .val fr (.sl e k) xs=>simp only[List.cons_append,aN,ih,List.length_cons];simp[Nat.add_assoc,Nat.add_comm 1]
  | .val fr (.int q) xs=>simp only[List.cons_append,aN,ih]
  | .val fr .bool xs=>simp only[List.cons_append,aN,ih]
  | .val fr .raw xs=>simp only[List.cons_append,aN,ih]
  | .val fr .hd xs=>simp only[List.cons_append,aN,ih]
  | .val fr (.Ce g) xs=>simp only[List.cons_append,aN,ih]
  | .val fr .str xs=>simp only[List.cons_append,aN,ih]
  | .val fr .unit xs=>simp only[List.cons_append,aN,ih]
  | .val fr (.prod a b) xs=>simp only[List.cons_append,aN,ih]
  | .nil=>simp only[List.cons_append,aN,ih]
  | .own q=>simp only[List.cons_append,aN,ih]
structure Made (w:World) (may:Nat→Prop) (ow:Ow) (m:Mem) (rows:List (Option Row)) (rv:List Value) (ids:List (Option Nat)):Prop where
 len:rv.length=rows.length
 abv:ids.length=rows.length
 row:∀i row,(⟨rows,[]⟩:Mem).row? i=some row→∃v,rv[i]? =some v∧yR w (ay ow m) may row v∧∀b,yQ v=some b→∃r,ids[i]? =some (some r)∧eG ow m (.row r)=some b
theorem Made.nil:Made w may ow m [] [] []:=⟨rfl,rfl,fun i row h=>by simp[Mem.row?]at h⟩
theorem Made.append {rows rows':List (Option Row)}{rv rv':List Value}{ids alz:List (Option Nat)}(h:Made w may ow m rows rv ids)(h':Made w may ow m rows' rv' alz):Made w may ow m (rows++rows') (rv++rv') (ids++alz):=by
 refine⟨by simp[h.len,h'.len],by simp[h.abv,h'.abv],fun i row e=> ?_⟩
 simp only[Mem.row?]at e
 by_cases hi:i<rows.length
 ·rw [List.getElem?_append_left hi]at e
  obtain⟨v,h1,h2,h3⟩:=h.row i row e
  refine⟨v,by rw[List.getElem?_append_left (by rw[h.len];exact hi)];exact h1,h2,fun b hb=> ?_⟩
  obtain⟨r,h4,h5⟩:=h3 b hb
  exact⟨r,by rw[List.getElem?_append_left (by rw[h.abv];exact hi)];exact h4,h5⟩
 ·rw [List.getElem?_append_right (by omega)]at e
  obtain⟨v,h1,h2,h3⟩:=h'.row _ row e
  refine⟨v,by rw[List.getElem?_append_right (by rw[h.len];omega),h.len];exact h1,h2,fun b hb=> ?_⟩
  obtain⟨r,h4,h5⟩:=h3 b hb
  exact⟨r,by rw[List.getElem?_append_right (by rw[h.abv];omega),h.abv];exact h4,h5⟩
def BD (n:Nat)(rv:List Value)(big:List Value):Prop:=∀(i:Nat) (v:Value),rv[i]? =some v→big[n+i]? =some v
theorem BD.left {n:Nat}{rv rv' big:List Value}(h:BD n (rv++rv') big):BD n rv big:=fun i v e=>h i v (by rw[List.getElem?_append_left (List.getElem?_eq_some_iff.1 e).1];exact e)
theorem BD.right {n:Nat}{rv rv' big:List Value}(h:BD n (rv++rv') big):BD (n+rv.length) rv' big:=fun i v e=>by
 rw[Nat.add_assoc]
 exact h _ v (by rw[List.getElem?_append_right (by omega),Nat.add_sub_cancel_left];exact e)
theorem o8 (x y:List aT):nC (x++y)=nC x++nC y:=by simp[nC]
theorem wI (M:aC w may ow m):∀{k:K} {ls:List aT} {x:k.T} {es:List Value} (n:Nat),ls.all (uN m)=true→F2 (aQ w (ay ow m) may ow) ls es→bM m k ls=some x→
  ∃rv ids,Made w may ow m (aN n (bf true k x)).2 rv ids∧ids.filterMap id=nC ls∧∀(ok' may':Nat→Prop) (o':Ow),BD n rv o'.rv→F2 (aQ w ok' may' o') (aN n (bf true k x)).1 es
 | .prod p q,ls,x,es,n,ha,h,e=>by
  simp only[bM]at e
  cases h1:bM m p (ls.take p.n)with
  |none=>simp[h1]at e
  |some y=>
   cases h2:bM m q (ls.drop p.n)with
   |none=>simp[h1,h2]at e
   |some z=>
    simp only[h1,h2]at e
    obtain rfl:=Option.some.inj e
    have ha':∀l∈ls,uN m l=true:=List.all_eq_true.1 ha
    obtain⟨G9,G_,m1,i1,f1⟩:=wI M (k:=p) n (List.all_eq_true.2 fun l hl=>ha' l (List.mem_of_mem_take hl)) (h.take p.n) h1
    obtain⟨V4,V5,m2,i2,f2⟩:=wI M (k:=q) (n+(aN n (bf true p y)).2.length) (List.all_eq_true.2 fun l hl=>ha' l (List.mem_of_mem_drop hl)) (h.drop p.n) h2
    refine⟨G9++V4,G_++V5,?_,?_,fun ok' may' o' hr=> ?_⟩
    ·simp only[bf];rw[zK];exact m1.append m2
    ·rw [List.filterMap_append,i1,i2,←o8,List.take_append_drop]
    ·simp only[bf]
     rw[zK]
     have:=(f1 ok' may' o' hr.left).append (f2 ok' may' o' (by rw[←m1.len];exact hr.right))
     rwa[List.take_append_drop]at this
 | .unit,ls,x,es,n,ha,h,e=>by
  cases ls with
  |nil=>exact⟨[],[],Made.nil,rfl,fun _ _ _ _=>by obtain rfl:=h.jk;trivial⟩
  |cons=>simp[bM]at e
 | .int q,ls,x,es,n,ha,h,e=>by
  match ls,es,h with
  |[],_,_=>simp[bM]at e
  |[l],[v],h=>
   cases l with
   |val fr k y=>
    obtain⟨rfl,rfl⟩:=dP (show K.cast k (.int q) y=some x from e)
    exact⟨[],[],Made.nil,rfl,fun _ _ _ _=>⟨h.1,trivial⟩⟩
   |nil=>simp[bM,bP]at e
   |own r=>
    simp only[bM,bP]at e
    split at e
    ·cases e
    ·obtain ⟨e',_⟩:=dP e;cases e'
  |_::_::_,_,_=>simp[bM]at e
 | .raw,ls,x,es,n,ha,h,e=>by
  match ls,es,h with
  |[],_,_=>simp[bM]at e
  |[l],[v],h=>
   cases l with
   |val fr k y=>
    obtain⟨rfl,rfl⟩:=dP (show K.cast k .raw y=some x from e)
    exact⟨[],[],Made.nil,rfl,fun _ _ _ _=>⟨h.1,trivial⟩⟩
   |nil=>simp[bM,bP]at e
   |own r=>
    simp only[bM,bP]at e
    split at e
    ·cases e
    ·obtain ⟨e',_⟩:=dP e;cases e'
  |_::_::_,_,_=>simp[bM]at e
 | .hd,ls,x,es,n,ha,h,e=>by
  match ls,es,h with
  |[],_,_=>simp[bM]at e
  |[l],[v],h=>
   cases l with
   |val fr k y=>
    obtain⟨rfl,rfl⟩:=dP (show K.cast k .hd y=some x from e)
    exact⟨[],[],Made.nil,rfl,fun _ _ _ _=>⟨h.1,trivial⟩⟩
   |nil=>
    simp only[bM,bP]at e
    obtain rfl:=Option.some.inj e
    have hv:v= .slice none 0 0:=h.1
    subst hv
    exact⟨[],[],Made.nil,rfl,fun _ _ _ _=>⟨⟨rfl,_,_,_,rfl⟩,trivial⟩⟩
   |own r=>
    simp only[bM,bP]at e
    split at e
    ·cases e
    ·obtain ⟨e',_⟩:=dP e;cases e'
  |_::_::_,_,_=>simp[bM]at e
 | .Ce g,ls,x,es,n,ha,h,e=>by
  match ls,es,h with
  |[],_,_=>simp[bM]at e
  |[l],[v],h=>
   cases l with
   |val fr k y=>
    obtain⟨rfl,rfl⟩:=dP (show K.cast k (.Ce g) y=some x from e)
    exact⟨[],[],Made.nil,rfl,fun _ _ _ _=>⟨h.1,trivial⟩⟩
   |nil=>simp[bM,bP]at e
   |own r=>
    simp only[bM,bP]at e
    split at e
    ·cases e
    ·obtain ⟨e',_⟩:=dP e;cases e'
  |_::_::_,_,_=>simp[bM]at e
 | .bool,ls,x,es,n,ha,h,e=>by
  match ls,es,h with
  |[],_,_=>simp[bM]at e
  |[l],[v],h=>
   cases l with
   |val fr k y=>
    obtain⟨rfl,rfl⟩:=dP (show K.cast k .bool y=some x from e)
    exact⟨[],[],Made.nil,rfl,fun _ _ _ _=>⟨h.1,trivial⟩⟩
   |nil=>simp[bM,bP]at e
   |own r=>
    simp only[bM,bP]at e
    split at e
    ·cases e
    ·obtain ⟨e',_⟩:=dP e;cases e'
  |_::_::_,_,_=>simp[bM]at e
 | .str,ls,x,es,n,ha,h,e=>by
  match ls,es,h with
  |[],_,_=>simp[bM]at e
  |[l],[v],h=>
   cases l with
   |val fr k y=>
    obtain⟨rfl,rfl⟩:=dP (show K.cast k .str y=some x from e)
    exact⟨[],[],Made.nil,rfl,fun _ _ _ _=>⟨h.1,trivial⟩⟩
   |nil=>simp[bM,bP]at e
   |own r=>
    simp only[bM,bP]at e
    split at e
    ·cases e
    ·obtain ⟨e',_⟩:=dP e;cases e'
  |_::_::_,_,_=>simp[bM]at e
 | .sl t k,ls,x,es,n,ha,h,e=>by
  match ls,es,h with
  |[],_,_=>simp[bM]at e
  |[l],[v],h=>
   cases l with
   |val fr k' y=>
    obtain⟨rfl,rfl⟩:=dP (show K.cast k' (.sl t k) y=some x from e)
    simp[uN,K.flat]at ha
   |nil=>
    have e:some []=some x:=e
    obtain rfl:=Option.some.inj e
    obtain rfl:v= .slice none 0 0:=h.1
    refine⟨[.slice none 0 0],[none],⟨rfl,rfl,fun i row hr=> ?_⟩,rfl,fun _ _ o' hr=>⟨⟨hr 0 _ rfl,_,_,_,rfl⟩,trivial⟩⟩
    cases i with
    |succ i=>simp[Mem.row?,bf,aN]at hr
    |zero=>
     simp[Mem.row?,bf,aN]at hr
     subst hr
     exact⟨_,rfl,⟨⟨_,_,_,rfl⟩,by simp only[if_true];exact⟨[],World.ownsRow_nil w 0 _ _,rfl⟩⟩,fun b hb=>by simp[yQ]at hb⟩
   |own r=>
    simp only[bM,bP]at e
    cases hr:m.row? r with
    |none=>simp[hr]at e
    |some row=>
     simp only[hr]at e
     obtain⟨e1,e2⟩:=dP e
     obtain⟨re,rk,rf,rw',rx⟩:=row
     injection e1 with e3 e4
     subst e3 e4
     obtain rfl:rx=x:=e2
     simp[uN,hr]at ha
     obtain⟨rfl,rfl⟩:=ha
     obtain⟨v1,JK,RR⟩:=M.sl r _ hr h.1.1 h.1.2
     obtain rfl:v=v1:=Option.some.inj (h.1.1.symm.trans JK)
     refine⟨[v],[some r],⟨rfl,rfl,fun i row JH=> ?_⟩,rfl,fun _ _ o' hr=>⟨⟨hr 0 _ rfl,h.1.2⟩,trivial⟩⟩
     cases i with
     |succ i=>simp[Mem.row?,bf,aN]at JH
     |zero=>
      simp[Mem.row?,bf,aN]at JH
      subst JH
      exact⟨v,rfl,RR,fun b hb=>⟨r,rfl,by rw[fF hr JK rfl];exact hb⟩⟩
  |_::_::_,_,_=>simp[bM]at e
theorem OC:∀(x:List aT) (n:Nat),(aN n x).1.length=x.length
 |[],n=>rfl
 |l::x,n=>by
  have ih:=fun n=>OC x n
  match l with
  | .val fr (.sl e k) xs=>simp only[aN,ih,List.length_cons]
  | .val fr (.int q) xs=>simp only[aN,ih,List.length_cons]
  | .val fr .bool xs=>simp only[aN,ih,List.length_cons]
  | .val fr .raw xs=>simp only[aN,ih,List.length_cons]
  | .val fr .hd xs=>simp only[aN,ih,List.length_cons]
  | .val fr (.Ce g) xs=>simp only[aN,ih,List.length_cons]
  | .val fr .str xs=>simp only[aN,ih,List.length_cons]
  | .val fr .unit xs=>simp only[aN,ih,List.length_cons]
  | .val fr (.prod a b) xs=>simp only[aN,ih,List.length_cons]
  | .nil=>simp only[aN,ih,List.length_cons]
  | .own q=>simp only[aN,ih,List.length_cons]
theorem La (M:aC w may ow m):∀{rs:List (Bool×K)} {cs:List lM} {us:List Value} {y:eH rs} (n:Nat),(aB cs).all (uN m)=true→kG rs cs=true→F2 (bG w (ay ow m) may ow) cs us→bQ m rs cs=some y→
  ∃cs' rows rv ids,jh true false n rs y=some (cs',rows)∧Made w may ow m rows rv ids∧ids.filterMap id=nC (aB cs)∧∀(ok' may':Nat→Prop) (o':Ow),BD n rv o'.rv→F2 (bG w ok' may' o') cs' us
 |[],[],us,y,n,ha,hg,h,e=>⟨[],[],[],[],rfl,Made.nil,rfl,fun _ _ _ _=>by obtain rfl:=h.jk;trivial⟩
 |[],_::_,us,y,n,ha,hg,h,e=>by simp[bQ]at e
 |p::rs,[],us,y,n,ha,hg,h,e=>by simp[bQ]at e
 |p::rs,c::cs,[],y,n,ha,hg,h,e=>h.elim
 |p::rs,c::cs,u::us,y,n,ha,hg,h,e=>by
  have Jm:aB (c::cs)=c.leaves++aB cs:=by simp[aB]
  rw[Jm,List.all_append,Bool.and_eq_true]at ha
  simp only[bQ]at e
  cases h1:bM m p.2 c.leaves with
  |none=>simp[h1]at e
  |some z=>
   cases h2:bQ m rs cs with
   |none=>simp[h1,h2]at e
   |some z2=>
    simp only[h1,h2]at e
    obtain rfl:=Option.some.inj e
    obtain⟨G9,G_,m1,i1,f1⟩:=wI M (k:=p.2) n ha.1 h.1.cells h1
    have zA:kG rs cs=true:=by cases c<;>simp only[kG,Bool.and_eq_true]at hg<;>exact hg.2
    obtain⟨cs',rows,V4,V5,t2,m2,i2,f2⟩:=La M (n+(aN n (bf true p.2 z)).2.length) ha.2 zA h.2 h2
    cases c with
    |lf l=>
     simp only[kG,Bool.and_eq_true,Bool.not_eq_true']at hg
     have Jl:u.cells.toList=[u]:=by
      have h3:aQ w (ay ow m) may ow l u:=h.1
      rw[uD h3.one]
     rw[Jl]at f1
     have hlen:(aN n (bf true p.2 z)).1.length=1:=by
      have h4:=(f1 (fun _=>True) (fun _=>True) ⟨List.replicate n undef++G9,[]⟩ (fun i v hv=>by
       show(List.replicate n undef++G9)[n+i]? =some v
       rw[List.getElem?_append_right (by simp),List.length_replicate,Nat.add_sub_cancel_left];exact hv)).len
      simpa using h4
     match hq:(aN n (bf true p.2 z)).1,hlen with
     |[l'],_=>
      refine⟨.lf l'::cs',(aN n (bf true p.2 z)).2++rows,G9++V4,G_++V5,?_,m1.append m2,?_,fun ok' may' o' hr=> ?_⟩
      ·simp [jh,hg.1,hq,GL,t2]
      ·rw [List.filterMap_append,i1,i2,Jm,o8]
      ·have h5:=f1 ok' may' o' hr.left
       rw[hq]at h5
       exact⟨h5.1,f2 ok' may' o' (by rw[←m1.len];exact hr.right)⟩
    |agg ls=>
     simp only[kG,Bool.and_eq_true]at hg
     obtain⟨es,rfl,h3⟩:=h.1
     refine⟨.agg (aN n (bf true p.2 z)).1::cs',(aN n (bf true p.2 z)).2++rows,G9++V4,G_++V5,?_,m1.append m2,?_,fun ok' may' o' hr=> ?_⟩
     ·simp [jh,hg.1,GL,t2]
     ·rw [List.filterMap_append,i1,i2,Jm,o8]
     ·exact ⟨⟨es,rfl,by simpa[Value.cells]using f1 ok' may' o' hr.left⟩,f2 ok' may' o' (by rw[←m1.len];exact hr.right)⟩
theorem JL:∀{ids:List (Option Nat)} {i j r:Nat},kU (ids.filterMap id)=true→ids[i]? =some (some r)→ids[j]? =some (some r)→i=j
 |[],i,j,r,h,hi,hj=>by simp at hi
 |none::ids,i,j,r,h,hi,hj=>by
  cases i<;>cases j<;>simp at hi hj⊢
  exact JL (by simpa using h) hi hj
 |some x::ids,i,j,r,h,hi,hj=>by
  simp only[List.filterMap_cons,id]at h
  simp only[kU,Bool.and_eq_true,Bool.not_eq_true',List.any_eq_false]at h
  have no:∀k,ids[k]? =some (some x)→False:=fun k hk=>h.1 x (List.mem_filterMap.2 ⟨some x,List.mem_of_getElem? hk,rfl⟩) (Nat.beq_refl x)
  cases i with
  |zero=>
   cases j with
   |zero=>rfl
   |succ j=>simp at hi hj;subst hi;exact(no _ hj).elim
  |succ i=>
   cases j with
   |zero=>simp at hi hj;subst hj;exact(no _ hi).elim
   |succ j=>simp at hi hj;rw[JL h.2 hi hj]
theorem Made.mem (M:aC w may ow m){rows:List (Option Row)}{rv:List Value}{ids:List (Option Nat)}(h:Made w may ow m rows rv ids)(hd:kU (ids.filterMap id)=true):
  aC w may ⟨rv,[]⟩ ⟨rows,[]⟩∧∀b,ay ow m b→ay ⟨rv,[]⟩ ⟨rows,[]⟩ b:=by
 have jX:∀x b,eG ⟨rv,[]⟩ ⟨rows,[]⟩ x=some b→∃i r,x= .row i∧ids[i]? =some (some r)∧eG ow m (.row r)=some b:=by
  intro x b hx
  cases x with
  |box i=>simp[eG,Mem.box?]at hx
  |row i=>
   unfold eG at hx
   simp only at hx
   split at hx
   ·rename_i row hr
    obtain⟨v,h1,h2,h3⟩:=h.row i row hr
    split at hx
    ·rw [h1]at hx
     obtain⟨r,h4,h5⟩:=h3 b hx
     exact⟨i,r,rfl,h4,h5⟩
    ·cases hx
   ·cases hx
 have lU:∀b,ay ow m b→ay ⟨rv,[]⟩ ⟨rows,[]⟩ b:=by
  intro b hb x hx
  obtain⟨i,r,_,_,h1⟩:=jX x b hx
  exact hb _ h1
 refine⟨⟨h.len,rfl,fun i row e=> ?_,fun i bx e=>by simp[Mem.box?]at e,fun x y b h1 k1=> ?_,fun x b h1=> ?_,fun i hi e=>by simp at hi⟩,lU⟩
 ·obtain ⟨v,h1,h2,_⟩:=h.row i row e
  exact⟨v,h1,.inl (h2.aW (iF.mono fun b _ hb=>lU b hb) fun _ _ _=>rfl)⟩
 ·obtain ⟨i,r,rfl,h2,h3⟩:=jX x b h1
  obtain⟨j,q,rfl,k2,k3⟩:=jX y b k1
  have:=M.qp _ _ b h3 k3
  injection this with this
  subst this
  rw[JL hd h2 k2]
 ·obtain ⟨i,r,rfl,h2,h3⟩:=jX x b h1
  exact M.fH _ _ h3
end
section
variable {P:Program} {T:dH} {C:ak} {w w':World} {may:Nat→Prop} {ow:Ow} {m:Mem} {s:S} {a:Act}
theorem abw:∀{l:List Nat} {i j x:Nat},kU l=true→l[i]? =some x→l[j]? =some x→i=j
 |[],i,j,x,h,hi,hj=>by simp at hi
 |y::r,i,j,x,h,hi,hj=>by
  simp only[kU,Bool.and_eq_true,Bool.not_eq_true',List.any_eq_false]at h
  have no:∀k,r[k]? =some y→False:=fun k hk=>h.1 y (List.mem_of_getElem? hk) (Nat.beq_refl y)
  cases i with
  |zero=>
   cases j with
   |zero=>rfl
   |succ j=>simp at hi hj;subst hi;exact(no _ hj).elim
  |succ i=>
   cases j with
   |zero=>simp at hi hj;subst hj;exact(no _ hi).elim
   |succ j=>simp at hi hj;rw[abw h.2 hi hj]
theorem yR.re {ok ok' may may':Nat→Prop}{row:Row}{v:Value}(vF:row.fr=true)(H:∀b,ok b→may b→ok' b∧may' b)(h:yR w ok may row v):Bh w ok' may' row v:=by
 have st:iF w (o7 ok may row.fr) w (o7 ok' may' row.fr):=iF.mono fun b _ hb=>by
  rw[vF]at hb⊢
  obtain⟨h1,h2⟩:=H b hb.1 (hb.2 rfl)
  exact⟨h1,fun _=>h2⟩
 refine .inl ⟨h.1,?_⟩
 have h2:=h.2
 cases hw:row.rw with
 |true=>
  rw[hw]at h2
  simp only[if_true]at h2⊢
  obtain⟨cs,h3,h4⟩:=h2
  exact⟨cs,h3,h4.aW st⟩
 |false=>
  rw[hw]at h2
  simp only[Bool.false_eq_true,if_false]at h2⊢
  exact Rd.aW st h2
theorem assemble {may':Nat→Prop}(M:aC w may ow m)(V6:∀b,ay ow m b→may b→may' b){rows:List (Option Row)}{rv:List Value}{ids:List (Option Nat)}(h:Made w may ow m rows rv ids)(vF:∀(i:Nat)(row:Row),(⟨rows,[]⟩:Mem).row? i=some row→row.fr=true)(hd:kU (ids.filterMap id)=true)
  {boxes:List pF} {bb bids:List Nat} (Vt:kU bids=true) (hl1:bb.length=boxes.length)
  (hb:∀(i:Nat) (bx:pF),boxes[i]? =some bx→∃g b vs,bb[i]? =some g∧bids[i]? =some b∧eG ow m (.box b)=some g∧w.heap[g]? =some (.cells vs.toArray bx.t (0,0))∧
   ∀ok':Nat→Prop,(∀b,ay ow m b→ok' b)→F2 (aQ w ok' may' ⟨rv,bb.map some⟩) bx.ls vs)
  (hm2:∀b,((∃r,r∈ids.filterMap id∧eG ow m (.row r)=some b)∨∃q,q∈bids∧eG ow m (.box q)=some b)→may' b):
  aC w may' ⟨rv,bb.map some⟩ ⟨rows,boxes.map some⟩∧(∀b,ay ow m b→ay ⟨rv,bb.map some⟩ ⟨rows,boxes.map some⟩ b)∧
   ∀x b,eG ⟨rv,bb.map some⟩ ⟨rows,boxes.map some⟩ x=some b→(∃r,r∈ids.filterMap id∧eG ow m (.row r)=some b)∨∃q,q∈bids∧eG ow m (.box q)=some b:=by
 have sO:∀i b',(⟨rows,boxes.map some⟩:Mem).box? i=some b'→boxes[i]? =some b':=by
  intro i b' e
  cases hq:boxes[i]? <;>simp[Mem.box?,hq]at e⊢;exact e
 have jX:∀x b,eG ⟨rv,bb.map some⟩ ⟨rows,boxes.map some⟩ x=some b→
   (∃i r,x= .row i∧ids[i]? =some (some r)∧eG ow m (.row r)=some b)∨(∃i q,x= .box i∧bids[i]? =some q∧eG ow m (.box q)=some b):=by
  intro x b hx
  cases x with
  |row i=>
   unfold eG at hx
   simp only at hx
   split at hx
   ·rename_i row hr
    obtain⟨v,h1,h2,h3⟩:=h.row i row hr
    split at hx
    ·rw [h1]at hx
     obtain⟨r,h4,h5⟩:=h3 b hx
     exact .inl ⟨i,r,rfl,h4,h5⟩
    ·cases hx
   ·cases hx
  |box i=>
   unfold eG at hx
   simp only at hx
   split at hx
   ·rename_i b' AZ
    obtain⟨g,q,vs,h1,h2,h3,_⟩:=hb i b' (sO i b' AZ)
    simp[h1]at hx
    subst hx
    exact .inr ⟨i,q,rfl,h2,h3⟩
   ·cases hx
 have lU:∀b,ay ow m b→ay ⟨rv,bb.map some⟩ ⟨rows,boxes.map some⟩ b:=by
  intro b hb x hx
  rcases jX x b hx with⟨i,r,_,_,h1⟩|⟨i,r,_,_,h1⟩
  ·exact hb _ h1
  ·exact hb _ h1
 refine⟨⟨h.len,by simp[hl1],fun i row e=> ?_,fun i b' e=> ?_,fun x y b h1 k1=> ?_,fun x b h1=> ?_,fun i hi e=> ?_⟩,lU,fun x b hx=> ?_⟩
 ·obtain ⟨v,h1,h2,_⟩:=h.row i row e
  exact⟨v,h1,h2.re (vF i row e) fun b k1 k2=>⟨lU b k1,V6 b k1 k2⟩⟩
 ·obtain ⟨g,q,vs,h1,h2,h3,h4,h5⟩:=hb i b' (sO i b' e)
  exact⟨g,by simp[h1],vs,h4,h5 _ lU⟩
 ·rcases jX x b h1 with⟨i,r,rfl,h2,h3⟩|⟨i,r,rfl,h2,h3⟩<;>rcases jX y b k1 with⟨j,q,rfl,k2,k3⟩|⟨j,q,rfl,k2,k3⟩
  ·have:=M.qp _ _ b h3 k3
   injection this with this
   subst this
   rw[JL hd h2 k2]
  ·cases M.qp _ _ b h3 k3
  ·cases M.qp _ _ b h3 k3
  ·have:=M.qp _ _ b h3 k3
   injection this with this
   subst this
   rw[abw Vt h2 k2]
 ·rcases jX x b h1 with⟨i,r,rfl,h2,h3⟩|⟨i,r,rfl,h2,h3⟩
  ·exact ⟨hm2 b (.inl ⟨r,List.mem_filterMap.2 ⟨some r,List.mem_of_getElem? h2,rfl⟩,h3⟩),(M.fH _ _ h3).2⟩
  ·exact ⟨hm2 b (.inr ⟨r,List.mem_of_getElem? h2,h3⟩),(M.fH _ _ h3).2⟩
 ·simp at hi
  simp[Mem.box?,hi]at e
 ·rcases jX x b hx with⟨i,r,_,h2,h3⟩|⟨i,q,_,h2,h3⟩
  ·exact .inl ⟨r,List.mem_filterMap.2 ⟨some r,List.mem_of_getElem? h2,rfl⟩,h3⟩
  ·exact .inr ⟨q,List.mem_of_getElem? h2,h3⟩
theorem EY (rs:List Nat):∀(m:Mem) (i:Nat),(jw m rs).row? i=if i∈rs then none else m.row? i:=by
 have key:∀(rs:List Nat) (l:List (Option Row)) (i:Nat),((rs.foldl (fun l r=>l.set r none) l)[i]?).bind id=if i∈rs then none else(l[i]?).bind id:=by
  intro rs
  induction rs with
  |nil=>intro l i;simp
  |cons r rs ih=>
   intro l i
   rw[List.foldl_cons,ih]
   by_cases h1:i∈rs
   ·simp [h1]
   ·simp only[h1,if_false,List.mem_cons,or_false]
    by_cases h2:i=r
    ·subst h2
     simp only[if_true]
     rw[List.getElem?_set]
     split
     ·split<;>rfl
     ·rename_i h;exact absurd rfl h
    ·rw [List.getElem?_set_ne (fun e=>h2 e.symm)]
     simp[h2]
 intro m i
 exact key rs m.rows i
theorem vZ (rs:List Nat):∀(m:Mem),(jw m rs).rows.length=m.rows.length:=by
 have key:∀(rs:List Nat) (l:List (Option Row)),(rs.foldl (fun l r=>l.set r none) l).length=l.length:=by
  intro rs
  induction rs with
  |nil=>intro l;rfl
  |cons r rs ih=>intro l;rw[List.foldl_cons,ih];simp
 exact fun m=>key rs m.rows
def abx (rs:List Nat)(bo:Option Nat):Th→Prop
 | .row r=>r∈rs
 | .box b=>bo=some b
def vK (bs:List (Option pF))(JM:pF):Option Nat→List (Option pF)
 |some b=>bs.set b (some JM)
 |none=>bs
theorem yU (bs:List (Option pF))(JM:pF)(bo:Option Nat):(vK bs JM bo).length=bs.length:=by cases bo<;>simp[vK]
theorem aiX {may':Nat→Prop}{rs:List Nat}{bo:Option Nat}{ext:Mem}{jZ:Ow}{JM:pF}{nb:List pF}{NI:List Nat}{sh:Nat}
  (M:aC w may ow m) (M1:aC w' may' jZ ext) (AP:∀b,may' b→may b) (TF:∀b x,may' b→b<w.heap.size→eG ow m x=some b→abx rs bo x)
  (EO:∀b,b<w.heap.size→(∀x,eG ow m x=some b→¬abx rs bo x)→ay jZ ext b∧w'.heap[b]? =w.heap[b]?)
  (pY:w.heap.size≤w'.heap.size) (KJ:w'.os=w.os) (htp:w'.tape=w.tape) (wR:w'.output=w.output)
  (tH:∀i row,ext.row? i=some row→row.fr=true)
  (Ti:NI.length=nb.length)
  (hbo:∀b,bo=some b→0<sh∧∃g vs,ow.bb[b]? =some (some g)∧eG ow m (.box b)=some g∧eG jZ ext (.box 0)=some g∧w'.heap[g]? =some (.cells vs.toArray JM.t (0,0))∧
   ∀ok':Nat→Prop,(∀b,ay jZ ext b∧(may' b∨(b<w.heap.size∧ay ow m b))→ok' b)→F2 (aQ w' ok' may ⟨ow.rv++jZ.rv,ow.bb++NI.map some⟩) JM.ls vs)
  (hnb:∀i bx,nb[i]? =some bx→∃g vs,NI[i]? =some g∧eG jZ ext (.box (sh+i))=some g∧w'.heap[g]? =some (.cells vs.toArray bx.t (0,0))∧
   ∀ok':Nat→Prop,(∀b,ay jZ ext b∧(may' b∨(b<w.heap.size∧ay ow m b))→ok' b)→F2 (aQ w' ok' may ⟨ow.rv++jZ.rv,ow.bb++NI.map some⟩) bx.ls vs):
  aC w' may ⟨ow.rv++jZ.rv,ow.bb++NI.map some⟩ ⟨(jw m rs).rows++ext.rows,vK m.boxes JM bo++nb.map some⟩∧
  dZ may w ow m w' ⟨ow.rv++jZ.rv,ow.bb++NI.map some⟩ ⟨(jw m rs).rows++ext.rows,vK m.boxes JM bo++nb.map some⟩∧
  ∀b,ay jZ ext b→(may' b∨(b<w.heap.size∧ay ow m b))→ay ⟨ow.rv++jZ.rv,ow.bb++NI.map some⟩ ⟨(jw m rs).rows++ext.rows,vK m.boxes JM bo++nb.map some⟩ b:=by
 have hdl:(jw m rs).rows.length=m.rows.length:=vZ rs m
 generalize hm':(⟨(jw m rs).rows++ext.rows,vK m.boxes JM bo++nb.map some⟩:Mem)=m'
 generalize Zq:(⟨ow.rv++jZ.rv,ow.bb++NI.map some⟩:Ow)=aO at hbo hnb⊢
 have Sj:∀i,i<m.rows.length→m'.row? i=if i∈rs then none else m.row? i:=by
  intro i hi
  rw[←hm',show(⟨(jw m rs).rows++ext.rows,vK m.boxes JM bo++nb.map some⟩:Mem).row? i=(⟨(jw m rs).rows++ext.rows,m.boxes⟩:Mem).row? i from rfl]
  have:=row?Jj (m:=jw m rs) ext.rows i m.boxes
  rw[this,if_pos (by rw[hdl];exact hi),EY]
 have Sl:∀i,m.rows.length≤i→m'.row? i=ext.row? (i-m.rows.length):=by
  intro i hi
  rw[←hm',show(⟨(jw m rs).rows++ext.rows,vK m.boxes JM bo++nb.map some⟩:Mem).row? i=(⟨(jw m rs).rows++ext.rows,m.boxes⟩:Mem).row? i from rfl]
  have:=row?Jj (m:=jw m rs) ext.rows i m.boxes
  rw[this,if_neg (by rw[hdl];omega),hdl]
  rfl
 have wQ:∀i,i<m.boxes.length→m'.box? i=if bo=some i then some JM else m.box? i:=by
  intro i hi
  rw[←hm']
  show((vK m.boxes JM bo++nb.map some)[i]?).bind id=_
  rw[List.getElem?_append_left (by rw[yU];exact hi)]
  cases bo with
  |none=>simp[vK];rfl
  |some b=>
   simp only[vK,List.getElem?_set,Option.some.injEq]
   by_cases e:b=i
   ·subst e;simp[hi]
   ·simp [e];rfl
 have Qa:∀i,m.boxes.length≤i→m'.box? i=nb[i-m.boxes.length]? :=by
  intro i hi
  rw[←hm']
  show((vK m.boxes JM bo++nb.map some)[i]?).bind id=_
  rw[List.getElem?_append_right (by rw[yU];exact hi),yU]
  cases h:nb[i-m.boxes.length]? <;>simp[h]
 have aiY:∀i,i<m.rows.length→aO.rv[i]? =ow.rv[i]? :=fun i hi=>by
  rw[←Zq];exact List.getElem?_append_left (by rw[M.lX];exact hi)
 have Zr:∀i,m.rows.length≤i→aO.rv[i]? =jZ.rv[i-m.rows.length]? :=fun i hi=>by
  rw[←Zq,←M.lX];exact List.getElem?_append_right (by rw[M.lX];exact hi)
 have aby:∀i,i<m.boxes.length→aO.bb[i]? =ow.bb[i]? :=fun i hi=>by
  rw[←Zq];exact List.getElem?_append_left (by rw[M.jc];exact hi)
 have alB:∀i,m.boxes.length≤i→aO.bb[i]? =(NI.map some)[i-m.boxes.length]? :=fun i hi=>by
  rw[←Zq,←M.jc];exact List.getElem?_append_right (by rw[M.jc];exact hi)
 have jX:∀x b,eG aO m' x=some b→(eG ow m x=some b∧¬abx rs bo x)∨
   ∃y,eG jZ ext y=some b∧((∃i,x= .row (m.rows.length+i)∧y= .row i)∨(∃i,x= .box (m.boxes.length+i)∧y= .box (sh+i))∨(∃q,bo=some q∧x= .box q∧y= .box 0∧0<sh)):=by
  intro x b h
  cases x with
  |row i=>
   rcases Nat.lt_or_ge i m.rows.length with h1|h1
   ·left
    unfold eG at h
    simp only[Sj i h1,aiY i h1]at h
    by_cases h2:i∈rs
    ·simp [h2]at h
    ·simp only[h2,if_false]at h
     exact⟨h,h2⟩
   ·right
    obtain⟨j,rfl⟩:∃j,i=m.rows.length+j:=⟨i-m.rows.length,by omega⟩
    unfold eG at h
    simp only[Sl _ h1,Zr _ h1,Nat.add_sub_cancel_left]at h
    exact⟨.row j,h,.inl ⟨j,rfl,rfl⟩⟩
  |box i=>
   rcases Nat.lt_or_ge i m.boxes.length with h1|h1
   ·by_cases h2:bo=some i
    ·obtain ⟨hs,g,vs,h3,h4,h5,_⟩:=hbo i h2
     unfold eG at h
     simp only[wQ i h1,h2,if_true,aby i h1,h3]at h
     obtain rfl:g=b:=by simpa using h
     exact .inr ⟨.box 0,h5,.inr (.inr ⟨i,h2,rfl,rfl,hs⟩)⟩
    ·unfold eG at h
     simp only[wQ i h1,h2,if_false,aby i h1]at h
     exact .inl ⟨h,h2⟩
   ·obtain ⟨j,rfl⟩:∃j,i=m.boxes.length+j:=⟨i-m.boxes.length,by omega⟩
    unfold eG at h
    simp only[Qa _ h1,alB _ h1,Nat.add_sub_cancel_left]at h
    split at h
    ·rename_i bx yN
     obtain⟨g,vs,h3,h4,_⟩:=hnb j bx yN
     obtain rfl:g=b:=by simpa[h3]using h
     exact .inr ⟨.box (sh+j),h4,.inr (.inl ⟨j,rfl,rfl⟩)⟩
    ·cases h
 have abz:∀b,ay jZ ext b→(may' b∨(b<w.heap.size∧ay ow m b))→ay aO m' b:=by
  intro b h1 h2 x hx
  rcases jX x b hx with⟨h3,h4⟩|⟨y,h3,_⟩
  ·rcases h2 with h2|⟨_,h2⟩
   ·exact h4 (TF b x h2 (M.fH _ _ h3).2 h3)
   ·exact h2 _ h3
  ·exact h1 _ h3
 have aqc:∀b,b<w.heap.size→ay ow m b→ay aO m' b:=fun b hb h=>abz b (EO b hb fun x hx=>absurd hx (h x)).1 (.inr ⟨hb,h⟩)
 have S:iF w (ay ow m) w' (ay aO m'):=fun b dX h=>⟨aqc b dX h,Nat.lt_of_lt_of_le dX pY,(EO b dX fun x hx=>absurd hx (h x)).2⟩
 have alC:∀(i:Nat) (v:Value),ow.rv[i]? =some v→aO.rv[i]? =some v:=fun i v h=>by rw[aiY i (by rw[←M.lX];exact(List.getElem?_eq_some_iff.1 h).1)];exact h
 have alD:∀(i:Nat) (v:Nat),ow.bb[i]? =some (some v)→aO.bb[i]? =some (some v):=fun i v h=>by rw[aby i (by rw[←M.jc];exact(List.getElem?_eq_some_iff.1 h).1)];exact h
 refine⟨⟨?_,?_,fun i row e=> ?_,fun i bx e=> ?_,fun x y b h k=> ?_,fun x b h=> ?_,fun i hi e=> ?_⟩,⟨S,alC,alD,fun q row' q1 e=> ?_,?_,pY,fun b dX hn=>(EO b dX fun x hx=>absurd (M.fH _ _ hx).1 hn).2,KJ,htp,wR⟩,abz⟩
 ·rw [←Zq,←hm'];simp[M.lX,M1.lX,hdl]
 ·rw [←Zq,←hm'];simp[M.jc,yU,Ti]
 ·rcases Nat.lt_or_ge i m.rows.length with h1|h1
  ·rw [Sj i h1]at e
   by_cases h2:i∈rs
   ·simp [h2]at e
   ·simp only[h2,if_false]at e
    obtain⟨v,hv,RR⟩:=M.rows i row e
    refine⟨v,by rw[aiY i h1];exact hv,RR.aW S fun hw b AZ=> ?_⟩
    have R_:eG ow m (.row i)=some b:=by rw[fF e hv hw];exact AZ
    refine(EO b (M.fH _ _ R_).2 fun x hx hg=> ?_).2
    obtain rfl:=M.qp _ _ b R_ hx
    exact h2 hg
  ·rw [Sl i h1]at e
   obtain⟨v,hv,RR⟩:=M1.rows _ row e
   refine⟨v,by rw[Zr i h1];exact hv,?_⟩
   have vF:=tH _ row e
   have st:iF w' (o7 (ay jZ ext) may' row.fr) w' (o7 (ay aO m') may row.fr):=iF.mono fun b _ AZ=>by
    rw[vF]at AZ⊢
    exact⟨abz b AZ.1 (.inl (AZ.2 rfl)),fun _=>AP b (AZ.2 rfl)⟩
   rcases RR with⟨hs,RR⟩|RR
   case inr=>exact RR.no.elim
   refine .inl ⟨hs,?_⟩
   cases hw:row.rw with
   |true=>
    rw[hw]at RR
    simp only[if_true]at RR⊢
    obtain⟨cs,dM,lQ⟩:=RR
    exact⟨cs,dM,lQ.aW st⟩
   |false=>
    rw[hw]at RR
    simp only[Bool.false_eq_true,if_false]at RR⊢
    exact Rd.aW st RR
 ·rcases Nat.lt_or_ge i m.boxes.length with h1|h1
  ·rw [wQ i h1]at e
   by_cases h2:bo=some i
   ·simp only[h2,if_true]at e
    obtain rfl:=Option.some.inj e
    obtain⟨_,g,vs,h3,h4,h5,h6,h7⟩:=hbo i h2
    exact⟨g,by rw[aby i h1];exact h3,vs,h6,h7 _ fun b hb=>abz b hb.1 hb.2⟩
   ·simp only[h2,if_false]at e
    obtain⟨g,hg,B⟩:=M.boxes i bx e
    refine⟨g,alD _ _ hg,B.aW S alC ?_⟩
    have R_:eG ow m (.box i)=some g:=jf e hg
    refine(EO g (M.fH _ _ R_).2 fun x hx hgx=> ?_).2
    obtain rfl:=M.qp _ _ g R_ hx
    exact h2 hgx
  ·rw [Qa i h1]at e
   obtain⟨g,vs,h3,h4,h5,h6⟩:=hnb _ bx e
   exact⟨g,by rw[alB i h1];simp[h3],vs,h5,h6 _ fun b hb=>abz b hb.1 hb.2⟩
 ·rcases jX x b h with⟨h1,h2⟩|⟨x1,h1,h2⟩<;>rcases jX y b k with⟨k1,k2⟩|⟨y1,k1,k2⟩
  ·exact M.qp x y b h1 k1
  ·exact absurd (TF b x (M1.fH _ _ k1).1 (M.fH _ _ h1).2 h1) h2
  ·exact absurd (TF b y (M1.fH _ _ h1).1 (M.fH _ _ k1).2 k1) k2
  ·have:=M1.qp _ _ b h1 k1
   subst this
   rcases h2 with⟨i,rfl,e1⟩|⟨i,rfl,e1⟩|⟨i,hi,rfl,e1,hs⟩<;>rcases k2 with⟨j,rfl,e2⟩|⟨j,rfl,e2⟩|⟨j,hj,rfl,e2,hs'⟩<;>subst e1<;>simp only[Th.row.injEq,Th.box.injEq,reduceCtorEq]at e2
   ·rw [e2]
   ·rw [show i=j by omega]
   ·omega
   ·omega
   ·rw [hi]at hj;injection hj with hj;rw[hj]
 ·rcases jX x b h with⟨h1,_⟩|⟨x1,h1,_⟩
  ·have:=M.fH _ _ h1;exact⟨this.1,Nat.lt_of_lt_of_le this.2 pY⟩
  ·have:=M1.fH _ _ h1;exact⟨AP b this.1,this.2⟩
 ·rcases Nat.lt_or_ge i m.boxes.length with h1|h1
  ·rw [wQ i h1]at e
   by_cases h2:bo=some i
   ·simp [h2]at e
   ·simp only[h2,if_false]at e
    rw[aby i h1];exact M.free i h1 e
  ·rw [Qa i h1]at e
   rw[←hm']at hi
   simp[yU]at hi
   have:i-m.boxes.length<nb.length:=by omega
   rw[List.getElem?_eq_getElem this]at e
   cases e
 ·rw [Sj q q1]at e
  by_cases h2:q∈rs
  ·simp [h2]at e
  ·simp only[h2,if_false]at e
   exact⟨row',e,rfl,fun _=>rfl⟩
 ·rw [←hm'];simp[hdl]
def V7:aT→Prop
 | .val fr _ _=>fr=true
 |_=>True
theorem EZ:∀(k:K) (x:k.T),∀l∈bf true k x,V7 l:=by
 intro k
 induction k with
 |prod a b iha ihb=>
  intro x l hl
  rcases List.mem_append.1 hl with h|h
  ·exact iha _ _ h
  ·exact ihb _ _ h
 |unit=>intro x l hl;simp[bf]at hl
 |_=>intro x l hl;simp[bf]at hl;subst hl;exact rfl
theorem Lc:∀(ls:List aT) (n:Nat),(∀l∈ls,V7 l)→∀l∈(aN n ls).1,V7 l
 |[],n,h,l,hl=>by simp[aN]at hl
 |l0::ls,n,h,l,hl=>by
  have ih:=fun n=>Lc ls n fun l hl=>h l (List.mem_cons_of_mem _ hl)
  have h0:=h l0 (by simp)
  match l0,h0 with
  | .val fr (.sl e k) xs,h0=>
   simp only[aN,List.mem_cons]at hl
   rcases hl with rfl|hl
   ·trivial
   ·exact ih _ l hl
  | .val fr (.int q) xs,h0=>simp only[aN,List.mem_cons]at hl;rcases hl with rfl|hl;exact h0;exact ih _ l hl
  | .val fr .bool xs,h0=>simp only[aN,List.mem_cons]at hl;rcases hl with rfl|hl;exact h0;exact ih _ l hl
  | .val fr .hd xs,h0=>simp only[aN,List.mem_cons]at hl;rcases hl with rfl|hl;exact h0;exact ih _ l hl
  | .val fr .raw xs,h0=>simp only[aN,List.mem_cons]at hl;rcases hl with rfl|hl;exact h0;exact ih _ l hl
  | .val fr (.Ce g) xs,h0=>simp only[aN,List.mem_cons]at hl;rcases hl with rfl|hl;exact h0;exact ih _ l hl
  | .val fr .str xs,h0=>simp only[aN,List.mem_cons]at hl;rcases hl with rfl|hl;exact h0;exact ih _ l hl
  | .val fr .unit xs,h0=>simp only[aN,List.mem_cons]at hl;rcases hl with rfl|hl;exact h0;exact ih _ l hl
  | .val fr (.prod a b) xs,h0=>simp only[aN,List.mem_cons]at hl;rcases hl with rfl|hl;exact h0;exact ih _ l hl
  | .nil,h0=>simp only[aN,List.mem_cons]at hl;rcases hl with rfl|hl;trivial;exact ih _ l hl
  | .own q,h0=>simp only[aN,List.mem_cons]at hl;rcases hl with rfl|hl;trivial;exact ih _ l hl
theorem afw:∀(gy:Option Bf) (d:rO gy),∀l∈nJ gy d,V7 l
 |none,d,l,h=>by simp[nJ]at h
 |some r,d,l,h=>EZ _ _ l h
theorem afx:∀(nw:Option Y5) (d:xO nw),∀l∈vP nw d,V7 l
 |none,d,l,h=>by simp[vP]at h
 |some r,none,l,h=>by simp[vP]at h
 |some r,some d,l,h=>EZ _ _ l h
theorem V8 (d:Nat):∀(gy:Option Bf) (x:rO gy) (n:Nat),aN (n+d) (nJ gy x)=((aN n (nJ gy x)).1.map (Bv true d),(aN n (nJ gy x)).2)
 |none,x,n=>rfl
 |some r,x,n=>Bz true d r.k x n trivial
theorem V9 (d:Nat):∀(nw:Option Y5) (x:xO nw) (n:Nat),aN (n+d) (vP nw x)=((aN n (vP nw x)).1.map (Bv true d),(aN n (vP nw x)).2)
 |none,x,n=>rfl
 |some r,none,n=>rfl
 |some r,some x,n=>Bz true d r.k x n trivial
theorem aQ.zL {ok ok' may may':Nat→Prop}{aO:Ow}{rv:List Value}{bb:List (Option Nat)}(H:∀b,ok b→may' b→ok' b∧may b):∀{l:aT} {v:Value},V7 l→aQ w ok may' aO l v→aQ w ok' may ⟨rv++aO.rv,bb⟩ (Bv true rv.length l) v
 | .val f k x,v,hu,h=>by
  obtain rfl:f=true:=hu
  exact Rd.mono (fun b hb=>⟨(H b hb.1 (hb.2 rfl)).1,fun _=>(H b hb.1 (hb.2 rfl)).2⟩) (h:Rd _ _ _ _ _)
 | .nil,v,_,h=>h
 | .own q,v,_,h=>⟨by
   show(rv++aO.rv)[q+rv.length]? =some v
   rw[List.getElem?_append_right (by omega),Nat.add_sub_cancel];exact h.1,h.2⟩
theorem V_.zL {ok ok' may may':Nat→Prop}{aO:Ow}{rv:List Value}{bb:List (Option Nat)}(H:∀b,ok b→may' b→ok' b∧may b){ls:List aT}{vs:List Value}(hu:∀l∈ls,V7 l)(h:F2 (aQ w ok may' aO) ls vs):F2 (aQ w ok' may ⟨rv++aO.rv,bb⟩) (ls.map (Bv true rv.length)) vs:=
 F2.qE.2 (h.imp_mem fun l v hl h=>aQ.zL H (hu l hl) h)
theorem OD (own:Bool){rs:List (Bool×K)}{y:eH rs}{n:Nat}{q:List lM×List (Option Row)}(h:jh own true n rs y=some q):∃q0,jh own false 0 rs y=some q0∧q=(q0.1.map (Vs true n),q0.2):=by
 have:=zI own true n rs y 0
 rw[Nat.zero_add,h]at this
 obtain⟨q0,h1,h2⟩:=Option.map_eq_some_iff.1 this.symm
 exact⟨q0,h1,h2.symm⟩
theorem XO (a b:Nat)(l:aT):Bv true b (Bv true a l)=Bv true (a+b) l:=by
 cases l with
 |val f k x=>simp[Bv]
 |nil=>rfl
 |own r=>simp[Bv,Nat.add_assoc]
theorem afy (a b:Nat)(c:lM):Vs true b (Vs true a c)=Vs true (a+b) c:=by
 cases c with
 |lf l=>simp[Vs,XO]
 |agg ls=>simp only[Vs,List.map_map];congr 1;exact List.map_congr_left fun l _=>XO a b l
theorem Zt (own:Bool){rs:List (Bool×K)}{y:eH rs}{n d:Nat}{q:List lM×List (Option Row)}(h:jh own true n rs y=some q):jh own true (n+d) rs y=some (q.1.map (Vs true d),q.2):=by
 obtain⟨q0,h1,rfl⟩:=OD own h
 have:=zI own true (n+d) rs y 0
 rw[Nat.zero_add,h1]at this
 rw[this]
 simp only[Option.map_some,List.map_map]
 congr 2
 exact List.map_congr_left fun c _=>(afy n d c).symm
def UpC:lM→Prop
 | .lf l=>V7 l
 | .agg ls=>∀l∈ls,V7 l
theorem aiZ (n:Nat)(c:lM):UpC (Vs true n c):=by
 have one:∀l,V7 (Bv true n l):=fun l=>by cases l<;>simp[Bv,V7]
 cases c with
 |lf l=>exact one l
 |agg ls=>intro l hl;obtain⟨l',_,rfl⟩:=List.mem_map.1 hl;exact one l'
theorem afz (own:Bool){rs:List (Bool×K)}{y:eH rs}{n:Nat}{q:List lM×List (Option Row)}(h:jh own true n rs y=some q):∀c∈q.1,UpC c:=by
 obtain⟨q0,h1,rfl⟩:=OD own h
 intro c hc
 obtain⟨c',_,rfl⟩:=List.mem_map.1 hc
 exact aiZ n c'
theorem bG.zL {ok ok' may may':Nat→Prop}{aO:Ow}{rv:List Value}{bb:List (Option Nat)}(H:∀b,ok b→may' b→ok' b∧may b):∀{c:lM} {v:Value},UpC c→bG w ok may' aO c v→bG w ok' may ⟨rv++aO.rv,bb⟩ (Vs true rv.length c) v
 | .lf l,v,hu,h=>aQ.zL H hu h
 | .agg ls,v,hu,⟨vs,e,h⟩=>⟨vs,e,V_.zL H hu h⟩
theorem BF {may':Nat→Prop}{okR ok:Nat→Prop}(H:∀b,okR b→o7 ok may' true b):∀{rs:List (Bool×K)} {y:eH rs} {us:List Value} {n:Nat},jy w okR rs y us→∃cs',jh false true n rs y=some (cs',[])∧F2 (bG w ok may' ow) cs' us
 |[],y,us,n,h=>⟨[],rfl,by obtain rfl:=h;trivial⟩
 |p::rs,y,us,n,⟨v,vr,e,hv,hr⟩=>by
  subst e
  obtain⟨cs',h1,h2⟩:=BF (n:=n) H hr
  unfold ES at hv
  cases hp:p.1 with
  |true=>
   rw[hp]at hv
   simp only[if_true]at hv
   obtain⟨es,rfl,hv⟩:=hv
   refine⟨.agg (bf true p.2 y.1)::cs',by simp[jh,hp,GL,h1],⟨es,rfl,jE (Rd.mono H hv)⟩,h2⟩
  |false=>
   rw[hp]at hv
   simp only[Bool.false_eq_true,if_false]at hv
   have h3:=jE (fr:=true) (may:=may') (ow:=ow) (ok:=ok) (Rd.mono H hv)
   have hl:=h3.len
   match hq:bf true p.2 y.1,hl with
   |[l],_=>
    rw[hq]at h3
    exact⟨.lf l::cs',by simp[jh,hp,GL,h1,hq],h3.1,h2⟩
theorem E5 {ok:Nat→Prop}{G:Gh}{i:Nat}:∀{n:Nat} {us:List Value},us.length=n→(∀(j:Nat) (u:Value),us[j]? =some u→G.v (i+j)=u∧u.oneCell'=true)→F2 (aQ w ok may ow) (Dk G i n) us:=by
 intro n us hl h
 have key:∀(us:List Value) (j0:Nat),(∀(j:Nat) (u:Value),us[j]? =some u→G.v (i+(j0+j))=u∧u.oneCell'=true)→F2 (aQ w ok may ow) ((List.range' j0 us.length).map fun j=> .val true .raw (G.v (i+j))) us:=by
  intro us
  induction us with
  |nil=>intro j0 _;trivial
  |cons u us ih=>
   intro j0 h
   rw[List.length_cons,List.range'_succ,List.map_cons]
   have h0:=h 0 u rfl
   refine⟨⟨?_,by rw[Nat.add_zero]at h0;rw[h0.1];exact h0.2⟩,ih (j0+1) fun j u' hu=> ?_⟩
   ·rw [Nat.add_zero]at h0;exact congrArg (fun z=>[z]) h0.1.symm
   ·have:=h (j+1) u' (by simpa using hu)
    rw[show j0+(j+1)=j0+1+j by omega]at this
    exact this
 subst hl
 have:=key us 0 fun j u hu=>by rw[Nat.zero_add];exact h j u hu
 rw[←List.range_eq_range']at this
 exact this
theorem TG {ok:Nat→Prop}{G:Gh}{i n:Nat}{us:List Value}(h:F2 (aQ w ok may ow) (Dk G i n) us):us=(List.range n).map fun j=>G.v (i+j):=by
 have key:∀(l:List Nat) (us:List Value),F2 (aQ w ok may ow) (l.map fun j=> .val true .raw (G.v (i+j))) us→us=l.map fun j=>G.v (i+j):=by
  intro l
  induction l with
  |nil=>intro us h;exact h.jk
  |cons j l ih=>
   intro us h
   match us,h with
   |u::us,h=>
    rw[List.map_cons,←ih us h.2]
    obtain⟨h1,_⟩:=(h.1:Rd _ _ _ _ _)
    have h2:u=G.v (i+j):=by injection h1
    rw[h2]
 exact key _ _ h
theorem IJ {R:lM→Value→Prop}:∀{cs:List lM} {us:List Value} {i:Nat} {q:Nat×SV},F2 R cs us→q∈vS i cs→∃c v,us[q.1-i]? =some v∧i≤q.1∧q.2= .one c∧R c v
 |[],us,i,q,h,hq=>by simp[vS]at hq
 |c::cs,[],i,q,h,hq=>h.elim
 |c::cs,u::us,i,q,h,hq=>by
  rcases List.mem_cons.1 hq with rfl|hq
  ·exact ⟨c,u,by simp,Nat.le_refl _,rfl,h.1⟩
  ·obtain ⟨c',v,h1,h2,h3,h4⟩:=IJ h.2 hq
   refine⟨c',v,?_,by omega,h3,h4⟩
   rw[show q.1-i=(q.1-(i+1))+1 by omega]
   simpa using h1
theorem BG:∀(cs:List lM) (i:Nat),(vS i cs).length=cs.length
 |[],i=>rfl
 |c::cs,i=>by simp[vS,BG cs]
theorem Ld (M:aC w may ow m){mO:Bool}{ps:List (Bool×K)}{cs:List lM}{us:List Value}{x:eH ps}(n:Nat)(sQ:kG ps cs=true)(hF:F2 (bG w (ay ow m) may ow) cs us)(hx:bQ m ps cs=some x)
  (ho:mO=true→(aB cs).all (uN m)=true) (hv:mO=false→(∀l∈aB cs,yw m l)∧(aB cs).all (fK m)=true):
  ∃cs' rows rv ids,jh mO true n ps x=some (cs',rows)∧Made w may ow m rows rv ids∧ids.filterMap id=(bif mO then nC (aB cs)else[])∧
   ∀(ok' may':Nat→Prop) (o':Ow),(∀b,ay ow m b→may b→ok' b∧may' b)→BD n rv o'.rv→F2 (bG w ok' may' o') cs' us:=by
 cases mO with
 |true=>
  obtain⟨cs',rows,rv,ids,h1,h2,h3,h4⟩:=La M n (ho rfl) sQ hF hx
  have vF:∀(rs:List (Bool×K)) (y:eH rs) (n:Nat),jh true true n rs y=jh true false n rs y:=by
   intro rs
   induction rs with
   |nil=>intro y n;rfl
   |cons p rs ih=>intro y n;simp only[jh,ih,if_true]
  exact⟨cs',rows,rv,ids,by rw[vF];exact h1,h2,h3,fun ok' may' o' _ hr=>h4 ok' may' o' hr⟩
 |false=>
  obtain⟨hz,vF⟩:=hv rfl
  have lQ:=ou M hz hF hx sQ true fun _=>vF
  obtain⟨cs',h1,_⟩:=BF (ow:=ow) (may':=may) (ok:=ay ow m) (n:=n) (fun b hb=>hb) lQ
  refine⟨cs',[],[],[],h1,Made.nil,rfl,fun ok' may' o' H _=> ?_⟩
  obtain⟨cs2,h2,h3⟩:=BF (ow:=o') (may':=may') (ok:=ok') (n:=n) (fun b hb=>⟨(H b hb.1 (hb.2 rfl)).1,fun _=>(H b hb.1 (hb.2 rfl)).2⟩) lQ
  rw[h1]at h2
  obtain⟨rfl,_⟩:=Prod.mk.inj (Option.some.inj h2)
  exact h3
theorem Le {okR ok:Nat→Prop}(H:∀b,okR b→ok b):∀{rs:List (Bool×K)} {y:eH rs} {us:List Value} {n:Nat},jy w okR rs y us→∃cs',jh false false n rs y=some (cs',[])∧F2 (bG w ok may ow) cs' us
 |[],y,us,n,h=>⟨[],rfl,by obtain rfl:=h;trivial⟩
 |p::rs,y,us,n,⟨v,vr,e,hv,hr⟩=>by
  subst e
  obtain⟨cs',h1,h2⟩:=Le (n:=n) H hr
  unfold ES at hv
  cases hp:p.1 with
  |true=>
   rw[hp]at hv
   simp only[if_true]at hv
   obtain⟨es,rfl,hv⟩:=hv
   refine⟨.agg (bf false p.2 y.1)::cs',by simp[jh,hp,GL,h1],⟨es,rfl,jE (Rd.mono (fun b hb=>⟨H b hb,fun e=>by cases e⟩) hv)⟩,h2⟩
  |false=>
   rw[hp]at hv
   simp only[Bool.false_eq_true,if_false]at hv
   have h3:=jE (fr:=false) (may:=may) (ow:=ow) (ok:=ok) (Rd.mono (fun b hb=>⟨H b hb,fun e=>by cases e⟩) hv)
   have hl:=h3.len
   match hq:bf false p.2 y.1,hl with
   |[l],_=>
    rw[hq]at h3
    exact⟨.lf l::cs',by simp[jh,hp,GL,h1,hq],h3.1,h2⟩
theorem TJ (M:aC w may ow m):∀{ps:List (Bool×K)} {cs:List lM} {us:List Value} {x:eH ps} (AO n:Nat),kG ps cs=true→F2 (bG w (ay ow m) may ow) cs us→bQ m ps cs=some x→(∀l∈aB cs,yw m l)→(aB (cs.take AO)).all (fK m)=true→
  ∃cs',A_ false AO n ps x=some (cs',[])∧∀(ok' may':Nat→Prop) (o':Ow),(∀b,ay ow m b→may b→ok' b∧may' b)→(∀b,ay ow m b→ok' b)→F2 (bG w ok' may' o') cs' us
 |[],[],us,x,AO,n,sQ,hF,hx,hz,vF=>⟨[],rfl,fun ok' may' o' _ _=>by obtain rfl:=hF.jk;trivial⟩
 |[],_::_,us,x,AO,n,sQ,hF,hx,hz,vF=>by simp[bQ]at hx
 |p::ps,[],us,x,AO,n,sQ,hF,hx,hz,vF=>by simp[bQ]at hx
 |p::ps,c::cs,[],x,AO,n,sQ,hF,hx,hz,vF=>hF.elim
 |p::ps,c::cs,u::us,x,AO,n,sQ,hF,hx,hz,vF=>by
  have Jm:aB (c::cs)=c.leaves++aB cs:=by simp[aB]
  simp only[bQ]at hx
  cases h1:bM m p.2 c.leaves with
  |none=>simp[h1]at hx
  |some y=>
   cases h2:bQ m ps cs with
   |none=>simp[h1,h2]at hx
   |some z=>
    simp only[h1,h2]at hx
    obtain rfl:=Option.some.inj hx
    have hf1:∀l∈aB [c],yw m l:=fun l hl=>hz l (by rw[Jm];exact List.mem_append_left _ (by simpa[aB]using hl))
    have hf2:∀l∈aB cs,yw m l:=fun l hl=>hz l (by rw[Jm];exact List.mem_append_right _ hl)
    have g1:kG [p] [c]=true∧kG ps cs=true:=by
     cases c<;>simp only[kG,Bool.and_eq_true,Bool.and_true]at sQ⊢<;>exact sQ
    have e1:Nat.blt 0 AO=true→(aB [c]).all (fK m)=true:=fun e=>by
     cases AO with
     |zero=>cases e
     |succ k=>
      rw[List.take_succ_cons]at vF
      have e2:aB (c::cs.take k)=c.leaves++aB (cs.take k):=by simp[aB]
      rw[e2,List.all_append,Bool.and_eq_true]at vF
      simpa[aB]using vF.1
    have e3:(aB (cs.take (AO-1))).all (fK m)=true:=by
     cases AO with
     |zero=>simp[aB]
     |succ k=>
      rw[List.take_succ_cons]at vF
      have e2:aB (c::cs.take k)=c.leaves++aB (cs.take k):=by simp[aB]
      rw[e2,List.all_append,Bool.and_eq_true]at vF
      exact vF.2
    have r1:=ou M (ps:=[p]) (cs:=[c]) (x:=(y,())) (vs:=[u]) hf1 ⟨hF.1,trivial⟩ (by simp[bQ,h1]) g1.1 (Nat.blt 0 AO) e1
    obtain⟨cs2,k2,h4⟩:=TJ M (AO-1) n g1.2 hF.2 h2 hf2 e3
    have Jl:∃c1,GL p.1 (bf (Nat.blt 0 AO) p.2 y)=some c1∧∀(ok' may':Nat→Prop) (o':Ow),(∀b,ay ow m b→may b→ok' b∧may' b)→(∀b,ay ow m b→ok' b)→bG w ok' may' o' c1 u:=by
     cases hb:Nat.blt 0 AO with
     |true=>
      rw[hb]at r1
      obtain⟨cs1,k1,_⟩:=BF (ow:=ow) (may':=may) (ok:=ay ow m) (n:=n) (fun b hb=>hb) r1
      have k0:=k1
      simp only[jh,Bool.false_eq_true,if_false,List.length_nil,Nat.add_zero]at k1
      cases hc:GL p.1 (bf true p.2 y)with
      |none=>rw[hc]at k1;simp at k1
      |some c1=>
       rw[hc]at k1
       simp only[Option.some.injEq,Prod.mk.injEq]at k1
       obtain⟨rfl,_⟩:=k1
       refine⟨c1,rfl,fun ok' may' o' H H2=> ?_⟩
       obtain⟨aqd,k1',h3⟩:=BF (ow:=o') (may':=may') (ok:=ok') (n:=n) (fun b hb=>⟨(H b hb.1 (hb.2 rfl)).1,fun _=>(H b hb.1 (hb.2 rfl)).2⟩) r1
       rw[k0]at k1'
       obtain⟨rfl,_⟩:=Prod.mk.inj (Option.some.inj k1')
       exact h3.1
     |false=>
      rw[hb]at r1
      obtain⟨cs1,k1,_⟩:=Le (may:=may) (ow:=ow) (ok:=ay ow m) (n:=n) (fun b hb=>hb.1) r1
      have k0:=k1
      simp only[jh,Bool.false_eq_true,if_false,List.length_nil,Nat.add_zero]at k1
      cases hc:GL p.1 (bf false p.2 y)with
      |none=>rw[hc]at k1;simp at k1
      |some c1=>
       rw[hc]at k1
       simp only[Option.some.injEq,Prod.mk.injEq]at k1
       obtain⟨rfl,_⟩:=k1
       refine⟨c1,rfl,fun ok' may' o' H H2=> ?_⟩
       obtain⟨aqd,k1',h3⟩:=Le (may:=may') (ow:=o') (ok:=ok') (n:=n) (fun b hb=>H2 b hb.1) r1
       rw[k0]at k1'
       obtain⟨rfl,_⟩:=Prod.mk.inj (Option.some.inj k1')
       exact h3.1
    obtain⟨c1,hc,h3⟩:=Jl
    refine⟨c1::cs2,by simp only[A_,cond_false,hc,k2],fun ok' may' o' H H2=>⟨h3 ok' may' o' H H2,h4 ok' may' o' H H2⟩⟩
theorem TL (M:aC w may ow m){mO:Bool}{AO:Nat}{ps:List (Bool×K)}{cs:List lM}{us:List Value}{x:eH ps}(n:Nat)(sQ:kG ps cs=true)(hF:F2 (bG w (ay ow m) may ow) cs us)(hx:bQ m ps cs=some x)
  (ho:mO=true→(aB cs).all (uN m)=true) (hv:mO=false→(∀l∈aB cs,yw m l)∧(aB (cs.take AO)).all (fK m)=true):
  ∃cs' rows rv ids,A_ mO AO n ps x=some (cs',rows)∧Made w may ow m rows rv ids∧ids.filterMap id=(bif mO then nC (aB cs)else[])∧(∀i row,(⟨rows,[]⟩:Mem).row? i=some row→row.fr=true)∧
   ∀(ok' may':Nat→Prop) (o':Ow),(∀b,ay ow m b→may b→ok' b∧may' b)→(∀b,ay ow m b→ok' b)→BD n rv o'.rv→F2 (bG w ok' may' o') cs' us:=by
 cases mO with
 |true=>
  obtain⟨cs',rows,rv,ids,h1,h2,h3,h4⟩:=Ld M n sQ hF hx ho (fun e=>by cases e)
  refine⟨cs',rows,rv,ids,?_,h2,h3,fun i row e=>(EW h1 i row e).1,fun ok' may' o' H _ hr=>h4 ok' may' o' H hr⟩
  match ps,x,h1 with
  |[],x,h1=>exact h1
  |p::r,x,h1=>exact h1
 |false=>
  obtain⟨hz,vF⟩:=hv rfl
  obtain⟨cs',h1,h2⟩:=TJ M AO n sQ hF hx hz vF
  exact⟨cs',[],[],[],h1,Made.nil,rfl,fun i row e=>by simp[Mem.row?]at e,fun ok' may' o' H H2 _=>h2 ok' may' o' H H2⟩
theorem Zu {mO:Bool}{n:Nat}(H:∀{own fr:Bool}{n:Nat}{rs:List (Bool×K)}{y:eH rs}{q:List lM×List (Option Row)},jh own fr n rs y=some q→q.1.length=rs.length):∀{AO:Nat} {rs:List (Bool×K)} {y:eH rs} {q:List lM×List (Option Row)},A_ mO AO n rs y=some q→q.1.length=rs.length:=by
 cases mO with
 |true=>
  intro AO rs y q h
  match rs,y,h with
  |[],y,h=>simp only[A_]at h;obtain rfl:=Option.some.inj h;rfl
  |p::r,y,h=>exact H h
 |false=>
  intro AO rs
  induction rs generalizing AO with
  |nil=>intro y q h;simp only[A_]at h;obtain rfl:=Option.some.inj h;rfl
  |cons p r ih=>
   intro y q h
   simp only[A_,cond_false]at h
   split at h
   ·rename_i c z _ hz
    obtain rfl:=Option.some.inj h
    simp only[List.length_cons,ih hz]
   ·cases h
theorem E8 {rows rows':List (Option Row)}(h:∀(i:Nat)(row:Row),(⟨rows,[]⟩:Mem).row? i=some row→row.fr=true)(h':∀(i:Nat)(row:Row),(⟨rows',[]⟩:Mem).row? i=some row→row.fr=true):
  ∀(i:Nat) (row:Row),(⟨rows++rows',[]⟩:Mem).row? i=some row→row.fr=true:=by
 intro i row e
 simp only[Mem.row?]at e
 by_cases hi:i<rows.length
 ·rw [List.getElem?_append_left hi]at e
  exact h i row e
 ·rw [List.getElem?_append_right (by omega)]at e
  exact h' _ row e
theorem abB {w':World}{ok ok' may may':Nat→Prop}{m':Mem}{aO:Ow}{rv:List Value}{bb:List (Option Nat)}{mm:Mem}{h h':Option Hd}{cs:List lM}{v:Value}(H:∀b,ok b→may' b→ok' b∧may b)(hu:∀c∈cs,UpC c)
  (hh:match h,h' with|none,none=>True|some z,some z'=>∀u,pO aO z u→pO ⟨rv++aO.rv,bb⟩ z' u|_,_=>False)
  (hs:aS w' ok may' aO mm (PX h cs) v):aS w' ok' may ⟨rv++aO.rv,bb⟩ m' (PX h' (cs.map (Vs true rv.length))) v:=by
 have many:∀(us:List Value),F2 (bG w' ok may' aO) cs us→F2 (bG w' ok' may ⟨rv++aO.rv,bb⟩) (cs.map (Vs true rv.length)) us:=fun us hF=>F2.qE.2 (hF.imp_mem fun c v hc h=>bG.zL H (hu c hc) h)
 cases h with
 |none=>
  cases h' with
  |some=>exact hh.elim
  |none=>
   match cs,hs,hu,many with
   |[],hs,_,_=>obtain⟨vs,e,h⟩:=hs;exact⟨vs,e,by obtain rfl:=h.jk;trivial⟩
   |[c],hs,hu,_=>exact bG.zL H (hu c (by simp)) hs
   |c::d::cs,hs,hu,many=>obtain⟨vs,e,h⟩:=hs;exact⟨vs,e,many vs h⟩
 |some z=>
  cases h' with
  |none=>exact hh.elim
  |some z'=>
   match cs,hs,hu,many with
   |[],hs,_,_=>
    have h1:pO aO z v:=by
     cases z with
     |uK=>exact hs
     |box b=>obtain⟨g,h1,h2⟩:=hs;exact⟨g,h1,by rw[h2,Addr.fO]⟩
    have h2:=hh v h1
    cases z' with
    |uK=>exact h2
    |box b=>obtain⟨g,h1,h3⟩:=h2;exact⟨g,h1,by rw[h3,Addr.fO]⟩
   |c::cs,hs,hu,many=>
    obtain⟨u,vs,e,h1,h2⟩:=hs
    exact⟨u,vs,e,hh u h1,many vs h2⟩
end
section
variable {R:Type} {P:Program} {T:dH} {w w':World} {may:Nat→Prop} {ow:Ow} {m:Mem} {r:R}
def xn:Option Bf→Bool→Nat
 |none,false=>0
 |_,_=>1
theorem Wh (gy:Option Bf)(gK:Bool)(vs:List SV):aaY gy gK vs=vs.drop (xn gy gK):=by
 cases gy<;>cases gK<;>rfl
theorem abC (G:Gh)(i n:Nat):(Dk G i n).length=n:=by simp[Dk]
theorem F2.cat {α β:Type}{R:α→β→Prop}{x y:List α}{z:List β}(h:F2 R (x++y) z):F2 R x (z.take x.length)∧F2 R y (z.drop x.length):=by
 obtain⟨a,b,rfl,h1,h2⟩:=h.split
 rw[h1.len]
 simp only[List.take_left,List.drop_left]
 exact⟨h1,h2⟩
structure aqe (w:World) (may:Nat→Prop) (ow:Ow) (m:Mem) (gy:Option Bf) (gK:Bool) (p:Option Nat×List aT×rO gy) (vals:List Value) (G:Gh) (AQ:List Value) (zM:List (Option Nat)) (bb bids:List Nat):Prop where
 made:Made w may ow m (aN 0 (nJ gy p.2.2)).2 AQ zM
 ids:zM.filterMap id=nC p.2.1
 nd:kU bids=true
 hp:bids=p.1.toList
 lb:bb.length=(sN G (aN 0 (nJ gy p.2.2)).1 gy gK).2.length
 boxes:∀(i:Nat) (bx:pF),(sN G (aN 0 (nJ gy p.2.2)).1 gy gK).2[i]? =some bx→∃g b vs,bb[i]? =some g∧bids[i]? =some b∧eG ow m (.box b)=some g∧ow.bb[b]? =some (some g)∧w.heap[g]? =some (.cells vs.toArray bx.t (0,0))∧
  ∀(ok' may':Nat→Prop) (o':Ow),BD 0 AQ o'.rv→F2 (aQ w ok' may' o') bx.ls vs
 TM:∀q∈(sN G (aN 0 (nJ gy p.2.2)).1 gy gK).1,∃v,vals[q.1]? =some v∧q.1<xn gy gK∧∀(ok' may':Nat→Prop) (o':Ow) (m':Mem),o'.bb=bb.map some→aS w ok' may' o' m' q.2 v
 ls:(sN G (aN 0 (nJ gy p.2.2)).1 gy gK).1.length=xn gy gK
 lv:xn gy gK≤vals.length
theorem Zv (M:aC w may ow m){gy:Option Bf}{gK:Bool}{qh:List SV}{vals:List Value}{p:Option Nat×List aT×rO gy}(h:VG m gy gK qh=some p)(hF:F2 (aS w (ay ow m) may ow m) qh vals)(ho:p.2.1.all (uN m)=true):
  ∃G AQ zM bb bids,aqe w may ow m gy gK p vals G AQ zM bb bids∧∀rc,gy=some rc→∃b bx γ vs,p.1=some b∧m.box? b=some bx∧bx.t=rc.t∧bx.ls.length=rc.pre+rc.k.n+rc.post∧bb=[γ]∧ow.bb[b]? =some (some γ)∧
   w.heap[γ]? =some (.cells vs.toArray rc.t (0,0))∧F2 (aQ w (ay ow m) may ow) bx.ls vs∧(∀j,j<rc.pre→vs[j]? =some (G.v j))∧∀j,j<rc.post→vs[rc.pre+rc.k.n+j]? =some (G.v (rc.pre+j)):=by
 cases gy with
 |none=>
  cases gK with
  |false=>
   simp only[VG]at h
   obtain rfl:=Option.some.inj h
   exact⟨⟨0,fun _=>undef⟩,[],[],[],[],⟨Made.nil,rfl,rfl,rfl,rfl,fun i bx e=>by simp[sN]at e,fun q hq=>by simp[sN]at hq,rfl,Nat.zero_le _⟩,fun rc e=>by cases e⟩
  |true=>
   cases qh with
   |nil=>cases h
   |cons sv tl=>
   cases sv<;>try (cases h;done)
   rename_i hh
   cases hh<;>try (cases h;done)
   obtain rfl:=Option.some.inj h
   cases vals with
   |nil=>exact hF.elim
   |cons v vals=>
    refine⟨⟨0,fun _=>undef⟩,[],[],[],[],⟨Made.nil,rfl,rfl,rfl,rfl,fun i bx e=>by simp[sN]at e,fun q hq=> ?_,rfl,by simp[xn]⟩,fun rc e=>by cases e⟩
    simp only[sN,List.mem_singleton]at hq
    subst hq
    exact⟨v,rfl,by simp[xn],fun ok' may' o' m' _=>hF.1⟩
 |some rc=>
  cases qh with
  |nil=>cases gK<;>cases h
  |cons sv tl=>
  cases sv<;>try (cases gK<;>cases h;done)
  rename_i b o
  have h:(match m.box? b with
  |some bx=>bif (Nat.beq o rc.pre&&Nat.beq bx.t rc.t)&&Nat.beq bx.ls.length (rc.pre+rc.k.n+rc.post)then(match bM m rc.k ((bx.ls.drop rc.pre).take rc.k.n)with
   |some x=>some (some b,(bx.ls.drop rc.pre).take rc.k.n,x)
   |none=>none)else none
  |none=>none)=some p:=h
  cases hb:m.box? b with
  |none=>simp[hb]at h
  |some bx=>
   simp only[hb]at h
   obtain⟨hc,h2⟩:=aG h
   clear h
   simp only[Bool.and_eq_true]at hc
   obtain⟨⟨ho1,ht⟩,hl⟩:=hc
   obtain rfl:=Nat.eq_of_beq_eq_true ho1
   have ht:=Nat.eq_of_beq_eq_true ht
   have hl:=Nat.eq_of_beq_eq_true hl
   cases hx:bM m rc.k ((bx.ls.drop rc.pre).take rc.k.n)with
   |none=>simp[hx]at h2
   |some d=>
    simp only[hx]at h2
    obtain rfl:=Option.some.inj h2
    simp only at ho
    cases vals with
    |nil=>exact hF.elim
    |cons v vals=>
     obtain⟨γ,hγ,hv⟩:=hF.1
     obtain⟨γ',hγ',vs,hcell,Ez⟩:=M.boxes b bx hb
     obtain rfl:γ=γ':=Option.some.inj (Option.some.inj (hγ.symm.trans hγ'))
     have hlv:vs.length=rc.pre+rc.k.n+rc.post:=by rw[←hl];exact Ez.len.symm
     have alF:=(Ez.drop rc.pre).take rc.k.n
     obtain⟨AQ,zM,m0,i0,f0⟩:=wI M (k:=rc.k) 0 ho alF hx
     let G:Gh:=⟨γ,fun i=>if i<rc.pre then vs.getD i undef else vs.getD (i+rc.k.n) undef⟩
     have Jl:∀(j:Nat) (u:Value),vs[j]? =some u→u.oneCell'=true:=fun j u hu=>F2.afb Ez u (List.mem_of_getElem? hu)
     have hp1:∀j,j<rc.pre→vs[j]? =some (G.v j):=by
      intro j hj
      have:j<vs.length:=by omega
      simp only[G,hj,if_true,List.getD,List.getElem?_eq_getElem this,Option.getD_some]
     have hp2:∀j,j<rc.post→vs[rc.pre+rc.k.n+j]? =some (G.v (rc.pre+j)):=by
      intro j hj
      have h1:rc.pre+j+rc.k.n<vs.length:=by omega
      have h2:¬rc.pre+j<rc.pre:=by omega
      simp only[G,h2,if_false,List.getD]
      rw[show rc.pre+rc.k.n+j=rc.pre+j+rc.k.n by omega,List.getElem?_eq_getElem h1,Option.getD_some]
     refine⟨G,AQ,zM,[γ],[b],⟨m0,i0,rfl,rfl,rfl,fun i bx' e=> ?_,fun q hq=> ?_,rfl,by simp[xn]⟩,fun rc' e=> ?_⟩
     ·cases i with
      |succ i=>simp[sN]at e
      |zero=>
       simp only[sN,List.getElem?_cons_zero,Option.some.injEq]at e
       subst e
       refine⟨γ,b,vs,rfl,rfl,jf hb hγ,hγ,by rw[hcell,ht],fun ok' may' o' Nr=> ?_⟩
       have e1:vs=vs.take rc.pre++((vs.drop rc.pre).take rc.k.n++(vs.drop rc.pre).drop rc.k.n):=by rw[List.take_append_drop,List.take_append_drop]
       rw[e1,List.append_assoc]
       refine F2.append (E5 (by simp;omega) fun j u hu=> ?_) (F2.append (f0 ok' may' o' Nr) (E5 (by simp;omega) fun j u hu=> ?_))
       ·have hj:j<rc.pre:=by
         have:=(List.getElem?_eq_some_iff.1 hu).1
         simp at this;omega
        rw[List.getElem?_take,if_pos hj]at hu
        rw[Nat.zero_add]
        exact⟨Option.some.inj ((hp1 j hj).symm.trans hu),Jl j u hu⟩
       ·rw [List.getElem?_drop,List.getElem?_drop]at hu
        have hj:j<rc.post:=by
         have:=(List.getElem?_eq_some_iff.1 hu).1
         omega
        exact⟨Option.some.inj ((hp2 j hj).symm.trans (by rw[Nat.add_assoc];exact hu)),Jl _ u hu⟩
     ·simp only[sN,List.mem_singleton]at hq
      subst hq
      exact⟨v,rfl,by simp[xn],fun ok' may' o' m' hbb=>⟨by rw[hbb];rfl,hv⟩⟩
     ·obtain rfl:=Option.some.inj e
      exact⟨b,bx,γ,vs,rfl,hb,ht,hl,rfl,hγ,by rw[hcell,ht],Ez,hp1,hp2⟩
theorem abD {may':Nat→Prop}{rc:Bf}{bx:pF}{γ:Nat}{vs:List Value}{G:Gh}{ext:Mem}{jZ:Ow}{L:List aT}{bbx:List (Option Nat)}(M:aC w may ow m)
  (hl:bx.ls.length=rc.pre+rc.k.n+rc.post) (Ez:F2 (aQ w (ay ow m) may ow) bx.ls vs) (hp1:∀j,j<rc.pre→vs[j]? =some (G.v j)) (hp2:∀j,j<rc.post→vs[rc.pre+rc.k.n+j]? =some (G.v (rc.pre+j)))
  (MX:aC w' may' jZ ext) (AP:∀b,may' b→may b) (hb:ext.box? 0=some ⟨rc.t,Dk G 0 rc.pre++L++Dk G rc.pre rc.post⟩) (hL:L.length=rc.k.n) (hu:∀l∈L,V7 l) (hg:jZ.bb[0]? =some (some γ))
  (EO:∀b,b<w.heap.size→ay ow m b→ay jZ ext b∧w'.heap[b]? =w.heap[b]?) (pY:w.heap.size≤w'.heap.size):
  ∃us,eG jZ ext (.box 0)=some γ∧w'.heap[γ]? =some (.cells us.toArray rc.t (0,0))∧
   ∀ok':Nat→Prop,(∀b,ay jZ ext b∧(may' b∨(b<w.heap.size∧ay ow m b))→ok' b)→F2 (aQ w' ok' may ⟨ow.rv++jZ.rv,bbx⟩) (mF bx.ls rc.pre (L.map (Bv true ow.rv.length))) us:=by
 obtain⟨γ',h1,us,hcell,hF⟩:=MX.boxes 0 _ hb
 obtain rfl:γ=γ':=Option.some.inj (Option.some.inj (hg.symm.trans h1))
 refine⟨us,jf hb hg,hcell,fun ok' lU=> ?_⟩
 rw[List.append_assoc]at hF
 obtain⟨f1,f23⟩:=F2.cat hF
 obtain⟨f2,f3⟩:=F2.cat f23
 rw[abC]at f1 f2 f3
 have e1:=TG f1
 have e3:=TG f3
 have hlv:vs.length=rc.pre+rc.k.n+rc.post:=by rw[←hl];exact Ez.len.symm
 have aW:∀l v,aQ w (ay ow m) may ow l v→aQ w' ok' may ⟨ow.rv++jZ.rv,bbx⟩ l v:=fun l v h=>
  aQ.aW (fun b dX hb=>⟨lU b ⟨(EO b dX hb).1,.inr ⟨dX,hb⟩⟩,Nat.lt_of_lt_of_le dX pY,(EO b dX hb).2⟩) (fun i v hv=>by
   show(ow.rv++jZ.rv)[i]? =some v
   rw[List.getElem?_append_left (List.getElem?_eq_some_iff.1 hv).1];exact hv) h
 have t1:us.take rc.pre=vs.take rc.pre:=by
  rw[e1]
  refine List.ext_getElem? fun j=> ?_
  by_cases hj:j<rc.pre
  ·rw [List.getElem?_take,if_pos hj,hp1 j hj]
   simp[hj]
  ·rw [List.getElem?_eq_none (by simp;omega),List.getElem?_eq_none (by simp;omega)]
 have t3:(us.drop rc.pre).drop L.length=vs.drop (rc.pre+rc.k.n):=by
  rw[e3]
  refine List.ext_getElem? fun j=> ?_
  by_cases hj:j<rc.post
  ·rw [List.getElem?_drop,hp2 j hj]
   simp[hj]
  ·rw [List.getElem?_eq_none (by simp;omega),List.getElem?_eq_none (by simp;omega)]
 have eu:us=us.take rc.pre++((us.drop rc.pre).take L.length++(us.drop rc.pre).drop L.length):=by rw[List.take_append_drop,List.take_append_drop]
 rw[eu,t1,t3]
 unfold mF
 rw[List.append_assoc]
 refine F2.append ((Ez.take rc.pre).imp fun l v h=>aW l v h) (F2.append (V_.zL (fun b h1 h2=>⟨lU b ⟨h1,.inl h2⟩,AP b h2⟩) hu f2) ?_)
 rw[List.length_map,hL]
 exact(Ez.drop _).imp fun l v h=>aW l v h
end
section
variable {R:Type} {P:Program} {T:dH} {w w':World} {may:Nat→Prop} {ow:Ow} {m:Mem} {r:R}
theorem XP {s:S}{a:Act}(F:dw w (ay ow s.m) may ow s a):∀(l:List Operand),F2 (aS w (ay ow s.m) may ow s.m) (l.map s.gJ) (l.map a.eval)
 |[]=>trivial
 |x::l=>⟨dG F x,XP F l⟩
theorem afA {ok:Nat→Prop}{mm:Mem}:∀{qh:List SV} {vs:List Value} {cs:List lM},iV (qh.map SV.cmp?)=some cs→F2 (aS w ok may ow mm) qh vs→F2 (bG w ok may ow) cs vs:=by
 intro qh vs cs h
 have h1:=kN h
 clear h
 intro hF
 induction qh generalizing cs vs with
 |nil=>cases cs with
  |nil=>obtain rfl:=hF.jk;trivial
  |cons=>simp at h1
 |cons sv qh ih=>cases cs with
  |nil=>simp at h1
  |cons c cs=>
   simp only[List.map_cons,List.cons.injEq]at h1
   cases vs with
   |nil=>exact hF.elim
   |cons v vs=>exact⟨cmp?nK hF.1 h1.1,ih (cs:=cs) h1.2 hF.2⟩
theorem qF (ls:List aT)(n:Nat):∀(i:Nat) (row:Row),(⟨(aN n ls).2,[]⟩:Mem).row? i=some row→row.fr=true:=fun i row h=>(nU ls n i row h).1
theorem abE {α:Type}(l:List α)(n:Nat)(h:n≤l.length):(l.drop n).length+n=l.length:=by simp;omega
theorem abG (G:Gh)(q q':List aT)(gy:Option Bf)(gK:Bool):(sN G q gy gK).2.length=(sN G q' gy gK).2.length:=by cases gy<;>cases gK<;>rfl
theorem Zw {may':Nat→Prop}{jZ:Ow}{ext:Mem}(MX:aC w' may' jZ ext)(AP:∀b,may' b→may b):∀{nw:Option Y5} {y1:xO nw} {sh n:Nat} {L:List aT},(∀l∈L,V7 l)→n=ow.bb.length→
  (∀i bx,(pK sh L nw y1).2[i]? =some bx→ext.box? (sh+i)=some bx)→
  ∃NI:List Nat,NI.length=(pK n (L.map (Bv true ow.rv.length)) nw y1).2.length∧
   (∀i bx,(pK n (L.map (Bv true ow.rv.length)) nw y1).2[i]? =some bx→∃g vs,NI[i]? =some g∧eG jZ ext (.box (sh+i))=some g∧w'.heap[g]? =some (.cells vs.toArray bx.t (0,0))∧
    ∀(bbx:List (Option Nat)) (ok':Nat→Prop),(∀b,ay jZ ext b→may' b→ok' b)→F2 (aQ w' ok' may ⟨ow.rv++jZ.rv,bbx⟩) bx.ls vs)∧
   (match (pK sh L nw y1).1,(pK n (L.map (Bv true ow.rv.length)) nw y1).1 with|none,none=>True|some z,some z'=>∀u,pO jZ z u→pO ⟨ow.rv++jZ.rv,ow.bb++NI.map some⟩ z' u|_,_=>False):=by
 intro nw
 cases nw with
 |none=>intro y1 sh n L hu hn hx;exact⟨[],rfl,fun i bx e=>by simp[pK]at e,trivial⟩
 |some r1=>
  intro y1
  cases y1 with
  |none=>intro sh n L hu hn hx;exact⟨[],rfl,fun i bx e=>by simp[pK]at e,fun u h=>h⟩
  |some d=>
   intro sh n L hu hn hx
   have hb:=hx 0 ⟨r1.t,L⟩ rfl
   rw[Nat.add_zero]at hb
   obtain⟨g,hg,vs,hcell,hF⟩:=MX.boxes sh _ hb
   refine⟨[g],rfl,fun i bx e=> ?_,fun u hu=> ?_⟩
   ·cases i with
    |succ i=>simp[pK]at e
    |zero=>
     simp only[pK,List.getElem?_cons_zero,Option.some.injEq]at e
     subst e
     exact⟨g,vs,rfl,jf hb hg,hcell,fun bbx ok' lU=>V_.zL (fun b h1 h2=>⟨lU b h1 h2,AP b h2⟩) hu hF⟩
   ·obtain ⟨g',h1,h2⟩:=hu
    obtain rfl:g=g':=Option.some.inj (Option.some.inj (hg.symm.trans h1))
    refine⟨g,?_,h2⟩
    show(ow.bb++[some g])[n]? =some (some g)
    rw[hn,List.getElem?_append_right (Nat.le_refl _),Nat.sub_self];rfl
theorem abH {C:ak}(CK:ah P C)(M:aC w may ow m)(hL:Live C may w ow m){s:S}{a:Act}(hs:s.m=m)(F:dw w (ay ow m) may ow s a){o:Oper}{q:Call}(ho:o.op= .call q){g:FuncId}(hg:q.callee= .value (.func g)){nn:Bool}
  {xg:rP} (hC:C.x g nn=some xg) {c:SV→Mem→Option R} (h:Bg m xg (q.args.toList.map s.gJ) c=some r):lS P may w ow m o a c r:=by
 obtain⟨⟨fn,hf,hn,Vt⟩,Ql⟩:=CK.x g nn xg hC
 have CG:fn.name≠ "runtime.NumGoroutine" :=by simpa using hn
 have AZ:fn.body≠none:=by intro e;simp[e]at Vt
 have uT:(execOp a.eval o).run P w= .ok (.enter g (q.args.toList.map a.eval).toArray) w:=by
  have:q.args.map a.eval=(q.args.toList.map a.eval).toArray:=by rw[←Array.toList_map]
  rw[←this]
  simp[execOp,ho,resolve,hg,Act.eval,Deferred.ofValue,invoke,callFunc,hf,CG,AZ]
 have hF0:F2 (aS w (ay ow m) may ow m) (q.args.toList.map s.gJ) (q.args.toList.map a.eval):=by subst hs;exact XP F _
 generalize q.args.toList.map s.gJ=qh at h hF0
 generalize q.args.toList.map a.eval=vals at uT hF0
 unfold Bg at h
 split at h
 case h_1=>cases h
 rename_i cs sW
 rw[Wh]at sW
 have hcv:F2 (bG w (ay ow m) may ow) cs (vals.drop (xn xg.gy xg.gK)):=afA sW (hF0.drop _)
 obtain⟨m1,V6,M1,K1,hfz⟩:∃m1,m1=(bif xg.mO then m else m.aI (aB cs))∧aC w may ow m1∧dZ may w ow m w ow m1∧(xg.mO=false→∀l∈aB cs,yw m1 l):=by
  cases xg.mO with
  |true=>exact⟨m,rfl,M,dZ.refl _ _ _ _,fun e=>by cases e⟩
  |false=>
   obtain⟨M1,K1⟩:=M.aI (aB cs)
   exact⟨_,rfl,M1,K1,fun _=>lY _ _⟩
 simp only[←V6]at h
 have hF1:F2 (aS w (ay ow m1) may ow m1) qh vals:=hF0.imp fun _ _ h=>aS.aW K1 h
 have aqf:F2 (bG w (ay ow m1) may ow) cs (vals.drop (xn xg.gy xg.gK)):=hcv.imp fun _ _ h=>bG.aW K1.stay K1.rv h
 split at h
 case h_1=>cases h
 rename_i p hp
 obtain⟨hb,h⟩:=aG h
 simp only[Bool.and_eq_true,Bool.or_eq_true]at hb
 obtain⟨sQ,hvf,hgv,hnd⟩:=hb
 split at h
 case h_1=>cases h
 rename_i x hx
 obtain⟨y,hy,h⟩:=Option.bind_eq_some_iff.1 h
 rw[EG]at h
 split at h
 case h_2=>cases h
 rename_i bs q3 hbs hq3
 rw[List.all_append,Bool.and_eq_true]at hgv
 obtain⟨G,AQ,zM,bb,bids,RP,hrc⟩:=Zv M1 hp hF1 hgv.1
 obtain⟨cs',alG,G9,G_,ht1,md1,yx,aqg,Sj⟩:=TL (AO:=xg.AO) M1 (aN 0 (nJ xg.gy p.2.2)).2.length sQ aqf hx (fun e=>by have:=hgv.2;rw[e]at this;exact this) (fun e=>⟨hfz e,by
  rcases hvf with h|h
  ·rw [e]at h;cases h
  ·exact h⟩)
 let ids:=nC (p.2.1++bif xg.mO then aB cs else[])
 have E_:(zM++G_).filterMap id=ids:=by
  rw[List.filterMap_append,RP.ids,yx]
  show _=nC _
  rw[o8]
  cases xg.mO<;>rfl
 have atI:(zM++G_).filterMap id=nC (p.2.1++bif xg.mO then aB cs else[]):=E_
 let L0:=(aN 0 (nJ xg.gy p.2.2)).1
 let e0:=sN G L0 xg.gy xg.gK
 let BH:Ow:=⟨AQ++G9,bb.map some⟩
 let m0:Mem:=⟨(aN 0 (nJ xg.gy p.2.2)).2++alG,e0.2.map some⟩
 have NJ:xg.spec.Vq G p.2.2 x=some ⟨e0.1++vS e0.1.length cs',m0⟩:=by
  show(match A_ xg.mO xg.AO (aN 0 (nJ xg.gy p.2.2)).2.length xg.ps x with
   |none=>none
   |some z=>some _)=_
  rw[ht1];rfl
 let gone:Nat→Prop:=fun b=>(∃i,i∈ids∧eG ow m1 (.row i)=some b)∨∃i,i∈bids∧eG ow m1 (.box i)=some b
 let may':Nat→Prop:=fun b=>may b∧(b<w.heap.size→∀x,eG ow m1 x=some b→gone b)
 have jX:∀b,ay ow m1 b→may b→may' b:=fun b h1 h2=>⟨h2,fun _ x hx=>absurd hx (h1 x)⟩
 have hgm:∀b,gone b→may' b:=fun b hg=>by
  refine⟨?_,fun _ _ _=>hg⟩
  rcases hg with⟨i,_,h⟩|⟨i,_,h⟩<;>exact(M1.fH _ _ h).1
 have hm:=hL.new
 have hm':∀b,w.heap.size≤b→may' b:=fun b hb=>⟨hm b hb,fun h=>by omega⟩
 have RvL:BD 0 AQ (AQ++G9):=fun i v e=>by rw[Nat.zero_add,List.getElem?_append_left (List.getElem?_eq_some_iff.1 e).1];exact e
 have RvR:BD (aN 0 (nJ xg.gy p.2.2)).2.length G9 (AQ++G9):=fun i v e=>by
  rw[←RP.made.len,List.getElem?_append_right (by omega),Nat.add_sub_cancel_left];exact e
 obtain⟨M0,abJ,aqi⟩:=assemble (may':=may') M1 jX (RP.made.append md1) (E8 (qF _ _) aqg) (by rw[E_];exact hnd) (boxes:=e0.2) (bb:=bb) (bids:=bids) RP.nd RP.lb
  (fun i bx e=>by
   obtain⟨g',b,vs,h1,h2,h3,_,h4,h5⟩:=RP.boxes i bx e
   exact⟨g',b,vs,h1,h2,h3,h4,fun ok' _=>h5 ok' may' ⟨AQ++G9,bb.map some⟩ RvL⟩)
  (fun b hb=>hgm b (by
   rcases hb with⟨i,h1,h2⟩|⟨i,h1,h2⟩
   ·exact .inl ⟨i,by rw[←E_];exact h1,h2⟩
   ·exact .inr ⟨i,h1,h2⟩))
 have Wi:∀q∈e0.1++vS e0.1.length cs',∃v,vals[q.1]? =some v∧aS w (ay BH m0) may' BH m0 q.2 v:=by
  intro q hq
  rcases List.mem_append.1 hq with hq|hq
  ·obtain ⟨v,h1,_,h2⟩:=RP.TM q hq
   exact⟨v,h1,h2 _ may' BH m0 rfl⟩
  ·obtain ⟨c',v,h1,h2,h3,h4⟩:=IJ (Sj (ay BH m0) may' BH (fun b k1 k2=>⟨abJ b k1,jX b k1 k2⟩) abJ RvR) hq
   rw[List.getElem?_drop,RP.ls]at h1
   rw[RP.ls]at h2
   refine⟨v,by rw[show q.1=xn xg.gy xg.gK+(q.1-xn xg.gy xg.gK)by omega];exact h1,?_⟩
   rw[h3]
   exact h4
 have hlen:vals.length=(e0.1++vS e0.1.length cs').length:=by
  have h1:=(Sj (ay BH m0) may' BH (fun b k1 k2=>⟨abJ b k1,jX b k1 k2⟩) abJ RvR).len
  rw[List.length_append,BG,RP.ls,h1]
  have:=abE vals _ RP.lv
  omega
 refine⟨_,_,h,fun Kp Qp hK=> ?_⟩
 unfold Oper.wp
 rw[uT,Oper.upon_enter]
 refine(Ql w may' BH G p.2.2 x y _ vals hm' hL.EU (fun g' tb e=>abJ _ ((K1.stay g' (hL.EU g' tb e).1 (hL.ok g' tb e)).1)) NJ M0 Wi hlen hy).mono fun e w' ⟨v,z,jZ,he,hz,MX,ND,aqj,pY,vF,KJ,htp,wR⟩=> ?_
 subst he
 have EO:∀b,b<w.heap.size→(∀x,eG ow m1 x=some b→¬abx ids p.1 x)→ay jZ z.2 b∧w'.heap[b]? =w.heap[b]? :=by
  intro b hb hn
  refine vF b hb fun x0 hx0=> ?_
  rcases aqi x0 b hx0 with⟨i,h1,h2⟩|⟨i,h1,h2⟩
  ·exact hn _ h2 (show i∈ids by rw[←E_];exact h1)
  ·exact hn _ h2 (show p.1=some i by rw[RP.hp]at h1;simpa using h1)
 have TF:∀b x,may' b→b<w.heap.size→eG ow m1 x=some b→abx ids p.1 x:=by
  intro b x0 h1 h2 h3
  rcases h1.2 h2 x0 h3 with⟨i,h4,h5⟩|⟨i,h4,h5⟩
  ·obtain rfl:=M1.qp _ _ b h5 h3;exact h4
  ·obtain rfl:=M1.qp _ _ b h5 h3
   show p.1=some i
   rw[RP.hp]at h4;simpa using h4
 let q1:=aN 0 (nJ xg.gy y.2.2)
 let q2:=aN q1.2.length (vP xg.nw y.1)
 let e1:=(sN G q1.1 xg.gy xg.gK).2
 obtain⟨q3',ai1,rfl⟩:∃q3',jh xg.own true (q1.2.length+q2.2.length) xg.rs y.2.1=some q3'∧z=(PX (pK e1.length q2.1 xg.nw y.1).1 q3'.1,⟨q1.2++q2.2++q3'.2,(e1++(pK e1.length q2.1 xg.nw y.1).2).map some⟩):=by
  have hz':(match jh xg.own true (q1.2.length+q2.2.length) xg.rs y.2.1 with
   |none=>none
   |some q3=>some (PX (pK e1.length q2.1 xg.nw y.1).1 q3.1,(⟨q1.2++q2.2++q3.2,(e1++(pK e1.length q2.1 xg.nw y.1).2).map some⟩:Mem)))=some z:=hz
  cases hq:jh xg.own true (q1.2.length+q2.2.length) xg.rs y.2.1 with
  |none=>rw[hq]at hz';cases hz'
  |some q3'=>rw[hq]at hz';exact⟨q3',rfl,(Option.some.inj hz').symm⟩
 have hn:m1.rows.length=ow.rv.length:=M1.lX.symm
 have hs1:aN m1.rows.length (nJ xg.gy y.2.2)=(q1.1.map (Bv true ow.rv.length),q1.2):=by
  have:=V8 m1.rows.length xg.gy y.2.2 0
  rw[Nat.zero_add]at this
  rw[this,hn]
 have hs2:aN (m1.rows.length+q1.2.length) (vP xg.nw y.1)=(q2.1.map (Bv true ow.rv.length),q2.2):=by
  have:=V9 m1.rows.length xg.nw y.1 q1.2.length
  rw[show m1.rows.length+q1.2.length=q1.2.length+m1.rows.length by omega,this,hn]
 have hs3:q3=(q3'.1.map (Vs true ow.rv.length),q3'.2):=by
  have:=Zt (d:=m1.rows.length) xg.own ai1
  rw[show q1.2.length+q2.2.length+m1.rows.length=m1.rows.length+q1.2.length+q2.2.length by omega]at this
  rw[hs1]at hq3
  simp only at hq3
  rw[hs2]at hq3
  simp only at hq3
  rw[hq3]at this
  rw[Option.some.inj this,hn]
 subst hs3
 have aqk:∀l∈q1.1,V7 l:=Lc _ _ (afw _ _)
 have aql:∀l∈q2.1,V7 l:=Lc _ _ (afx _ _)
 have aqm:=afz xg.own ai1
 have he1:e1.length=bb.length:=by
  rw[RP.lb]
  exact abG _ _ _ _ _
 have hme:m0.boxes.length=bb.length:=by show(e0.2.map some).length=_;rw[List.length_map];exact RP.lb.symm
 let ext:Mem:=⟨q1.2++q2.2++q3'.2,(e1++(pK e1.length q2.1 xg.nw y.1).2).map some⟩
 have ai2:∀i row,ext.row? i=some row→row.fr=true:=fun i row e=>
  E8 (E8 (qF _ _) (qF _ _)) (fun i row e=>(EW ai1 i row e).1) i row e
 have abK:∀i bx,(pK e1.length q2.1 xg.nw y.1).2[i]? =some bx→ext.box? (e1.length+i)=some bx:=by
  intro i bx e
  show(((e1++(pK e1.length q2.1 xg.nw y.1).2).map some)[e1.length+i]?).bind id=some bx
  rw[List.getElem?_map,List.getElem?_append_right (by omega),Nat.add_sub_cancel_left,e]
  rfl
 have hmb:∀b,may' b→may b:=fun b h=>h.1
 obtain⟨NI,Ti,hnb,hhd⟩:=Zw (ow:=ow) (may:=may) MX hmb (nw:=xg.nw) (y1:=y.1) (sh:=e1.length) (n:=m1.boxes.length) (L:=q2.1) aql M1.jc.symm abK
 obtain⟨JM,aqn,hbo⟩:∃JM,bs=vK m1.boxes JM p.1∧∀b,p.1=some b→0<e1.length∧∃g vs,ow.bb[b]? =some (some g)∧eG ow m1 (.box b)=some g∧eG jZ ext (.box 0)=some g∧w'.heap[g]? =some (.cells vs.toArray JM.t (0,0))∧
   ∀ok':Nat→Prop,(∀b,ay jZ ext b∧(may' b∨(b<w.heap.size∧ay ow m1 b))→ok' b)→F2 (aQ w' ok' may ⟨ow.rv++jZ.rv,ow.bb++NI.map some⟩) JM.ls vs:=by
  rw[hs1]at hbs
  have Zx:xg.gy=none∨∃rc,xg.gy=some rc:=by
   generalize xg.gy=o
   cases o with
   |none=>exact .inl rfl
   |some rc=>exact .inr ⟨rc,rfl⟩
  rcases Zx with Wj|⟨rc,Wj⟩
  ·refine ⟨⟨0,[]⟩,?_,?_⟩
   ·have:∀(rc:Option Bf) (po:Option Nat),rc=none→xR m1 rc po (q1.1.map (Bv true ow.rv.length))=some bs→bs=vK m1.boxes ⟨0,[]⟩ po:=by
     rintro _ po rfl h
     cases po with
     |none=>exact(Option.some.inj h).symm
     |some=>cases h
    exact this _ _ Wj hbs
   ·intro b e
    have:∀(rc:Option Bf) (po:Option Nat),rc=none→xR m1 rc po (q1.1.map (Bv true ow.rv.length))=some bs→po=none:=by
     rintro _ po rfl h
     cases po with
     |none=>rfl
     |some=>cases h
    rw[this _ _ Wj hbs]at e
    cases e
  ·obtain ⟨b,bx,γ,vs,hpb,yN,hbt,R_,hbb,hγ,hcell,Ez,hp1,hp2⟩:=hrc rc Wj
   have aqp:q1.1.length=rc.k.n:=by
    have:∀(o:Option Bf) (d:rO o),o=some rc→(aN 0 (nJ o d)).1.length=rc.k.n:=by
     rintro _ d rfl
     exact(OC _ _).trans (GY true rc.k d)
    exact this _ _ Wj
   have alJ:e1=[⟨rc.t,Dk G 0 rc.pre++q1.1++Dk G rc.pre rc.post⟩]:=by
    have:∀(o:Option Bf) (gK:Bool),o=some rc→(sN G q1.1 o gK).2=[⟨rc.t,Dk G 0 rc.pre++q1.1++Dk G rc.pre rc.post⟩]:=by
     rintro _ gK rfl;cases gK<;>rfl
    exact this _ _ Wj
   have VX:ext.box? 0=some ⟨rc.t,Dk G 0 rc.pre++q1.1++Dk G rc.pre rc.post⟩:=by
    show(((e1++(pK e1.length q2.1 xg.nw y.1).2).map some)[0]?).bind id=_
    rw[alJ];rfl
   have hg1:jZ.bb[0]? =some (some γ):=by
    rw[aqj 0 (by show 0<m0.boxes.length;rw[hme,hbb];simp)]
    show(bb.map some)[0]? =_
    rw[hbb];rfl
   obtain⟨us,k1,k2,k3⟩:=abD (bbx:=ow.bb++NI.map some) M1 R_ Ez hp1 hp2 MX hmb VX aqp aqk hg1 (fun b hb hk=>EO b hb fun x hx=>absurd hx (hk x)) pY
   have ai3:xR m1 (some rc) (some b) (q1.1.map (Bv true ow.rv.length))=some bs:=by
    have:∀(o:Option Bf) (po:Option Nat),o=some rc→po=some b→xR m1 o po (q1.1.map (Bv true ow.rv.length))=some bs→xR m1 (some rc) (some b) (q1.1.map (Bv true ow.rv.length))=some bs:=by
     rintro _ _ rfl rfl h;exact h
    exact this _ _ Wj hpb hbs
   unfold xR at ai3
   simp only[yN]at ai3
   refine⟨⟨rc.t,mF bx.ls rc.pre (q1.1.map (Bv true ow.rv.length))⟩,?_,fun b' e=> ?_⟩
   ·rw [hpb];exact(Option.some.inj ai3).symm
   ·rw [hpb]at e
    obtain rfl:=Option.some.inj e
    exact⟨by rw[alJ];simp,γ,us,hγ,jf yN hγ,k1,k2,k3⟩
 obtain⟨M2,K2,abL⟩:=aiX (JM:=JM) (nb:=(pK m1.boxes.length (q2.1.map (Bv true ow.rv.length)) xg.nw y.1).2) (NI:=NI) (sh:=e1.length) (rs:=ids) (bo:=p.1) M1 MX hmb TF EO pY KJ htp wR ai2 Ti hbo
  (fun i bx e=>by
   obtain⟨g',vs,h1,h2,h3,h4⟩:=hnb i bx e
   exact⟨g',vs,h1,h2,h3,fun ok' lU=>h4 _ ok' fun b k1 k2=>lU b ⟨k1,.inl k2⟩⟩)
 have alK:=abB (w':=w') (ok:=ay jZ ext) (may':=may') (may:=may) (aO:=jZ) (rv:=ow.rv) (bb:=ow.bb++NI.map some) (ok':=ay ⟨ow.rv++jZ.rv,ow.bb++NI.map some⟩ ⟨(jw m1 ids).rows++ext.rows,vK m1.boxes JM p.1++(pK m1.boxes.length (q2.1.map (Bv true ow.rv.length)) xg.nw y.1).2.map some⟩) (m':=⟨(jw m1 ids).rows++ext.rows,vK m1.boxes JM p.1++(pK m1.boxes.length (q2.1.map (Bv true ow.rv.length)) xg.nw y.1).2.map some⟩)
  (fun b k1 k2=>⟨abL b k1 (.inl k2),hmb b k2⟩) aqm hhd ND
 subst aqn
 have key:=hK v w' ⟨ow.rv++jZ.rv,ow.bb++NI.map some⟩
 rw[hs1]at key
 simp only at key
 rw[hs2]at key
 exact key M2 (K1.trans K2) alK
end
end Go.Fx
