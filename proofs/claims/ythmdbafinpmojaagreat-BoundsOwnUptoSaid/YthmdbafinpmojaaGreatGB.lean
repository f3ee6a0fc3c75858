import Derived.Test.YthmdbafinpmojaaGreatW08b
import Derived.WalkKit
import Derived.Lib.Walk
import Derived.Lib.SliceRun
import Derived.Test.YthmdbafinpmojaaGreatEvR
import Derived.RangeFuncNested
import Derived.RangeFuncBox
import Derived.RangeFuncLeaves
import Derived.Shelf.Abstract
import Derived.OwnWalkIn
import Derived.TacticsInMore
import Derived.LoopNIn
import Derived.LoopIn
set_option linter.unusedVariables false
set_option linter.unusedSimpArgs false
namespace Go.Fx.Tryz
open Go Go.Proofs Go.Fx Go.RowKit
def oI.Sz:Oth:= .cl 68 16 256
set_option maxHeartbeats 2000000 in
set_option maxRecDepth 100000 in
theorem UH (w:World)(A:Option Addr)(len c:Nat)(cs:List Value)(hl:cs.length=len*16)(h1:∀u∈cs,u.oneCell'=true)(hA:len≠0→∃ad,A=some ad∧∀j u,cs[j]? =some u→w.cell? (ad.add j)=some u)(hc:len≤c)(Jp:len<zy 256):
    Calls Tryz.prog 51 #[.slice A len c] w fun e' w'=>∃v,e'= .returned v∧w'.ownsRow 0 68 16 v len cs∧(∀d,v.ownBlock=some d→w.heap.size≤d)∧Below w.heap.size w w':=by
  have q29:∀(w:World) (a:Option Addr) (n c n' c':Nat),(binOp .eql 29 (.slice a n c) (.slice none n' c')).run Tryz.prog w= .ok (.bool a.isNone) w:=fun w a n c n' c'=>Lib.run_eql_slice_nil w _ _ a n c n' c' Tryz.underlying29
  have u29:∀w,Sem.run Tryz.prog (underlying 29) w= .ok (TypeDesc.slice 68) w:=run_underlying Tryz.underlying29
  obtain⟨i0,hi,hs,hb,z,hz,hzc⟩:=(aH 68 afQ (by kernel_rfl)).info
  have S_:z.cells.size=16:=by
    have:z.cells.toList.length=16:=by rw[hzc];rfl
    simpa using this
  have atY:len*256<140737488355328:=by unfold zy at Jp;omega
  refine calls_of_wp Tryz.func51 rfl ?_
  simp only[Tryz.ntmps51,List.size_toArray,List.length_cons,List.length_nil,Nat.reduceAdd,Nat.reduceSub,Array.replicate_succ,Array.replicate_zero,List.push_toArray,List.append_toArray,List.nil_append,List.cons_append]
  cases A with
  |none=>
    obtain rfl:len=0:=Classical.byContradiction fun h=>by obtain⟨ad,e,_⟩:=hA h;cases e
    go_wp2
    go_ret
    obtain rfl:cs=[]:=List.eq_nil_of_length_eq_zero (by omega)
    exact⟨.slice none 0 0,rfl,World.ownsRow_nil w 0 68 16,fun d e=>by simp[Value.ownBlock]at e,Below.refl _ _⟩
  |some ad=>
    have hA':∀j u,cs[j]? =some u→w.cell? (ad.add j)=some u:=by
      by_cases h:len=0
      · intro j u hj
        have:=(List.getElem?_eq_some_iff.1 hj).1
        omega
      · obtain ⟨ad', e, h2⟩ := hA h
        cases e;exact h2
    go_wp2_with (at_builtin;refine wpList_append_own _ rfl _ _ 29 rfl w.heap.size 68 i0 z 16 256 Tryz.underlying29 hi hz hs hb S_ (by decide) _ _ _ rfl (World.ownsRow_made w #[] 0 (Nat.le_refl _) (Nat.zero_le _) rfl) ad len c cs rfl hl ?qc2 h1 ?qc4 ?qc5 ?qc6 ?_)
    case qc2=>exact fun j u hj=>Lib.cell?_alloc_some _ (hA' j u hj)
    case qc4=>unfold maxLen;omega
    case qc5=>omega
    case qc6=>simp
    intro v' w1 dM amF afm
    go_wp2
    go_ret
    have xU:w1.ownsRow w.heap.size 68 16 v' len cs:=by simpa using dM
    refine⟨v',rfl,⟨xU.1,xU.2.imp id fun ⟨g,cap,cur,h,hg,r⟩=>⟨g,cap,cur,h,Nat.zero_le _,r⟩⟩,fun d hd=>(World.ownsRow.lt xU d hd).1,?_⟩
    exact((Below.refl _ w).alloc (Nat.le_refl _) _).grown amF (by simp) (by intro k hk;simp[Value.ownBlock]at hk;omega)
theorem oI.ok:XK Tryz.prog 51 oI.Sz:=⟨⟨_,Tryz.func51,by kernel_rfl,by kernel_rfl⟩,fun w A len c cs h1 h2 h3 h4 h5=>UH w A len c cs h1 h2 h3 h4 h5⟩
end Go.Fx.Tryz

namespace Go.Fx.Tryz
open Go Go.Proofs Go.RowKit Go.Shelf Go.Fx
attribute [local go_sem] Oper.semAt_some
theorem ajv (w:World)(ad:Addr)(es:List Value)(hl:es.length=11)(h:∀j v,es[j]? =some v→w.cell? (ad.add j)=some v):(loadVar 70 ad).run Tryz.prog w= .ok (.agg es.toArray) w:=by
  have hl2:=run_loadCells_list (P:=Tryz.prog) w ad es h
  rw[hl]at hl2
  have h1:(Go.isAgg 70).run Tryz.prog w= .ok true w:=(aH 70 acv (by kernel_rfl)).isAgg
  have h2:(sizeOf 70).run Tryz.prog w= .ok 11 w:=(aH 70 acv (by kernel_rfl)).size
  simp[loadVar,h1,h2,hl2]
theorem Js {n:Nat}{ops:Array Oper}{Q:Exit→Act→World→Prop}{a:Act}{w:World}{rest:List Oper}{o:Oper}{t:Nat}{ad:Addr}{es:List Value}(ho:o.op= .load 70 (.tmp t))(hg:o.guard=none)(ha:a.eval (.tmp t)= .pointer (some ad))(hL:(loadVar 70 ad).run Tryz.prog w= .ok (.agg es.toArray) w)
    (h:wpListIn Fence.wide n Tryz.prog ops Q rest (a.put o.dst (.agg es.toArray)) w):wpListIn Fence.wide n Tryz.prog ops Q (o::rest) a w:=by
  refine wpListIn_plain hg fun K hK=>⟨fun _ _=>trivial,?_⟩
  rw[Oper.semAt_eq _ _ _ (by rw[ho];intro c e;cases e)]
  have e:(execOp a.eval o).run Tryz.prog w= .ok (.value (.agg es.toArray)) w:=by simp[execOp,ho,ha,Instr.loadAt,Instr.sureAddr,hL]
  rw[e]
  exact hK _ _ h
def down {α:Type}(f:Nat→α)(len k:Nat):List α:=(List.range k).map fun j=>f (len-1-j)
theorem Pg {α:Type}(f:Nat→α)(len k:Nat):down f len (k+1)=down f len k++[f (len-1-k)]:=by simp[down,List.range_succ]
theorem UJ {α:Type}(f:Nat→α)(len k:Nat):(down f len k).length=k:=by simp[down]
set_option maxRecDepth 100000 in
set_option maxHeartbeats 2000000 in
theorem ajw (n:Nat)(hn:1≤n)(l Bs len cap:Nat)(A:Addr)(enc:Nat→List Value)(KR:∀j,j<len→(enc j).length=11)(acD:len<4611686018427387904)
    {α:Type} (f:Nat→α) (encs:α→Array Value) (hf:∀j,j<len→encs (f j)= #[.int .i64 (j:Int),.agg (enc j).toArray]) (Kp:World→World→Prop) (hKr:∀W,Kp W W) (hKt:∀{X Y Z},Kp X Y→Kp Y Z→Kp X Z)
    (hKc:∀W W',Kp W W'→∀(p:Addr) v,p.block=Bs∨p.block=A.block→W.cell? p=some v→W'.cell? p=some v) (J Jx:List α→World→Prop)
    (hY:∀pre x W,J pre W→pre.length<len→YieldAt Fence.wide (n-1) Tryz.prog l (encs x) W fun e W'=>(e= .returned (.bool true)∧J (pre++[x]) W'∧Kp W W')∨(e= .returned (.bool false)∧Jx (pre++[x]) W'))
    (W:World) (hBs:W.cell? ⟨Bs,0,none⟩=some (.slice (some A) len cap)) (hc:∀j,j<len→∀i u,(enc j)[i]? =some u→W.cell? (A.add (j*11+i))=some u) (h0:J [] W):
    CallsIn Fence.wide n Tryz.prog 92 #[.func (.yield l) #[] #[],.pointer (some ⟨Bs,0,none⟩)] W fun e W'=>(∃v,e= .returned v)∧(J (down f len len) W'∨∃k,k≤len∧Jx (down f len k) W'):=by
  refine callsIn_of_wp Tryz.func92 rfl trivial ?_ rfl
  simp only[Tryz.ntmps92,List.size_toArray,List.length_cons,List.length_nil,Nat.reduceAdd,Nat.reduceSub,Array.replicate_succ,Array.replicate_zero,List.push_toArray,List.append_toArray,List.nil_append,List.cons_append]
  gi_wp2
  gi_loopw [3] (fun i wr=>∃k:Nat,k≤len∧i= .int .i64 ((len:Int)-1-k)∧J (down f len k) wr∧Kp W wr)
    (fun i _=>(intOf i+1).toNat)
  case atStart=>exact⟨0,Nat.zero_le _,by simp,h0,hKr _⟩
  case round=>
    obtain⟨k,hk,rfl,hJs,Qz⟩:=hrel
    have avY:=hKc _ _ Qz ⟨Bs,0,none⟩ _ (.inl rfl) hBs
    by_cases dX:k<len
    · obtain ⟨i, hi⟩ : ∃ i : Nat, len - 1 - k = i := ⟨_, rfl⟩
      have JI:(len:Int)-1-k=(i:Int):=by omega
      have ajx:i<len:=by omega
      obtain⟨fn,tmps,assign,body,hy,hR⟩:=hY _ (f i) wr hJs (by rw[UJ];exact dX)
      rw[hf i ajx]at hy
      have hL:=ajv wr (A.add (i*11)) (enc i) (KR i ajx) (fun j v hv=>by
        have:=hKc _ _ Qz (A.add (i*11+j)) v (.inr (Addr.gU _ _)) (hc i ajx j v hv)
        rwa[←Addr.add_add]at this)
      rw[JI]
      gi_wp2_with (refine Js (ad:=A.add (i*11)) (es:=enc i) rfl rfl rfl hL ?_)
      refine hR.mono ?_
      rintro e W3 (⟨rfl,hJ3,hk3⟩|⟨rfl,arn⟩)
      · gi_wp2
        go_roundw
        case rel=>exact⟨k+1,by omega,by first|(simp;done)|(simp;omega),by rw[Pg,hi];exact hJ3,hKt Qz hk3⟩
        case measure=>first|(simp [intOf];done)|(simp [intOf];omega)
      · gi_wp2
        refine bodyPost_ret (results_none rfl _ _ _) rfl ?_
        exact⟨⟨_,rfl⟩,.inr ⟨k+1,by omega,by rw[Pg,hi];exact arn⟩⟩
    · obtain rfl : k = len := by omega
      have JI:(k:Int)-1-k= -1:=by omega
      rw[JI]
      gi_wp2
      go_end0
      exact⟨⟨_,rfl⟩,.inl hJs⟩
set_option maxRecDepth 100000 in
set_option maxHeartbeats 1000000 in
theorem ajy (n:Nat)(l Bs cap:Nat)(A:Option Addr)(W:World)(hBs:W.cell? ⟨Bs,0,none⟩=some (.slice A 0 cap)):
    CallsIn Fence.wide n Tryz.prog 92 #[.func (.yield l) #[] #[],.pointer (some ⟨Bs,0,none⟩)] W fun e W'=>(∃v,e= .returned v)∧W'=W:=by
  refine callsIn_of_wp Tryz.func92 rfl trivial ?_ rfl
  simp only[Tryz.ntmps92,List.size_toArray,List.length_cons,List.length_nil,Nat.reduceAdd,Nat.reduceSub,Array.replicate_succ,Array.replicate_zero,List.push_toArray,List.append_toArray,List.nil_append,List.cons_append]
  gi_wp2
  gi_loopw [3] (fun i wr=>i= .int .i64 (-1)∧wr=W) (fun _ _=>0)
  case atStart=>exact⟨by first|rfl|(simp;done),rfl⟩
  case round=>
    obtain⟨rfl,rfl⟩:=hrel
    gi_wp2
    go_end0
    exact⟨⟨_,rfl⟩,rfl⟩
set_option maxHeartbeats 1000000 in
theorem amG (n:Nat)(a:Option Addr)(len cap:Nat)(w:World):
    CallsIn Fence.wide n Tryz.prog 74 #[.slice a len cap] w fun e w'=>e= .returned (.func (.func 92) #[] #[.pointer (some ⟨w.heap.size,0,none⟩)])∧w'=w.alloc (.cells #[.slice a len cap] 30):=by
  refine callsIn_of_wp Tryz.func74 rfl trivial ?_ rfl
  simp only[Tryz.ntmps74,List.size_toArray,List.length_cons,List.length_nil,Nat.reduceAdd,Nat.reduceSub,Array.replicate_succ,Array.replicate_zero,List.push_toArray,List.append_toArray,List.nil_append,List.cons_append]
  gi_wp2
  go_ret
  exact⟨rfl,rfl⟩
theorem acE (n:Nat)(hn:1≤n)(Bs cap:Nat)(A:Option Addr){α:Type}(xs:List α)(acD:xs.length<4611686018427387904)(Kp:World→World→Prop)(hKr:∀W,Kp W W)(hKt:∀{X Y Z},Kp X Y→Kp Y Z→Kp X Z)
    (hKc:∀W W',Kp W W'→∀(p:Addr) v,p.block=Bs∨(∃ad,A=some ad∧p.block=ad.block∧0<xs.length)→W.cell? p=some v→W'.cell? p=some v) (encs:α→Array Value) (cs:Nat→List Value)
    (hf:∀(j:Nat) (x:α),xs[j]? =some x→encs x= #[.int .i64 (j:Int),.agg (cs j).toArray]∧(cs j).length=11) (w:World) (hB:Bs<w.heap.size) (hBs:w.cell? ⟨Bs,0,none⟩=some (.slice A xs.length cap))
    (hA:∀(j:Nat),j<xs.length→∃ad,A=some ad∧ad.block<w.heap.size∧∀i u,(cs j)[i]? =some u→w.cell? (ad.add (j*11+i))=some u):
    SeqStopsK Fence.wide n Tryz.prog 92 #[.pointer (some ⟨Bs,0,none⟩)] encs Kp (fun ys=>ys=xs.reverse) (fun pre=>∃k,k≤xs.length∧pre=xs.reverse.take k) xs.length w:=fun l J Jx W hW _ _ hY h0=>by
  have hc':=(hW.cell (p:=⟨Bs,0,none⟩) hB).trans hBs
  cases xs with
  |nil=>
    refine(ajy n l Bs cap A W hc').mono ?_
    rintro e W' ⟨he,rfl⟩
    exact⟨he,.inl ⟨[],rfl,h0⟩⟩
  |cons x0 xs=>
    obtain⟨ad,rfl,dX,_⟩:=hA 0 (by simp)
    have hA':∀j,j<(x0::xs).length→∀i u,(cs j)[i]? =some u→W.cell? (ad.add (j*11+i))=some u:=fun j hj i u hu=>by
      obtain⟨ad',e,aro,h⟩:=hA j hj
      cases e
      exact(hW.cell (p:=ad.add (j*11+i)) (by rw[Addr.gU];exact aro)).trans (h i u hu)
    have hd:∀k,k≤(x0::xs).length→down (fun j=>((x0::xs)[j]?).getD x0) (x0::xs).length k=(x0::xs).reverse.take k:=fun k hk=>by
      apply List.ext_getElem
      · simp only[down,List.length_map,List.length_range,List.length_take,List.length_reverse];omega
      · intro i h1 h2
        have hik:i<k:=by simpa[down]using h1
        have hi:i<(x0::xs).length:=by omega
        simp only[down,List.getElem_map,List.getElem_range,List.getElem_take,List.getElem_reverse]
        rw[List.getElem?_eq_getElem (by omega)]
        rfl
    refine(ajw n hn l Bs (x0::xs).length cap ad cs (fun j hj=>(hf j _ (List.getElem?_eq_getElem hj)).2) acD (fun j=>((x0::xs)[j]?).getD x0) encs (fun j hj=>by
      rw[List.getElem?_eq_getElem hj];exact(hf j _ (List.getElem?_eq_getElem hj)).1) Kp hKr (fun h k=>hKt h k) (fun W W' h p v hp=>hKc W W' h p v (hp.imp id fun e=>⟨ad,rfl,e,by simp⟩)) J Jx hY W hc' hA' h0).mono ?_
    rintro e W' ⟨he,hj|⟨k,hk,hj⟩⟩
    · rw [hd _ (Nat.le_refl _)] at hj
      exact⟨he,.inl ⟨_,by rw[List.take_of_length_le (by simp)],hj⟩⟩
    · rw [hd k hk] at hj
      exact⟨he,.inr ⟨_,⟨k,hk,rfl⟩,hj⟩⟩
end Go.Fx.Tryz

namespace Go.Fx.Tryz
open Go Go.Proofs Go.RowKit Go.Fx
noncomputable def af4:ak:=ak.cons 63 iO.sig (ak.cons 49 dW.sig (ak.base aJ))
theorem ah0:ah Tryz.prog af4:=ah.cons iO.bU (ah.cons dW.bU (ah.base aX))
noncomputable def C_:Code×Code:=match Tryz.f50.body with
  |some (.seq _ (.seq (.seq _ (.block _ (.rangeFunc _ _ a b))) _))=>(a,b)
  |_=>(.skip,.skip)
noncomputable def nG (zs:bC):Row:=⟨68,fD,false,true,zs⟩
noncomputable def pz (zs:bC):Mem:=⟨[some (nG zs)],[some ⟨29,[.own 0]⟩,some ⟨4,[.val true .bool false]⟩]⟩
noncomputable def oJ (zs:bC)(x:bZ):Mem:=⟨[some (nG zs)],[some ⟨29,[.own 0]⟩,some ⟨4,[.val true .bool false]⟩,some ⟨70,bf false fU x⟩]⟩
noncomputable def UK (zs:bC)(x:bZ):S:=⟨[(2,.box 0 0),(4,.box 1 0),(12,.one (.agg (bf false fU x)))],pz zs⟩
noncomputable def UL (zs:bC)(x:bZ):S:=⟨[(2,.box 0 0),(4,.box 1 0),(6,.box 2 0)],oJ zs x⟩
noncomputable def amH (s:S):Option (Sum bC Bool):=match s.m.row? 0,s.m.box? 0,s.m.box? 1 with
  |some ⟨e,k,fr,rw,xs⟩,some ⟨t0,[.own r]⟩,some ⟨t1,[.val f .bool b]⟩=>bif Nat.beq e 68&&not fr&&rw&&Nat.beq t0 29&&Nat.beq r 0&&Nat.beq t1 4&&not b then(K.cast (.sl 68 k) (.sl 68 fD) xs).map .inl else none
  |_,_,_=>none
noncomputable def amI (s:S):Option (Sum bC Bool):=match s.m.box? 1 with
  |some ⟨t1,[.val f .bool b]⟩=>bif Nat.beq t1 4 then some (.inr b)else none
  |_=>none
set_option maxRecDepth 100000 in
theorem ajz (zs:bC)(x:bZ):goR af4 T 50 9 C_.1 (UK zs x) (fun s=>some (s.gJ (.tmp 2),s.gJ (.tmp 4),s.gJ (.tmp 6),s.m)) (fun _=>none)=some (.box 0 0,.box 1 0,.box 2 0,oJ zs x):=by kernel_rfl
noncomputable def Ee (zs:bC)(x:bZ):Option (Sum bC Bool):=
  bif decide (0≤x.1)&&decide (x.1<(List.length zs:Int))then(bif x.2.1 then(bif decide (0≤x.1)&&decide (x.1<(List.length zs:Int))then
    (let now:=(List.getD zs (Int.toNat x.1) fD.d).2
     bif not now.1 then some (.inr false)
     else bif x.2.2.2.1 then((iO.F (x.2.2.2,now.2.1,())).bind fun y=>bif not y.1 then some (.inr false)else some (.inl (List.set zs (Int.toNat x.1) ((List.getD zs (Int.toNat x.1) fD.d).1,x.2.2.2))))
     else some (.inl (List.set zs (Int.toNat x.1) ((List.getD zs (Int.toNat x.1) fD.d).1,x.2.2.2))))else none)
  else
    (let now:=(List.getD zs (Int.toNat x.1) fD.d).1
     bif not now.1 then some (.inr false)
     else bif x.2.2.2.1 then((dW.F (x.2.2.2,now.2.1,())).bind fun y=>bif not y.1 then some (.inr false)else some (.inl (List.set zs (Int.toNat x.1) (x.2.2.2,(List.getD zs (Int.toNat x.1) fD.d).2))))
     else some (.inl (List.set zs (Int.toNat x.1) (x.2.2.2,(List.getD zs (Int.toNat x.1) fD.d).2)))))else none
set_option maxRecDepth 100000 in
theorem af5 (zs:bC)(x:bZ):goR af4 T 50 30 C_.2 (UL zs x) amH amI=Ee zs x:=by kernel_rfl
end Go.Fx.Tryz

namespace Go.Fx
open Go Go.RowKit
def K.L_:K→Bool
  | .int _| .bool| .str| .unit=>true
  | .prod a b=>a.L_&&b.L_
  | .sl _ k=>k.L_
  |_=>false
section
variable {w w':World} {ok ok' may:Nat→Prop}
theorem Rd.IX (hs:w.heap.size≤w'.heap.size)(H:∀(p:Addr)(v:Value),w.cell? p=some v→w'.cell? p=some v):∀{k:K} {x:k.T} {cs:List Value},k.L_=true→Rd w ok k x cs→Rd w' ok k x cs
  | .int q,x,cs,_,h=>h
  | .bool,x,cs,_,h=>h
  | .str,x,cs,_,h=>h
  | .unit,x,cs,_,h=>h
  | .prod a b,x,cs,e,h=>by
    simp only[K.L_,Bool.and_eq_true]at e
    obtain⟨c1,c2,rfl,h1,h2⟩:=h
    exact⟨c1,c2,rfl,h1.IX hs H e.1,h2.IX hs H e.2⟩
  | .sl t k,xs,cs,e,h=>by
    obtain⟨A,c,rfl,hc,hx⟩:=h
    refine⟨A,c,rfl,hc,fun i x hi=> ?_⟩
    obtain⟨ad,es,rfl,hl,ho,hr,hcell⟩:=hx i x hi
    exact⟨ad,es,rfl,Nat.lt_of_lt_of_le hl hs,ho,hr.IX hs H e,fun j v hv=>H _ _ (hcell j v hv)⟩
theorem Rd.inj:∀{k:K} {x y:k.T} {cs:List Value},k.L_=true→Rd w ok k x cs→Rd w ok' k y cs→x=y
  | .int q,x,y,cs,_,h,h'=>by simp only[Rd]at h h';subst h;cases h';rfl
  | .bool,x,y,cs,_,h,h'=>by simp only[Rd]at h h';subst h;cases h';rfl
  | .str,x,y,cs,_,h,h'=>by simp only[Rd]at h h';subst h;cases h';rfl
  | .unit,x,y,cs,_,h,h'=>rfl
  | .prod a b,x,y,cs,e,h,h'=>by
    simp only[K.L_,Bool.and_eq_true]at e
    obtain⟨c1,c2,rfl,h1,h2⟩:=h
    obtain⟨d1,d2,e2,h3,h4⟩:=h'
    obtain⟨rfl,rfl⟩:=List.append_inj e2 (by rw[h1.len,h3.len])
    exact Prod.ext (h1.inj e.1 h3) (h2.inj e.2 h4)
  | .sl t k,xs,ys,cs,e,h,h'=>by
    obtain⟨A,c,rfl,hc,hx⟩:=h
    obtain⟨A',c',e2,hc',hy⟩:=h'
    simp only[List.cons.injEq,Value.slice.injEq,and_true]at e2
    obtain⟨rfl,hl,rfl⟩:=e2
    apply List.ext_getElem hl
    intro i h1 h2
    obtain⟨ad,es,rfl,_,_,hr,hcell⟩:=hx i _ (List.getElem?_eq_getElem h1)
    obtain⟨ad',es',e3,_,_,JH,ajA⟩:=hy i _ (List.getElem?_eq_getElem h2)
    cases e3
    have:es=es':=by
      apply List.ext_getElem (by rw[hr.len,JH.len])
      intro j h3 h4
      exact Option.some.inj ((hcell j _ (List.getElem?_eq_getElem h3)).symm.trans (ajA j _ (List.getElem?_eq_getElem h4)))
    subst this
    exact hr.inj e JH
theorem aY.IX (hs:w.heap.size≤w'.heap.size)(H:∀(p:Addr)(v:Value),w.cell? p=some v→w'.cell? p=some v){k:K}(e:k.L_=true):∀{xs:List k.T} {cs:List Value},aY w ok k xs cs→aY w' ok k xs cs
  |[],cs,h=>h
  |x::r,cs,h=>by
    obtain⟨c1,c2,rfl,h1,h2⟩:=h
    exact⟨c1,c2,rfl,h1.IX hs H e,h2.IX hs H e⟩
theorem aY.inj {k:K}(e:k.L_=true):∀{xs ys:List k.T} {cs:List Value},xs.length=ys.length→aY w ok k xs cs→aY w ok' k ys cs→xs=ys
  |[],[],cs,_,h,_=>rfl
  |x::r,y::s,cs,hl,h,h'=>by
    obtain⟨c1,c2,rfl,h1,h2⟩:=h
    obtain⟨d1,d2,e2,h3,h4⟩:=h'
    obtain⟨rfl,rfl⟩:=List.append_inj e2 (by rw[h1.len,h3.len])
    rw[h1.inj e h3,h2.inj e (by simpa using hl) h4]
theorem UM {B e s n:Nat}{v:Value}{cs ds:List Value}(h:w.ownsRow B e s v n cs)(h':w.ownsRow B e s v n ds):cs=ds:=by
  obtain⟨h1,h⟩:=h
  obtain⟨h2,h'⟩:=h'
  rcases h with⟨rfl,rfl⟩|⟨g,cap,cur,rfl,_,hg,_,_,_,rfl⟩
  · simp only[Nat.zero_mul,List.length_eq_zero_iff]at h1 h2;rw[h1,h2]
  · rcases h' with ⟨e2, _⟩ | ⟨g', cap', cur', e2, _, zA, _, _, _, rfl⟩
    · cases e2
    · simp only [Value.slice.injEq, Option.some.injEq, Addr.mk.injEq, and_true, true_and] at e2
      obtain⟨rfl,_⟩:=e2
      rw[hg]at zA
      simp only[Option.some.injEq,Obj.cells.injEq,and_true]at zA
      rw[zA]
end
def aT.L_:aT→Bool
  | .val _ k _=>k.L_
  |_=>true
theorem H8:∀(fr:Bool) (k:K) (x:k.T),k.L_=true→∀l∈bf fr k x,l.L_=true
  |fr,.int q,x,e,l,h|fr,.bool,x,e,l,h|fr,.str,x,e,l,h|fr,.sl t k,x,e,l,h=>by simp only[bf,List.mem_singleton]at h;subst h;exact e
  |fr,.unit,x,e,l,h=>by simp[bf]at h
  |fr,.prod a b,x,e,l,h=>by
    simp only[K.L_,Bool.and_eq_true]at e
    simp only[bf,List.mem_append]at h
    exact h.elim (H8 fr a x.1 e.1 l) (H8 fr b x.2 e.2 l)
namespace Tryz
section
variable {W W':World} {may:Nat→Prop} {A:Option Addr} {L Q:Nat} {bb:List (Option Nat)} {bs:List (Option pF)} {zs:bC}
theorem J7:(⟨[some (nG zs)],bs⟩:Mem).row? 0=some (nG zs):=rfl
theorem F7 (i:Nat):(⟨[some (nG zs)],bs⟩:Mem).row? (i+1)=none:=by simp[Mem.row?]
theorem Ac {x:Th}{b:Nat}(h:eG ⟨[.slice A L Q],bb⟩ ⟨[some (nG zs)],bs⟩ x=some b):(x= .row 0∧∃a,A=some a∧a.block=b)∨∃i bx,x= .box i∧bs[i]? =some (some bx)∧bb[i]? =some (some b):=by
  cases x with
  |row i=>
    cases i with
    |zero=>
      have h:yQ (Value.slice A L Q)=some b:=h
      cases A with
      |none=>cases h
      |some a=>exact .inl ⟨rfl,a,rfl,Option.some.inj h⟩
    |succ i=>rw[EK (F7 i)]at h;cases h
  |box i=>
    refine .inr ⟨i,?_⟩
    simp only[eG,Mem.box?]at h
    cases hb:(bs[i]?).bind id with
    |none=>simp[hb]at h
    |some bx=>
      simp only[hb]at h
      obtain⟨o,ho,rfl⟩:=Option.bind_eq_some_iff.1 hb
      obtain⟨o2,ho2,e⟩:=Option.bind_eq_some_iff.1 h
      have e:o2=some b:=e
      subst e
      exact⟨bx,rfl,ho,ho2⟩
theorem acF (M:aC W may ⟨[.slice A L Q],bb⟩ ⟨[some (nG zs)],bs⟩){x:Th}{b:Nat}(h:eG ⟨[.slice A L Q],bb⟩ ⟨[some (nG zs)],bs⟩ x=some b):∃o,W.heap[b]? =some o∧o.isCells=true:=by
  rcases Ac h with⟨_,a,rfl,rfl⟩|⟨i,bx,rfl,h1,h2⟩
  · obtain ⟨v, hv, R⟩ := M.sl 0 _ J7 (v0 := .slice (some a) L Q) rfl ⟨_, _, _, rfl⟩
    obtain rfl:=Option.some.inj hv
    obtain⟨cs,dM,_⟩:=R.2
    rcases dM.2 with⟨e,_⟩|⟨g,cap,cur,e,_,hg,_⟩
    · cases e
    · cases e;exact⟨_,hg,rfl⟩
  · obtain ⟨g, hg, vs, NV, _⟩ := M.boxes i bx (by simp [Mem.box?, h1])
    have hg:bb[i]? =some (some g):=hg
    rw[h2]at hg
    cases hg
    exact⟨_,NV,rfl⟩
theorem J8 (M:aC W may ⟨[.slice A L Q],bb⟩ ⟨[some (nG zs)],bs⟩):L=zs.length∧∃cs,W.ownsRow 0 68 16 (.slice A L Q) zs.length cs∧aY W (o7 (ay ⟨[.slice A L Q],bb⟩ ⟨[some (nG zs)],bs⟩) may false) fD zs cs:=by
  obtain⟨v,hv,R⟩:=M.sl 0 _ J7 (v0:= .slice A L Q) rfl ⟨_,_,_,rfl⟩
  obtain rfl:=Option.some.inj hv
  obtain⟨cs,dM,lQ⟩:=R.2
  refine⟨?_,cs,dM,lQ⟩
  obtain⟨A',c',e⟩:=ownsRow.slice dM
  cases e;rfl
theorem UN (M:aC W may ⟨[.slice A L Q],bb⟩ ⟨[some (nG zs)],bs⟩)(Vu:∀(i:Nat)(bx:pF),bs[i]? =some (some bx)→∀l∈bx.ls,l.L_=true){row:Option Nat}(hg:W.grownBy W' row)(hr:∀r,row=some r→∃o:Obj,W.heap[r]? =some o∧o.isCells=false):
    aC W' may ⟨[.slice A L Q],bb⟩ ⟨[some (nG zs)],bs⟩:=by
  have hc:∀(p:Addr) (v:Value),W.cell? p=some v→W'.cell? p=some v:=fun p v h=>cell_kept h hg hr
  obtain⟨_,cs,dM,lQ⟩:=J8 M
  refine⟨M.lX,M.jc,fun i row' e=> ?_,fun i bx e=> ?_,M.qp,fun x b h=>⟨(M.fH x b h).1,Nat.lt_of_lt_of_le (M.fH x b h).2 hg.size⟩,M.free⟩
  · cases i with
    |succ i=>rw[F7]at e;cases e
    |zero=>
      rw[J7]at e
      cases e
      refine⟨_,rfl,.inl ⟨⟨_,_,_,rfl⟩,cs,dM.kept hg ?_,lQ.IX hg.size hc (by kernel_rfl)⟩⟩
      cases row with
      |none=>
        cases A with
        |none=>exact .inl rfl
        |some a=>exact .inr (by simp[Value.ownBlock])
      |some r=>
        obtain⟨o,ho,hn⟩:=hr r rfl
        refine .inr fun e=> ?_
        rcases dM.2 with⟨e2,_⟩|⟨g,cap,cur,e2,_,hgg,_⟩
        · rw[e2]at e;cases e
        · rw [e2] at e
          cases e
          rw[hgg]at ho
          cases ho
          cases hn
  · obtain ⟨g, hgb, vs, NV, hF⟩ := M.boxes i bx e
    have e':bs[i]? =some (some bx):=by
      simp only[Mem.box?]at e
      obtain⟨o,ho,rfl⟩:=Option.bind_eq_some_iff.1 e
      exact ho
    refine⟨g,hgb,vs,(grownBy_keeps_cells hg hr NV rfl).trans NV,hF.imp_mem fun l v hl h=> ?_⟩
    cases l with
    |val f k x=>exact Rd.IX hg.size hc (Vu i bx e' _ hl) h
    |nil=>exact h
    |own q=>exact h
theorem acG {ow:Ow}{m:Mem}(M:aC W may ow m):aC W (fun _=>True) ow m:=by
  have hf:∀{ok:Nat→Prop} {f:Bool} (b:Nat),o7 ok may f b→o7 ok (fun _=>True) f b:=fun b h=>⟨h.1,fun _=>trivial⟩
  refine⟨M.lX,M.jc,fun i row e=> ?_,fun i bx e=> ?_,M.qp,fun x b h=>⟨trivial,(M.fH x b h).2⟩,M.free⟩
  · obtain ⟨v, hv, R⟩ := M.rows i row e
    refine⟨v,hv,?_⟩
    rcases R with⟨h1,R⟩|⟨g,xs,e1,e2,R⟩
    · refine .inl ⟨h1, ?_⟩
      by_cases hw:row.rw=true
      · rw [if_pos hw] at R ⊢
        obtain⟨cs,h3,h4⟩:=R
        exact⟨cs,h3,h4.aW (iF.mono fun b _ h=>hf b h)⟩
      · rw [if_neg hw] at R ⊢
        exact R.mono hf
    · exact .inr ⟨g,xs,e1,e2,R⟩
  · obtain ⟨g, hgb, vs, NV, hF⟩ := M.boxes i bx e
    refine⟨g,hgb,vs,NV,hF.imp fun l v h=> ?_⟩
    cases l with
    |val f k x=>exact Rd.mono (fun b h=>hf b h) h
    |nil=>exact h
    |own q=>exact h
end
end Tryz
end Go.Fx

namespace Go.Fx.Tryz
open Go Go.RowKit Go.Fx Go.Proofs
section
variable (w0:World) (A:Option Addr) (L Q:Nat)
structure FX (W:World):Prop where
  same:∀b,b<w0.heap.size→wU A b→W.heap[b]? =w0.heap[b]?
  size:w0.heap.size+3≤W.heap.size
  os:W.os=w0.os
  tape:W.tape=w0.tape
  output:W.output=w0.output
def gV:Ow:=⟨[.slice A L Q],[some w0.heap.size,some (w0.heap.size+1)]⟩
def qA (g:Nat):Ow:=⟨[.slice A L Q],[some w0.heap.size,some (w0.heap.size+1),some g]⟩
def GI (zs:bC)(W:World):Prop:=aC W (fun _=>True) (gV w0 A L Q) (pz zs)∧FX w0 A W
def KpG (W W':World):Prop:=∀b,b<w0.heap.size+3→wU A b→b≠w0.heap.size→b≠w0.heap.size+1→W'.heap[b]? =W.heap[b]?
def AxG (x:bZ)(zs:bC)(a:Act)(W:World):Prop:=∃g,a.tmps.size=50∧a.tmps.getD 2 undef= .pointer (some ⟨w0.heap.size,0,none⟩)∧a.tmps.getD 4 undef= .pointer (some ⟨w0.heap.size+1,0,none⟩)∧a.tmps.getD 6 undef= .pointer (some ⟨g,0,none⟩)∧w0.heap.size+3≤g∧
  aC W (fun _=>True) (qA w0 A L Q g) (oJ zs x)
end
section
variable {w0 W W':World} {A:Option Addr} {L Q:Nat} {zs:bC} {may may':Nat→Prop} {bb:List (Option Nat)} {bs:List (Option pF)}
theorem Ad (M:aC W may ⟨[.slice A L Q],bb⟩ ⟨[some (nG zs)],bs⟩){aO:Ow}{m':Mem}(K:dZ may' W ⟨[.slice A L Q],bb⟩ ⟨[some (nG zs)],bs⟩ W' aO m')(B:Nat):KeepsFrom B W W':=
  ⟨K.size,fun k o _ ho hn=>by
    refine(K.stay k (Array.getElem?_eq_some_iff.1 ho).1 (fun x hx=> ?_)).2.2.trans ho
    obtain⟨o2,ho2,hc⟩:=acF M hx
    rw[ho]at ho2
    cases ho2
    rw[hn]at hc
    cases hc⟩
theorem acH (M:aC W may ⟨[.slice A L Q],bb⟩ ⟨[some (nG zs)],bs⟩){aO:Ow}{m':Mem}(K:dZ may' W ⟨[.slice A L Q],bb⟩ ⟨[some (nG zs)],bs⟩ W' aO m'){b:Nat}(hb:b<W.heap.size)(ho:wU A b)(hn:∀i:Nat,bb[i]?≠some (some b)):W'.heap[b]? =W.heap[b]? :=by
  refine(K.stay b hb (fun x hx=> ?_)).2.2
  rcases Ac hx with⟨_,a,ha,e⟩|⟨i,_,_,_,h⟩
  · exact ho a ha e.symm
  · exact hn i h
theorem FX.step (h:FX w0 A W)(hs:W.heap.size≤W'.heap.size)(H:∀b,b<w0.heap.size→wU A b→W'.heap[b]? =W.heap[b]?)(h1:W'.os=W.os)(h2:W'.tape=W.tape)(h3:W'.output=W.output):FX w0 A W':=
  ⟨fun b hb ho=>(H b hb ho).trans (h.same b hb ho),Nat.le_trans h.size hs,h1.trans h.os,h2.trans h.tape,h3.trans h.output⟩
theorem FX.grown (h:FX w0 A W){B:Nat}(hB:w0.heap.size≤B){row:Option Nat}(hg:W.grownBy W' row)(hr:∀r,row=some r→B≤r∧∃o:Obj,W.heap[r]? =some o∧o.isCells=false):FX w0 A W':=
  h.step hg.size (fun b hb _=>hg.block b (by have:=h.size;omega) (fun e=>by have:=(hr b e.symm).1;omega)) hg.os hg.tape hg.output
theorem af6 (i:Nat)(bx:pF)(h:(pz zs).boxes[i]? =some (some bx)):∀l∈bx.ls,l.L_=true:=by
  match i with
  |0=>cases h;simp[aT.L_]
  |1=>cases h;simp[aT.L_,K.L_]
  |i+2=>simp[pz]at h
theorem af7 {x:bZ}(i:Nat)(bx:pF)(h:(oJ zs x).boxes[i]? =some (some bx)):∀l∈bx.ls,l.L_=true:=by
  match i with
  |0=>cases h;simp[aT.L_]
  |1=>cases h;simp[aT.L_,K.L_]
  |2=>cases h;exact H8 false fU x (by kernel_rfl)
  |i+3=>simp[oJ]at h
theorem GI.grown (h:GI w0 A L Q zs W){B:Nat}(hB:w0.heap.size≤B){row:Option Nat}(hg:W.grownBy W' row)(hr:∀r,row=some r→B≤r∧∃o:Obj,W.heap[r]? =some o∧o.isCells=false):GI w0 A L Q zs W':=
  ⟨UN h.1 (af6 (zs:=zs)) hg fun r e=>(hr r e).2,h.2.grown hB hg hr⟩
theorem AxG.grown {x:bZ}{a:Act}(h:AxG w0 A L Q x zs a W){row:Option Nat}(hg:W.grownBy W' row)(hr:∀r,row=some r→∃o:Obj,W.heap[r]? =some o∧o.isCells=false):AxG w0 A L Q x zs a W':=
  let⟨g,h1,h2,h3,h4,h5,h6⟩:=h
  ⟨g,h1,h2,h3,h4,h5,UN h6 (af7 (zs:=zs) (x:=x)) hg hr⟩
theorem acI {ow:Ow}{m:Mem}(hA:∀a,A=some a→a.block<w0.heap.size)(M:aC W (fun _=>True) ow m)(hv:ow.rv[0]? =some (.slice A L Q))(h0:ow.bb[0]? =some (some w0.heap.size))(h1:ow.bb[1]? =some (some (w0.heap.size+1)))
    (r0:m.row? 0=some (nG zs)) (b0:m.box? 0=some ⟨29,[.own 0]⟩) {f:Bool} (b1:m.box? 1=some ⟨4,[.val f .bool false]⟩):aC W (fun _=>True) (gV w0 A L Q) (pz zs):=by
  have sub:∀x b,eG (gV w0 A L Q) (pz zs) x=some b→eG ow m x=some b∧((∃a,A=some a∧a.block=b∧x= .row 0)∨(b=w0.heap.size∧x= .box 0)∨(b=w0.heap.size+1∧x= .box 1)):=fun x b h=>by
    rcases Ac h with⟨rfl,a,rfl,rfl⟩|⟨i,bx,rfl,e1,e2⟩
    · exact⟨fF r0 hv rfl,.inl ⟨a,rfl,rfl,rfl⟩⟩
    · match i with
      |0=>cases e2;exact⟨jf b0 h0,.inr (.inl ⟨rfl,rfl⟩)⟩
      |1=>cases e2;exact⟨jf b1 h1,.inr (.inr ⟨rfl,rfl⟩)⟩
      |i+2=>simp at e2
  have ok:∀b,ay ow m b→ay (gV w0 A L Q) (pz zs) b:=fun b h x hx=>h x (sub x b hx).1
  refine⟨rfl,rfl,fun i row e=> ?_,fun i bx e=> ?_,fun x y b hx hy=>M.qp x y b (sub x b hx).1 (sub y b hy).1,fun x b hx=>M.fH x b (sub x b hx).1,fun i hi e=> ?_⟩
  · cases i with
    |succ i=>rw[show (pz zs).row? (i+1)=none from F7 i]at e;cases e
    |zero=>
      cases e
      obtain⟨v,Cm,R⟩:=M.sl 0 _ r0 hv ⟨_,_,_,rfl⟩
      obtain rfl:=Option.some.inj (hv.symm.trans Cm)
      obtain⟨_,cs,dM,lQ⟩:=R
      exact⟨_,rfl,.inl ⟨⟨_,_,_,rfl⟩,cs,dM,lQ.aW (iF.mono fun b _ h=>⟨ok b h.1,fun _=>trivial⟩)⟩⟩
  · match i with
    |0=>
      cases e
      obtain⟨g,hg,vs,NV,hF⟩:=M.boxes 0 _ b0
      rw[h0]at hg
      cases hg
      match vs,hF with
      |[v],⟨h,_⟩=>
        have h:ow.rv[0]? =some v∧_:=h
        exact⟨_,rfl,[v],NV,⟨(by rw[←h.1,hv];rfl:(gV w0 A L Q).rv[0]? =some v),h.2⟩,trivial⟩
    |1=>
      cases e
      obtain⟨g,hg,vs,NV,hF⟩:=M.boxes 1 _ b1
      rw[h1]at hg
      cases hg
      match vs,hF with
      |[v],⟨h,_⟩=>exact⟨_,rfl,[v],NV,h,trivial⟩
    |i+2=>simp[pz,Mem.box?]at e
  · match i with
    |0=>cases e
    |1=>cases e
    |i+2=>exact absurd (show i+2<2 from hi) (by omega)
theorem ajC {bs:List (Option pF)}(M:aC W (fun _=>True) ⟨[.slice A L Q],bb⟩ ⟨[some (nG zs)],bs⟩)(hfl:∀(i:Nat)(bx:pF),bs[i]? =some (some bx)→∀l∈bx.ls,match l with| .val f k _=>f=false∨k.flat=true|_=>True)
    (H:∀x b,eG ⟨[.slice A L Q],bb⟩ ⟨[some (nG zs)],bs⟩ x=some b→may b):aC W may ⟨[.slice A L Q],bb⟩ ⟨[some (nG zs)],bs⟩:=by
  obtain⟨_,cs,dM,lQ⟩:=J8 M
  refine⟨M.lX,M.jc,fun i row' e=> ?_,fun i bx e=> ?_,M.qp,fun x b h=>⟨H x b h,(M.fH x b h).2⟩,M.free⟩
  · cases i with
    |succ i=>rw[F7]at e;cases e
    |zero=>
      rw[J7]at e
      cases e
      exact⟨_,rfl,.inl ⟨⟨_,_,_,rfl⟩,cs,dM,lQ.aW (iF.mono fun b _ h=>⟨h.1,fun e=>by cases e⟩)⟩⟩
  · obtain ⟨g, hgb, vs, NV, hF⟩ := M.boxes i bx e
    have e':bs[i]? =some (some bx):=by
      simp only[Mem.box?]at e
      obtain⟨o,ho,rfl⟩:=Option.bind_eq_some_iff.1 e
      exact ho
    refine⟨g,hgb,vs,NV,hF.imp_mem fun l v hl h=> ?_⟩
    have h9:=hfl i bx e' l hl
    cases l with
    |val f k x=>
      rcases h9 with rfl|hk
      · exact Rd.mono (fun b hb=>⟨hb.1,fun e=>by cases e⟩) h
      · exact Rd.flat hk h
    |nil=>exact h
    |own q=>exact h
theorem acJ (i:Nat)(bx:pF)(h:(pz zs).boxes[i]? =some (some bx)):∀l∈bx.ls,match l with| .val f k _=>f=false∨k.flat=true|_=>True:=by
  match i with
  |0=>cases h;simp
  |1=>cases h;simp[K.flat]
  |i+2=>simp[pz]at h
theorem Yg {ow:Ow}{m:Mem}(h:∀b,W.heap.size≤b→may b):Live af4 may W ow m:=⟨h,fun g tb e=>(by cases e),fun g tb e=>(by cases e)⟩
theorem amJ {ow:Ow}{v:Value}{a b:Nat}(h1:ow.rv.length=1)(h2:ow.bb.length=3)(h3:ow.rv[0]? =some v)(h4:ow.bb[0]? =some (some a))(h5:ow.bb[1]? =some (some b)){g:Nat}(h6:ow.bb[2]? =some (some g)):ow=⟨[v],[some a,some b,some g]⟩:=by
  obtain⟨rv,bb⟩:=ow
  match rv,h1,h3 with
  |[u],_,h3=>
    cases h3
    match bb,h2,h4,h5,h6 with
    |[x,y,z],_,h4,h5,h6=>cases h4;cases h5;cases h6;rfl
set_option maxRecDepth 20000 in
theorem Z7 {l n:Nat}(hA:∀a,A=some a→a.block<w0.heap.size)(h:GI w0 A L Q zs W){x:bZ}{cells:List Value}(hx:Rd w0 (wU A) fU x cells){a:Act}(hN:a.tmps.size=50)(t2:a.tmps.getD 2 undef= .pointer (some ⟨w0.heap.size,0,none⟩))
    (t4:a.tmps.getD 4 undef= .pointer (some ⟨w0.heap.size+1,0,none⟩)) (t12:a.tmps.getD 12 undef= .agg cells.toArray) {K:Act→World→Prop} (hK:∀a' W',(∀B,KeepsFrom B W W')→KpG w0 A W W'→GI w0 A L Q zs W'→AxG w0 A L Q x zs a' W'→K a' W'):
    C_.1.wpIn (Fence.wide.inRound l) n Tryz.prog (Exit.then K (fun _ _ _=>False)) a W:=by
  obtain⟨may,AP⟩:∃may:Nat→Prop,may=fun b=>b=w0.heap.size∨b=w0.heap.size+1∨(∃a,A=some a∧a.block=b)∨W.heap.size≤b:=⟨_,rfl⟩
  have rU:∀b,W.heap.size≤b→may b:=fun b hb=>by rw[AP];exact .inr (.inr (.inr hb))
  have M:aC W may (gV w0 A L Q) (pz zs):=ajC h.1 (acJ (zs:=zs)) fun y b hb=>by
    rw[AP]
    rcases Ac hb with⟨_,a,ha,e⟩|⟨i,bx,rfl,e1,e2⟩
    · exact .inr (.inr (.inl ⟨a,ha,e⟩))
    · match i with
      |0=>cases e2;exact .inl rfl
      |1=>cases e2;exact .inr (.inl rfl)
      |i+2=>simp at e2
  have lU:∀b,b<w0.heap.size→wU A b→ay (gV w0 A L Q) (pz zs) b:=fun b hb ho y hy=>by
    rcases Ac hy with⟨_,a,ha,e⟩|⟨i,bx,rfl,e1,e2⟩
    · exact ho a ha e.symm
    · match i with
      |0=>cases e2;omega
      |1=>cases e2;omega
      |i+2=>simp at e2
  have hx':Rd W (o7 (ay (gV w0 A L Q) (pz zs)) may false) fU x cells:=hx.aW fun b hb ho=>⟨⟨lU b hb ho,fun e=>by cases e⟩,by have:=h.2.size;omega,h.2.same b hb ho⟩
  have F:dw W (ay (gV w0 A L Q) (pz zs)) may (gV w0 A L Q) (UK zs x) a:=fun t=>by
    by_cases e2:t=2
    · subst e2;exact⟨w0.heap.size,rfl,by rw[t2];simp[Addr.add]⟩
    by_cases e4:t=4
    · subst e4;exact⟨w0.heap.size+1,rfl,by rw[t4];simp[Addr.add]⟩
    by_cases e12:t=12
    · subst e12;exact⟨cells,t12,jE hx'⟩
    have nb:∀k,¬t=k→Nat.beq k t=false:=fun k h=>by
      cases hb:Nat.beq k t with
      |false=>rfl
      |true=>exact absurd (Nat.eq_of_beq_eq_true hb).symm h
    have:(UK zs x).get t= .undef:=by simp[S.get,UK,lookup,nb _ e2,nb _ e4,nb _ e12]
    rw[this];trivial
  refine Ea aH ah0 mix 9 C_.1 (UK zs x) a W (gV w0 A L Q) _ _ _ (Yg rU) M F hN (ajz zs x) (fun s' a' w' aO e At=> ?_) (fun s' a' w' aO e At=>by cases e)
  have e:=Option.some.inj e
  simp only[Prod.mk.injEq]at e
  obtain⟨e2,e4,e6,em⟩:=e
  have M':=At.mem
  have F':=At.fr
  have K':=At.aW
  have r2:=dG F' (.tmp 2)
  have r4:=dG F' (.tmp 4)
  have r6:=dG F' (.tmp 6)
  rw[e2]at r2
  rw[e4]at r4
  rw[e6]at r6
  obtain⟨g2,hg2,v2⟩:=r2
  obtain⟨g4,hg4,v4⟩:=r4
  obtain⟨g,hg6,v6⟩:=r6
  rw[em]at M' K'
  have b0:aO.bb[0]? =some (some w0.heap.size):=K'.bb 0 _ rfl
  have b1:aO.bb[1]? =some (some (w0.heap.size+1)):=K'.bb 1 _ rfl
  have AQ:aO.rv[0]? =some (.slice A L Q):=K'.rv 0 _ rfl
  rw[b0]at hg2
  cases hg2
  rw[b1]at hg4
  cases hg4
  have hgm:=M'.fH (.box 2) g (jf (m:=oJ zs x) (b:=2) (bx:=⟨70,bf false fU x⟩) rfl hg6)
  have how:aO=qA w0 A L Q g:=amJ M'.lX M'.jc AQ b0 b1 hg6
  have hge:w0.heap.size+3≤g:=by
    have hd:∀y,y≠Th.box 2→eG aO (oJ zs x) y≠some g:=fun y hy hb=>hy (M'.qp y (.box 2) g hb (jf (m:=oJ zs x) (b:=2) (bx:=⟨70,bf false fU x⟩) rfl hg6))
    have hs:=h.2.size
    have hm:=hgm.1
    rw[AP]at hm
    rcases hm with e|e|⟨ad,e1,e2⟩|e
    · exact absurd (by rw[e];exact jf (m:=oJ zs x) (b:=0) rfl b0) (hd (.box 0) (by simp))
    · exact absurd (by rw[e];exact jf (m:=oJ zs x) (b:=1) rfl b1) (hd (.box 1) (by simp))
    · exact absurd (by rw[fF (m:=oJ zs x) (r:=0) rfl AQ rfl,e1,←e2];rfl) (hd (.row 0) (by simp))
    · omega
  have NH:∀b,b<W.heap.size→wU A b→b≠w0.heap.size→b≠w0.heap.size+1→w'.heap[b]? =W.heap[b]? :=fun b hb ho n0 n1=>acH M K' hb ho fun i=>by
    match i with
    |0=>intro e;cases e;exact n0 rfl
    |1=>intro e;cases e;exact n1 rfl
    |i+2=>simp
  refine hK a' w' (Ad M K') (fun b hb ho n0 n1=>NH b (by have:=h.2.size;omega) ho n0 n1) ⟨acI hA (acG M') AQ b0 b1 rfl rfl rfl,h.2.step K'.size (fun b hb ho=>NH b (by have:=h.2.size;omega) ho (by omega) (by omega)) K'.os K'.tape K'.output⟩
    ⟨g,At.size,v2.trans (by simp[Addr.add]),v4.trans (by simp[Addr.add]),v6.trans (by simp[Addr.add]),hge,?_⟩
  rw[←how]
  exact acG M'
set_option maxRecDepth 20000 in
theorem W9 {l n:Nat}(hA:∀a,A=some a→a.block<w0.heap.size)(hX:FX w0 A W){x:bZ}{a:Act}(hx:AxG w0 A L Q x zs a W){r:Sum bC Bool}(hr:Ee zs x=some r){P:Exit→Act→World→Prop}
    (h1:∀zs' a' W',r= .inl zs'→(∀B,KeepsFrom B W W')→KpG w0 A W W'→GI w0 A L Q zs' W'→P .normal a' W')
    (h2:∀b a' W',r= .inr b→(∀B,KeepsFrom B W W')→FX w0 A W'→W'.heap[w0.heap.size+1]? =some (.cells #[.bool b] 4 (0,0))→P .ret a' W'):
    C_.2.wpIn (Fence.wide.inRound l) n Tryz.prog P a W:=by
  obtain⟨g,hN,t2,t4,t6,hge,M⟩:=hx
  have Nv:g<W.heap.size:=(M.fH (.box 2) g (jf (m:=oJ zs x) (b:=2) (bx:=⟨70,bf false fU x⟩) rfl rfl)).2
  have F:dw W (ay (qA w0 A L Q g) (oJ zs x)) (fun _=>True) (qA w0 A L Q g) (UL zs x) a:=fun t=>by
    by_cases e2:t=2
    · subst e2;exact⟨w0.heap.size,rfl,by rw[t2];simp[Addr.add]⟩
    by_cases e4:t=4
    · subst e4;exact⟨w0.heap.size+1,rfl,by rw[t4];simp[Addr.add]⟩
    by_cases e6:t=6
    · subst e6;exact⟨g,rfl,by rw[t6];simp[Addr.add]⟩
    have nb:∀k,¬t=k→Nat.beq k t=false:=fun k h=>by
      cases hb:Nat.beq k t with
      |false=>rfl
      |true=>exact absurd (Nat.eq_of_beq_eq_true hb).symm h
    have:(UL zs x).get t= .undef:=by simp[S.get,UL,lookup,nb _ e2,nb _ e4,nb _ e6]
    rw[this];trivial
  have NH:∀{aO:Ow} {m':Mem} {w':World},dZ (fun _=>True) W (qA w0 A L Q g) (oJ zs x) w' aO m'→∀b,b<w0.heap.size+3→wU A b→b≠w0.heap.size→b≠w0.heap.size+1→w'.heap[b]? =W.heap[b]? :=fun K' b hb ho n0 n1=>acH M K' (by have:=hX.size;omega) ho fun i=>by
    match i with
    |0=>intro e;cases e;exact n0 rfl
    |1=>intro e;cases e;exact n1 rfl
    |2=>intro e;cases e;omega
    |i+3=>simp
  refine Ea aH ah0 mix 30 C_.2 (UL zs x) a W (qA w0 A L Q g) _ _ _ (Yg fun _ _=>trivial) M F hN ((af5 zs x).trans hr) (fun s' a' w' aO e At=> ?_) (fun s' a' w' aO e At=> ?_)
  · have M' := At.mem
    have K':=At.aW
    have b0:aO.bb[0]? =some (some w0.heap.size):=K'.bb 0 _ rfl
    have b1:aO.bb[1]? =some (some (w0.heap.size+1)):=K'.bb 1 _ rfl
    have AQ:aO.rv[0]? =some (.slice A L Q):=K'.rv 0 _ rfl
    unfold amH at e
    split at e
    case h_2=>cases e
    rename_i e1 k fr rw_ xs t0 rr t1 f b hr0 VX wQ
    obtain⟨hc,e9⟩:=aG e
    simp only[Bool.and_eq_true,Bool.not_eq_true']at hc
    obtain⟨⟨⟨⟨⟨⟨c1,c2⟩,c3⟩,c4⟩,c5⟩,c6⟩,c7⟩:=hc
    obtain rfl:=Nat.eq_of_beq_eq_true c1
    obtain rfl:=Nat.eq_of_beq_eq_true c4
    obtain rfl:=Nat.eq_of_beq_eq_true c5
    obtain rfl:=Nat.eq_of_beq_eq_true c6
    subst c2 c3
    have c8:(b:Bool)=false:=(Bool.not_eq_true' (b:Bool)).mp c7
    subst c8
    obtain⟨zs',hz,rfl⟩:=Option.map_eq_some_iff.1 e9
    obtain⟨e3,e4⟩:=dP hz
    injection e3 with _ e3
    subst e3
    have e4:xs=zs':=e4
    subst e4
    exact h1 xs a' w' rfl (Ad M K') (NH K') ⟨acI hA M' AQ b0 b1 hr0 VX wQ,hX.step K'.size (fun b hb ho=>NH K' b (by omega) ho (by omega) (by omega)) K'.os K'.tape K'.output⟩
  · have M' := At.mem
    have K':=At.aW
    have b1:aO.bb[1]? =some (some (w0.heap.size+1)):=K'.bb 1 _ rfl
    unfold amI at e
    split at e
    case h_2=>cases e
    rename_i t1 f b wQ
    obtain⟨hc,e⟩:=aG e
    obtain rfl:=Nat.eq_of_beq_eq_true hc
    cases e
    obtain⟨g',hg,vs,NV,hF⟩:=M'.boxes 1 _ wQ
    rw[b1]at hg
    cases hg
    match vs,hF with
    |[v],⟨h,_⟩=>
      have h:[v]=[Value.bool b]:=h
      cases h
      exact h2 b a' w' rfl (Ad M K') (hX.step K'.size (fun b hb ho=>NH K' b (by omega) ho (by omega) (by omega)) K'.os K'.tape K'.output) NV
end
attribute [local go_sem] Oper.semAt_some
noncomputable def gbk:bC→List bZ→Option Bool
  |zs,[]=>some true
  |zs,x::r=>match Ee zs x with
    |some (.inl zs')=>gbk zs' r
    |some (.inr b)=>some b
    |none=>none
def Tot (zs:bC)(l:List bZ):Prop:=∃G:bC→Prop,G zs∧∀zs' x,G zs'→x∈l→∃r,Ee zs' x=some r∧∀zs2,r= .inl zs2→G zs2
open Classical in
noncomputable def Ph (zs:List dJ)(x:List bZ×Unit):Option (Bool×Unit):=if x.1.length<4611686018427387904∧Tot zs x.1 then(gbk zs x.1.reverse).map fun b=>(b,())else none
theorem ah1:∃f:List dJ→List bZ×Unit→Option (Bool×Unit),∀zs x,f zs x=Ph zs x:=⟨Ph,fun _ _=>rfl⟩
noncomputable def fG.fn:List dJ→List bZ×Unit→Option (Bool×Unit):=Classical.choose ah1
theorem fG.ah2 (zs:List dJ)(x:List bZ×Unit):fG.fn zs x=Ph zs x:=Classical.choose_spec ah1 zs x
noncomputable def fG.Sz:Oth:= .gv ⟨68,fD,[(false,.sl 70 fU)],[(false,.bool)],fG.fn⟩
theorem af8 {w0 W:World}{A:Option Addr}{L Q:Nat}{zs:bC}{cs:List Value}(hA:∀a,A=some a→a.block<w0.heap.size)(dM:w0.ownsRow 0 68 16 (.slice A L Q) zs.length cs)(lQ:aY w0 (wU A) fD zs cs)(hs:w0.heap.size+3≤W.heap.size)
    (FH:∀b,b<w0.heap.size→W.heap[b]? =w0.heap[b]?) (hl:W.heap[w0.heap.size]? =some (.cells #[.slice A L Q] 29 (0,0))) (hr:W.heap[w0.heap.size+1]? =some (.cells #[.bool false] 4 (0,0))) (h1:W.os=w0.os) (h2:W.tape=w0.tape) (h3:W.output=w0.output):GI w0 A L Q zs W:=by
  have lU:∀b,b<w0.heap.size→wU A b→ay (gV w0 A L Q) (pz zs) b:=fun b hb ho y hy=>by
    rcases Ac hy with⟨_,a,ha,e⟩|⟨i,bx,rfl,e1,e2⟩
    · exact ho a ha e.symm
    · match i with
      |0=>cases e2;omega
      |1=>cases e2;omega
      |i+2=>simp at e2
  have xU:W.ownsRow 0 68 16 (.slice A L Q) zs.length cs:=by
    refine⟨dM.1,?_⟩
    rcases dM.2 with hn|⟨g,cap,cur,e,hb,hgg,rest⟩
    · exact .inl hn
    · refine .inr ⟨g, cap, cur, e, hb, ?_, rest⟩
      cases e
      rw[FH g (hA _ rfl)];exact hgg
  refine⟨⟨rfl,rfl,fun i row e=> ?_,fun i bx e=> ?_,fun x y b hx hy=> ?_,fun x b hx=>⟨trivial,?_⟩,fun i hi e=> ?_⟩,⟨fun b hb _=>FH b hb,hs,h1,h2,h3⟩⟩
  · cases i with
    |succ i=>rw[show (pz zs).row? (i+1)=none from F7 i]at e;cases e
    |zero=>
      cases e
      exact⟨_,rfl,.inl ⟨⟨_,_,_,rfl⟩,cs,xU,lQ.aW fun b hb ho=>⟨⟨lU b hb ho,fun _=>trivial⟩,by omega,FH b hb⟩⟩⟩
  · match i with
    |0=>cases e;exact⟨_,rfl,[.slice A L Q],hl,⟨rfl,_,_,_,rfl⟩,trivial⟩
    |1=>cases e;exact⟨_,rfl,[.bool false],hr,rfl,trivial⟩
    |i+2=>simp[pz,Mem.box?]at e
  · rcases Ac hx with ⟨rfl, a, ha, e⟩ | ⟨i, bx, rfl, e1, e2⟩ <;> rcases Ac hy with ⟨rfl, a', ha', e'⟩ | ⟨j, bx', rfl, e1', e2'⟩
    · rfl
    · have := hA a ha
      match j with
      |0=>cases e2';omega
      |1=>cases e2';omega
      |j+2=>simp at e2'
    · have := hA a' ha'
      match i with
      |0=>cases e2;omega
      |1=>cases e2;omega
      |i+2=>simp at e2
    · match i, j with
      |0,0=>rfl
      |1,1=>rfl
      |0,1=>cases e2;simp at e2'
      |1,0=>cases e2;simp at e2'
      |i+2,_=>simp at e2
      |_,j+2=>simp at e2'
  · rcases Ac hx with ⟨rfl, a, ha, e⟩ | ⟨i, bx, rfl, e1, e2⟩
    · have:=hA a ha;omega
    · match i with
      |0=>cases e2;omega
      |1=>cases e2;omega
      |i+2=>simp at e2
  · match i with
    |0=>cases e
    |1=>cases e
    |i+2=>exact absurd (show i+2<2 from hi) (by omega)
theorem af9 {w0 W:World}{A:Option Addr}{L Q:Nat}{zs zs':bC}{x:bZ}{a:Act}(h:GI w0 A L Q zs W)(k:AxG w0 A L Q x zs' a W):zs'=zs:=by
  obtain⟨g,_,_,_,_,_,M⟩:=k
  obtain⟨e,cs,dM,lQ⟩:=J8 h.1
  have M2:aC W (fun _=>True) ⟨[.slice A L Q],(qA w0 A L Q g).bb⟩ ⟨[some (nG zs')],(oJ zs' x).boxes⟩:=M
  obtain⟨e',cs',xU,aru⟩:=J8 M2
  subst e
  rw[←e']at xU
  obtain rfl:=UM dM xU
  exact aY.inj (by kernel_rfl) e'.symm aru lQ
theorem DC {fn:Func}(h:fn.results= #[.cell 4 4]){tmps:Array Value}{g:Nat}{v:Value}{w:World}(ht:tmps.getD 4 undef= .pointer (some ⟨g,0,none⟩))(hc:w.cell? ⟨g,0,none⟩=some v):(results fn tmps).run Tryz.prog w= .ok v w:=by
  have ht':tmps[4]?.getD undef= .pointer (some ⟨g,0,none⟩):=by simpa using ht
  simp[results,h,go_sem,ht',hc]
abbrev gbA (w:World)(A:Option Addr)(l:List bZ):Type:={p:Nat×bZ×List Value // p.2.1∈l∧Rd w (wU A) fU p.2.1 p.2.2}
def gbD {w:World}{A:Option Addr}{l:List bZ}(p:gbA w A l):bZ:=p.1.2.1
set_option maxRecDepth 100000 in
set_option maxHeartbeats 4000000 in
theorem Mc (w:World)(zs:List dJ)(l:List bZ)(b0:Bool)(A:Option Addr)(L Q:Nat)(cs:List Value)(hlen:l.length<4611686018427387904)(G:bC→Prop)(hG0:G zs)(hG:∀zs' x,G zs'→x∈l→∃r,Ee zs' x=some r∧∀zs2,r= .inl zs2→G zs2)(yC:gbk zs l.reverse=some b0)
    (dM:w.ownsRow 0 68 16 (.slice A L Q) zs.length cs) (lQ:aY w (wU A) fD zs cs) (Al:Option Addr) (c:Nat) (KR:∀(i:Nat) (x:bZ),l[i]? =some x→∃ad es,Al=some ad∧ad.block<w.heap.size∧wU A ad.block∧Rd w (wU A) fU x es∧∀(j:Nat) (v:Value),es[j]? =some v→w.cell? (ad.add (i*11+j))=some v):
    CallsIn Fence.wide 6 Tryz.prog 50 #[.slice A L Q,.slice Al l.length c] w fun e w'=>e= .returned (.bool b0)∧FX w A w':=by
  have hA:∀a,A=some a→a.block<w.heap.size:=fun a e=>by
    subst e
    rcases dM.2 with⟨e,_⟩|⟨g,cap,cur,e,_,hg,_⟩
    · cases e
    · cases e;exact(Array.getElem?_eq_some_iff.1 hg).1
  have hch:∀i:Nat,∃es:List Value,∀x,l[i]? =some x→∃ad,Al=some ad∧ad.block<w.heap.size∧wU A ad.block∧Rd w (wU A) fU x es∧∀(j:Nat) (v:Value),es[j]? =some v→w.cell? (ad.add (i*11+j))=some v:=fun i=>by
    cases hi:l[i]? with
    |none=>exact⟨[],fun x e=>by cases e⟩
    |some x0=>
      obtain⟨ad,es,h⟩:=KR i x0 hi
      exact⟨es,fun x e=>by cases e;exact⟨ad,h⟩⟩
  obtain⟨ce,hce⟩:=Classical.axiomOfChoice hch
  obtain⟨xs,XJ⟩:∃xs:List (gbA w A l),xs=List.ofFn fun i:Fin l.length=>(⟨(i.1,l[i.1],ce i.1),List.getElem_mem i.2,(hce i.1 _ (List.getElem?_eq_getElem i.2)).choose_spec.2.2.2.1⟩:gbA w A l):=⟨_,rfl⟩
  have Jo:xs.length=l.length:=by rw[XJ];simp
  have hxd:xs.map gbD=l:=by
    rw[XJ]
    apply List.ext_getElem (by simp)
    intro i h1 h2
    simp[gbD]
  have hxg:∀(j:Nat) (x:gbA w A l),xs[j]? =some x→x.1=(j,gbD x,ce j)∧(ce j).length=11:=fun j x h=>by
    have hj:j<l.length:=by rw[←Jo];exact(List.getElem?_eq_some_iff.1 h).1
    rw[XJ]at h
    simp only[List.getElem?_ofFn,hj,dif_pos,Option.some.injEq]at h
    subst h
    exact⟨rfl,by obtain⟨_,_,_,_,h4,_⟩:=hce j _ (List.getElem?_eq_getElem hj);exact h4.len⟩
  refine callsIn_of_wp_marks Tryz.func50 rfl trivial ?_ rfl
  simp only[Tryz.ntmps50,List.size_toArray,List.length_cons,List.length_nil,Nat.reduceAdd,Nat.reduceSub,Array.replicate_succ,Array.replicate_zero,List.push_toArray,List.append_toArray,List.nil_append,List.cons_append]
  gi_wp2_with (refine ⟨trivial,?_⟩;gi_at_call 74;refine(amG 5 _ _ _ _).mono ?_;rintro e w' ⟨rfl,rfl⟩)
  have pY:(((w.alloc (.cells #[.slice A L Q] 29)).alloc (.cells #[.bool false] 4)).alloc (.cells #[.slice Al l.length c] 30)).heap.size=w.heap.size+3:=by simp
  have bl:=((Boxed.new w 29 (.slice A L Q)).alloc (.cells #[.bool false] 4)).alloc (.cells #[.slice Al l.length c] 30)
  have br:=(Boxed.new (w.alloc (.cells #[.slice A L Q] 29)) 4 (.bool false)).alloc (.cells #[.slice Al l.length c] 30)
  have bS:=Boxed.new ((w.alloc (.cells #[.slice A L Q] 29)).alloc (.cells #[.bool false] 4)) 30 (.slice Al l.length c)
  have hB0:Below w.heap.size w (((w.alloc (.cells #[.slice A L Q] 29)).alloc (.cells #[.bool false] 4)).alloc (.cells #[.slice Al l.length c] 30)):=(((Below.refl _ w).alloc (Nat.le_refl _) _).alloc (by simp) _).alloc (by simp;omega) _
  rw[World.size_alloc]at br bS
  rw[World.size_alloc]at bS
  try simp only[World.size_alloc]
  generalize hw3:(((w.alloc (.cells #[.slice A L Q] 29)).alloc (.cells #[.bool false] 4)).alloc (.cells #[.slice Al l.length c] 30))=w3 at*
  have KJ:w3.os=w.os:=by rw[←hw3];rfl
  have htp:w3.tape=w.tape:=by rw[←hw3];rfl
  have wR:w3.output=w.output:=by rw[←hw3];rfl
  have hg3:∀(B:Nat) {W:World} {row:Option Nat},(∀r,row=some r→w3.heap.size≤r∧∃o:Obj,W.heap[r]? =some o∧o.isCells=false)→(∀r,row=some r→w.heap.size+3≤r∧∃o:Obj,W.heap[r]? =some o∧o.isCells=false):=fun B W row h r e=>by have:=h r e;rw[pY]at this;exact this
  refine wpIn_rangeFunc_ownH rfl (by omega) (gf:=92) (lb:= #[.pointer (some ⟨w.heap.size+1+1,0,none⟩)]) rfl trivial (enters_of Tryz.func92 (by kernel_rfl) rfl)
    (acE 5 (by omega) (w.heap.size+1+1) c Al xs (by omega) (KpG w A) (fun W b _ _ _ _=>rfl) (fun h k b h1 h2 h3 h4=>(k b h1 h2 h3 h4).trans (h b h1 h2 h3 h4)) ?amL (fun p:gbA w A l=> #[.int .i64 (p.1.1:Int),.agg p.1.2.2.toArray]) ce
      (fun j x h=>by obtain⟨e,h2⟩:=hxg j x h;exact⟨by rw[e],h2⟩) w3 (by omega) (by rw[Jo];exact bS.cell) (fun j hj=>by
        rw[Jo]at hj
        obtain⟨ad,e1,e2,e3,_,e4⟩:=hce j _ (List.getElem?_eq_getElem hj)
        exact⟨ad,e1,by omega,fun i u hu=>(hB0.cell (p:=ad.add (j*11+i)) (by rw[Addr.gU];exact e2)).trans (e4 i u hu)⟩))
    (fun h k b h1 h2 h3 h4=>(k b h1 h2 h3 h4).trans (h b h1 h2 h3 h4)) (fun W i o o' hi _ _ _ b h1 _ _ _=>World.putObj_heap_other (by omega)) (Below.refl _ _) (fun _=>rfl)
    (fun pre W=>∃zs',G zs'∧GI w A L Q zs' W∧∀r,gbk zs (pre.map gbD++r)=gbk zs' r)
    (fun cd pre W=>cd= .ret∧FX w A W∧∃b,W.heap[w.heap.size+1]? =some (.cells #[.bool b] 4 (0,0))∧∀r,gbk zs (pre.map gbD++r)=some b)
    (fun s X Y row ⟨zs',g1,g2,g3⟩ hg hr=>⟨zs',g1,g2.grown (B:=w.heap.size+3) (by omega) hg (hg3 0 hr),g3⟩)
    (fun cd s X Y row ⟨e,h1,b,h2,h3⟩ hg hr=>⟨e,h1.grown (B:=w.heap.size+3) (by omega) hg (hg3 0 hr),b,(grownBy_keeps_cells hg (fun r e=>(hr r e).2) h2 rfl).trans h2,h3⟩)
    ⟨zs,hG0,af8 hA dM lQ (by omega) (fun b hb=>hB0.block b hb) bl br KJ htp wR,fun r=>rfl⟩
    (fun x a' W=>∃zs',AxG w A L Q (gbD x) zs' a' W)
    (fun x a' s X Y row ⟨zs',h⟩ hg hr=>⟨zs',h.grown hg fun r e=>(hr r e).2⟩) ?assign ?body ?done ?stop
  case amL=>
    intro W W' h p v hp hc
    refine(World.cell?_of_block ?_).trans hc
    rcases hp with e|⟨ad,e,e2,h0⟩
    · refine h _ (by omega) (fun a ha => ?_) (by omega) (by omega)
      have:=hA a ha;omega
    · rw [Jo] at h0
      obtain⟨ad',e3,e4,e5,_⟩:=hce 0 _ (List.getElem?_eq_getElem h0)
      rw[e]at e3
      cases e3
      rw[e2]
      exact h _ (by omega) e5 (by omega) (by omega)
  case assign=>
    rintro l0 pre x W K ⟨zs',g1,g2,g3⟩ hK
    exact Z7 hA g2 x.2.2 (by kernel_rfl) (by kernel_rfl) (by kernel_rfl) (by kernel_rfl) fun a' W' h1 h2 h3 h4=>hK a' W' (h1 _) h2 ⟨zs',g1,h3,g3⟩ ⟨zs',h4⟩
  case body=>
    rintro l0 pre x a' W hl av4 ⟨zs',g1,g2,g3⟩ ⟨zs2,hx⟩ acK
    obtain rfl:=af9 g2 hx
    obtain⟨r,hr,hrG⟩:=hG _ (gbD x) g1 x.2.1
    refine W9 hA g2.2 hx hr (fun zs3 a3 W3 e k1 k2 k3=>⟨k1 _,k2,zs3,hrG _ e,k3,fun r'=> ?_⟩) (fun b a3 W3 e k1 k2 k3=>⟨k1 _,rfl,k2,b,k3,fun r'=> ?_⟩)
    · subst e
      rw[List.map_append,List.append_assoc,g3]
      show gbk _ (gbD x::r')=_
      simp only[gbk,hr]
    · subst e
      rw[List.map_append,List.append_assoc,g3]
      show gbk _ (gbD x::r')=_
      simp only[gbk,hr]
  case done=>
    rintro D ys W hD rfl ⟨zs',g1,g2,g3⟩ hK
    have h9:=g3 []
    rw[List.map_reverse,hxd,List.append_nil,yC]at h9
    obtain rfl:=Option.some.inj h9
    obtain⟨g,hg,vs',NV,hF⟩:=g2.1.boxes 1 _ rfl
    cases hg
    obtain rfl:vs'=[Value.bool false]:=by
      match vs',hF with
      |[v],⟨h,_⟩=>
        have h:[v]=[Value.bool false]:=h
        exact h
    have hcr:W.cell? ⟨w.heap.size+1,0,none⟩=some (.bool false):=Boxed.cell NV
    have vF:W.frozen? ⟨w.heap.size+1,0,none⟩=false:=Boxed.frozen NV
    gi_wp2
    have hK':=(KeepsOthers.setCell W ⟨w.heap.size+1,0,none⟩ (.bool true)).same D _ hK rfl
    refine⟨by simp,.inl ⟨_,_,rfl,run_takeDeferred hK',?_⟩⟩
    have hc5:=cell_kept (World.cell?_setCell_same' W ⟨w.heap.size+1,0,none⟩ (.bool true) (by rw[hcr];rfl)) (grownBy_putObj' _ D (.deferred none)) (fun r e=>by cases e;exact⟨_,hK',rfl⟩)
    have VU:=grownBy_setCell' W (w.heap.size+1) (.bool true)
    have h7:FX w A (W.setCell ⟨w.heap.size+1,0,none⟩ (.bool true)):=g2.2.step VU.size (fun b hb _=>VU.block b (by have:=g2.2.size;omega) (by simp;omega)) VU.os VU.tape VU.output
    have h8:FX w A ((W.setCell ⟨w.heap.size+1,0,none⟩ (.bool true)).putObj D (.deferred none)):=h7.grown (B:=w.heap.size+3) (by omega) (grownBy_putObj' _ D (.deferred none)) (fun r e=>by cases e;exact⟨by omega,_,hK',rfl⟩)
    exact⟨.bool true,DC rfl rfl hc5,rfl,h8⟩
  case stop=>
    rintro D cd pre W hD ⟨k,hk,rfl⟩ ⟨rfl,hFX,b,hb,g3⟩ hK
    have h9:=g3 ((xs.reverse.drop k).map gbD)
    rw[←List.map_append,List.take_append_drop,List.map_reverse,hxd,yC]at h9
    obtain rfl:=Option.some.inj h9
    gi_wp2
    refine⟨by simp,.inl ⟨_,_,rfl,run_takeDeferred hK,?_⟩⟩
    have hc5:=cell_kept (Boxed.cell hb) (grownBy_putObj' _ D (.deferred none)) (fun r e=>by cases e;exact⟨_,hK,rfl⟩)
    exact⟨.bool b0,DC rfl rfl hc5,rfl,hFX.grown (B:=w.heap.size+3) (by omega) (grownBy_putObj' _ D (.deferred none)) (fun r e=>by cases e;exact⟨by omega,_,hK,rfl⟩)⟩
theorem fG.ok:XK Tryz.prog 50 fG.Sz:=by
  refine(⟨⟨_,Tryz.func50,by kernel_rfl,by kernel_rfl⟩,?_⟩:afq Tryz.prog 50 ⟨68,fD,[(false,.sl 70 fU)],[(false,.bool)],fG.fn⟩)
  intro w zs x y A L Q cs vs hfn dM lQ wV
  obtain⟨l,u⟩:=x
  obtain⟨sv,vr,rfl,ND,hvr⟩:=wV
  have hvr:vr=[]:=hvr
  subst hvr
  have hfn:Ph zs (l,u)=some y:=(fG.ah2 zs (l,u)).symm.trans hfn
  unfold Ph at hfn
  split at hfn
  case isFalse=>cases hfn
  rename_i hc
  obtain⟨hlen,G,hG0,hG⟩:=hc
  obtain⟨b,hb,rfl⟩:=Option.map_eq_some_iff.1 hfn
  have ND:alg w (wU A) 11 (Rd w (wU A) fU) l [sv]:=ND
  obtain⟨Al,c,e,_,KR⟩:=ND
  cases e
  refine(callsIn_wide.1 (Mc w zs l b A L Q cs hlen G hG0 hG hb dM lQ Al c KR)).mono fun e w' ⟨he,hX⟩=> ?_
  exact⟨.bool b,_,he,rfl,fun ok may ow m=>(rfl:[Value.bool b]=[Value.bool b]),by have:=hX.size;omega,hX.os,hX.tape,hX.output,hX.same⟩
end Go.Fx.Tryz
