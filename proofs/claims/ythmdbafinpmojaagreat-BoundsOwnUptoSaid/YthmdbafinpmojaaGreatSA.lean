import Derived.Test.YthmdbafinpmojaaGreatWA
import Derived.Test.YthmdbafinpmojaaGreatW08c
import Derived.Test.YthmdbafinpmojaaGreatW08d
import Derived.IntWalk
import Derived.Tactics
set_option linter.unusedVariables false
set_option linter.unusedSimpArgs false
namespace Go.Fx.Tryz
open Go Go.Proofs Go.Fx Go.RowKit
set_option maxRecDepth 100000
def Iq:dH:=T
theorem lK:aZ Tryz.prog Iq:=aH
noncomputable def qc:ak:=ak.cons 54 Ae.sig (ak.base aJ)
theorem qK:ah Tryz.prog qc:=ah.cons Ae.bU (ah.base aX)
def Mk (i k:Int):Int:=IntKind.u32.wrap ((2768240640:Int)+IntKind.u32.wrap (IntKind.i64.wrap (IntKind.i64.wrap (i*(4096:Int))+k)))
theorem RH (i k:Int):Ae.F (i,k,())=some (Mk i k,()):=Ae.of 0 i k rfl
noncomputable def rS (j:Nat):Code:=akc Tryz.f19 j
abbrev Jf (vs:List Value):SV:= .one (.lf (.val true (.sl 37 .hd) vs))
abbrev uM (xs:List (List Int)):SV:= .one (.lf (.val true (.sl 37 (.sl 114 (.int .u32))) xs))
abbrev iJ (xs:List Int):Row:=⟨114,.int .u32,true,true,xs⟩
abbrev jO (gs:List Value):Row:=⟨37,.hd,true,true,gs⟩
abbrev oL (r:Nat):SV:= .one (.lf (.own r))
noncomputable def hA:Code:= .seq (rS 2) (.cond (.tmp 15) .skip (.exit 0))
theorem eA (vs:List Value)(i:Int):GR qc Iq 107 9 hA ⟨[(0,Jf vs),(3,ci .i64 i)],⟨[],[]⟩⟩ [0,3]=bif decide (i<(List.length vs:Int))then some (.nrm [Jf vs,ci .i64 i] ⟨[],[]⟩)else some (.ext 0 [Jf vs,ci .i64 i] ⟨[],[]⟩):=by kernel_rfl
theorem e4 (vs:List Value)(i:Int):GR qc Iq 107 9 (rS 4) ⟨[(0,Jf vs),(3,ci .i64 i)],⟨[],[]⟩⟩ [0,3,4]=some (.nrm [Jf vs,ci .i64 i,ci .i64 0] ⟨[],[]⟩):=by kernel_rfl
theorem e3 (vs:List Value)(i:Int):GR qc Iq 107 9 (rS 3) ⟨[(0,Jf vs),(3,ci .i64 i)],⟨[],[]⟩⟩ [0,3]=some (.nrm [Jf vs,ci .i64 (IntKind.i64.wrap (i+1))] ⟨[],[]⟩):=by kernel_rfl
noncomputable def cAi:Code:= .seq (.seq (rS 5) (.cond (.tmp 24) .skip (.exit 2))) (.seq (.block 3 (rS 7)) (rS 6))
theorem eAi (vs:List Value)(i k:Int)(zs:List Int):GR qc Iq 107 19 cAi ⟨[(0,.sK 37 vs i 0),(3,ci .i64 i),(4,ci .i64 k)],⟨[some (iJ zs)],[]⟩⟩ [0,3,4]=
  bif decide (i=i)then(bif decide (k<(List.length zs:Int))then(bif decide (i=i)then((Ae.F (i,k,())).bind fun v=>bif decide (0≤k)&&decide (k<(List.length zs:Int))then some (.nrm [.sK 37 vs i 0,ci .i64 i,ci .i64 (IntKind.i64.wrap (k+1))] ⟨[some (iJ (List.set zs k.toNat v.1))],[]⟩)else none)else none)
  else some (.ext 2 [.sK 37 vs i 0,ci .i64 i,ci .i64 k] ⟨[some (iJ zs)],[]⟩))else none:=by kernel_rfl
theorem e8 (vs:List Value):GR qc Iq 107 9 (rS 8) ⟨[(0,Jf vs)],⟨[],[]⟩⟩ [0,5]=some (.nrm [Jf vs,.one (.lf .nil)] ⟨[],[]⟩):=by kernel_rfl
theorem e9 (vs gs:List Value):GR qc Iq 107 9 (rS 9) ⟨[(0,Jf vs),(5,oL 0)],⟨[some (jO gs)],[]⟩⟩ [0,5,6]=some (.nrm [Jf vs,oL 0,ci .i64 0] ⟨[some (jO gs)],[]⟩):=by kernel_rfl
noncomputable def hB:Code:= .seq (rS 10) (.cond (.tmp 39) .skip (.exit 4))
theorem eB (vs gs:List Value)(i:Int):GR qc Iq 107 9 hB ⟨[(0,Jf vs),(5,oL 0),(6,ci .i64 i)],⟨[some (jO gs)],[]⟩⟩ [0,5,6]=bif decide (i<(List.length vs:Int))then some (.nrm [Jf vs,oL 0,ci .i64 i] ⟨[some (jO gs)],[]⟩)else some (.ext 4 [Jf vs,oL 0,ci .i64 i] ⟨[some (jO gs)],[]⟩):=by kernel_rfl
theorem e12 (vs gs:List Value)(i:Int)(zs:List Int):GR qc Iq 107 9 (rS 12) ⟨[(0,.sK 37 vs i 1),(5,oL 0),(6,ci .i64 i)],⟨[some (jO gs),some (iJ zs)],[]⟩⟩ [0,5,6,7]=bif decide (i=i)then some (.nrm [.sK 37 vs i 1,oL 0,ci .i64 i,oL 1] ⟨[some (jO gs),some (iJ zs)],[]⟩)else none:=by kernel_rfl
abbrev rV (u:Value):SV:= .one (.lf (.val true .raw u))
abbrev sG (u:Value)(gs:List Value)(i k:Int)(zs:List Int):S:=⟨[(0,rV u),(5,oL 0),(6,ci .i64 i),(7,oL 1),(8,ci .i64 k)],⟨[some (jO gs),some (iJ zs)],[]⟩⟩
theorem e13 (u:Value)(gs:List Value)(i:Int)(zs:List Int):GR qc Iq 107 9 (rS 13) ⟨[(0,rV u),(5,oL 0),(6,ci .i64 i),(7,oL 1)],⟨[some (jO gs),some (iJ zs)],[]⟩⟩ [0,5,6,7,8]=some (.nrm [rV u,oL 0,ci .i64 i,oL 1,ci .i64 0] ⟨[some (jO gs),some (iJ zs)],[]⟩):=by kernel_rfl
noncomputable def hBi:Code:= .seq (rS 14) (.cond (.tmp 47) .skip (.exit 6))
theorem eBi (u:Value)(gs:List Value)(i k:Int)(zs:List Int):GR qc Iq 107 9 hBi (sG u gs i k zs) [0,5,6,7,8]=bif decide (k<16)then some (.nrm [rV u,oL 0,ci .i64 i,oL 1,ci .i64 k] ⟨[some (jO gs),some (iJ zs)],[]⟩)else some (.ext 6 [rV u,oL 0,ci .i64 i,oL 1,ci .i64 k] ⟨[some (jO gs),some (iJ zs)],[]⟩):=by kernel_rfl
noncomputable def AA:Array Oper:=match rS 16 with
 | .region _ ops _=>ops
 |_=> #[]
theorem arV:rS 16= .region 16 AA false:=by kernel_rfl
theorem e16 (u:Value)(gs:List Value)(i k:Int)(zs:List Int):nN qc Iq 107 AA.toList (AA.toList.take 6) (sG u gs i k zs) (fun s'=>some (Out.nrm ([0,5,6,8,50,55].map s'.get) s'.m.trim))=
  (Ae.F (i,(List.length zs:Int),())).bind fun v=>some (.nrm [rV u,oL 0,ci .i64 i,ci .i64 k,oL 1,oL 2] ⟨[some (jO gs),some (iJ zs),some (iJ [v.1])],[]⟩):=by kernel_rfl
theorem arW (u:Value)(gs:List Value)(i k:Int)(zs:List Int):nN qc Iq 107 AA.toList (AA.toList.drop 7) ⟨[(0,rV u),(5,oL 0),(6,ci .i64 i),(8,ci .i64 k),(56,oL 1)],⟨[some (jO gs),some (iJ zs)],[]⟩⟩ (fun s'=>some (Out.nrm ([0,5,6,7,8].map s'.get) s'.m.trim))=
  some (.nrm [rV u,oL 0,ci .i64 i,oL 1,ci .i64 k] ⟨[some (jO gs),some (iJ zs)],[]⟩):=by kernel_rfl
theorem o16:∃o,AA[6]? =some o∧o.guard=none∧o.dst=some 56∧o.op= .call {callee:= .builtin .append,args:= #[.tmp 50,.tmp 55],argTypes:= #[37,37]}:=⟨_,rfl,rfl,rfl,rfl⟩
theorem e15 (u:Value)(gs:List Value)(i k:Int)(zs:List Int):GR qc Iq 107 9 (rS 15) (sG u gs i k zs) [0,5,6,7,8]=some (.nrm [rV u,oL 0,ci .i64 i,oL 1,ci .i64 (IntKind.i64.wrap (k+1))] ⟨[some (jO gs),some (iJ zs)],[]⟩):=by kernel_rfl
theorem e17 (u:Value)(gs:List Value)(i:Int)(g:Value):GR qc fB.T 107 9 (rS 17) ⟨[(0,rV u),(5,oL 0),(6,ci .i64 i),(7,.one (.lf (.val true .hd g)))],⟨[some (jO gs)],[]⟩⟩ [0,5,6]=
  bif decide (List.length gs+List.length [g]<zy 24)then some (.nrm [rV u,oL 2,ci .i64 i] ⟨[none,some ⟨37,.hd,true,false,[g]⟩,some (jO (List.append gs [g]))],[]⟩)else none:=by kernel_rfl
theorem e11 (vs gs:List Value)(i:Int):GR qc Iq 107 9 (rS 11) ⟨[(0,Jf vs),(5,oL 0),(6,ci .i64 i)],⟨[some (jO gs)],[]⟩⟩ [0,5,6]=some (.nrm [Jf vs,oL 0,ci .i64 (IntKind.i64.wrap (i+1))] ⟨[some (jO gs)],[]⟩):=by kernel_rfl
theorem e18 (xs gs:List (List Int)):GR qc Iq 107 9 (rS 18) ⟨[(0,uM xs),(5,uM gs)],⟨[],[]⟩⟩ [0,5,9]=some (.nrm [uM xs,uM gs,ci .i64 0] ⟨[],[]⟩):=by kernel_rfl
noncomputable def hC:Code:= .seq (rS 19) (.cond (.tmp 64) .skip (.exit 8))
theorem eC (xs gs:List (List Int))(i:Int):GR qc Iq 107 9 hC ⟨[(0,uM xs),(5,uM gs),(9,ci .i64 i)],⟨[],[]⟩⟩ [0,5,9]=bif decide (i<(List.length xs:Int))then some (.nrm [uM xs,uM gs,ci .i64 i] ⟨[],[]⟩)else some (.ext 8 [uM xs,uM gs,ci .i64 i] ⟨[],[]⟩):=by kernel_rfl
theorem e21 (xs gs:List (List Int))(i:Int):GR qc Iq 107 9 (rS 21) ⟨[(0,uM xs),(5,uM gs),(9,ci .i64 i)],⟨[],[]⟩⟩ [0,5,9,10]=some (.nrm [uM xs,uM gs,ci .i64 i,ci .i64 0] ⟨[],[]⟩):=by kernel_rfl
theorem e26 (xs gs:List (List Int))(i:Int):GR qc Iq 107 9 (rS 26) ⟨[(0,uM xs),(5,uM gs),(9,ci .i64 i)],⟨[],[]⟩⟩ [0,5,9,11]=some (.nrm [uM xs,uM gs,ci .i64 i,ci .i64 0] ⟨[],[]⟩):=by kernel_rfl
theorem e20 (xs gs:List (List Int))(i:Int):GR qc Iq 107 9 (rS 20) ⟨[(0,uM xs),(5,uM gs),(9,ci .i64 i)],⟨[],[]⟩⟩ [0,5,9]=some (.nrm [uM xs,uM gs,ci .i64 (IntKind.i64.wrap (i+1))] ⟨[],[]⟩):=by kernel_rfl
noncomputable def cC1:Code:= .seq (.seq (rS 22) (.cond (.tmp 73) .skip (.exit 10))) (.seq (.block 11 (.seq (rS 24) (.cond (.tmp 86) (.seq (rS 25) .ret) .skip))) (rS 23))
theorem eC1 (xs gs:List (List Int))(i k:Int):GR qc Iq 107 19 cC1 ⟨[(0,uM xs),(5,uM gs),(9,ci .i64 i),(10,ci .i64 k)],⟨[],[]⟩⟩ [0,5,9,10]=
  bif decide (0≤i)&&decide (i<(List.length xs:Int))then(bif decide (k<(List.length (List.getD xs i.toNat []):Int))then(bif decide (0≤i)&&decide (i<(List.length xs:Int))then(bif decide (0≤k)&&decide (k<(List.length (List.getD xs i.toNat []):Int))then((Ae.F (i,k,())).bind fun v=>bif !(List.getD (List.getD xs i.toNat []) k.toNat (0:Int)==v.1)then some (.rt [uM xs,uM gs,ci .i64 i,ci .i64 k] ⟨[],[]⟩)
   else some (.nrm [uM xs,uM gs,ci .i64 i,ci .i64 (IntKind.i64.wrap (k+1))] ⟨[],[]⟩))else none)else none)
  else some (.ext 10 [uM xs,uM gs,ci .i64 i,ci .i64 k] ⟨[],[]⟩))else none:=by kernel_rfl
noncomputable def cC2:Code:= .seq (.seq (rS 27) (.cond (.tmp 93) .skip (.exit 12))) (.seq (.block 13 (.seq (rS 29) (.cond (.tmp 106) (.seq (rS 30) .ret) .skip))) (rS 28))
theorem eC2 (xs gs:List (List Int))(i k:Int):GR qc Iq 107 19 cC2 ⟨[(0,uM xs),(5,uM gs),(9,ci .i64 i),(11,ci .i64 k)],⟨[],[]⟩⟩ [0,5,9,11]=
  bif decide (0≤i)&&decide (i<(List.length gs:Int))then(bif decide (k<(List.length (List.getD gs i.toNat []):Int))then(bif decide (0≤i)&&decide (i<(List.length gs:Int))then(bif decide (0≤k)&&decide (k<(List.length (List.getD gs i.toNat []):Int))then((Ae.F (i,k,())).bind fun v=>bif !(List.getD (List.getD gs i.toNat []) k.toNat (0:Int)==v.1)then some (.rt [uM xs,uM gs,ci .i64 i,ci .i64 k] ⟨[],[]⟩)
   else some (.nrm [uM xs,uM gs,ci .i64 i,ci .i64 (IntKind.i64.wrap (k+1))] ⟨[],[]⟩))else none)else none)
  else some (.ext 12 [uM xs,uM gs,ci .i64 i,ci .i64 k] ⟨[],[]⟩))else none:=by kernel_rfl
theorem e31:GR qc Iq 107 9 (.seq (rS 31) .ret) ⟨[],⟨[],[]⟩⟩ [2]=some (.rt [cb true] ⟨[],[]⟩):=by kernel_rfl
theorem e0 (vs:List Value):GR qc Iq 107 9 (rS 0) ⟨[(0,Jf vs)],⟨[],[]⟩⟩ [0]=some (.nrm [Jf vs] ⟨[],[]⟩):=by kernel_rfl
theorem e1 (vs:List Value):GR qc Iq 107 9 (rS 1) ⟨[(0,Jf vs)],⟨[],[]⟩⟩ [0,3]=some (.nrm [Jf vs,ci .i64 0] ⟨[],[]⟩):=by kernel_rfl
theorem agT:Tryz.f19.body=some (.seq (rS 0) (.seq (.seq (rS 1) (.block 0 (.loop (.seq hA (.seq (.block 1 (.seq (rS 4) (.block 2 (.loop cAi)))) (rS 3)))))) (.seq (rS 8) (.seq (.seq (rS 9) (.block 4 (.loop (.seq hB (.seq (.block 5 (.seq (rS 12) (.seq (.seq (rS 13) (.block 6 (.loop (.seq hBi (.seq (.block 7 (rS 16)) (rS 15)))))) (rS 17)))) (rS 11))))))
  (.seq (.seq (rS 18) (.block 8 (.loop (.seq hC (.seq (.block 9 (.seq (.seq (rS 21) (.block 10 (.loop cC1))) (.seq (rS 26) (.block 12 (.loop cC2))))) (rS 20)))))) (.seq (rS 31) .ret)))))):=by kernel_rfl
set_option maxRecDepth 100000
def sU (vs:List Value)(b:Nat):Prop:=∀v∈vs,v.ownBlock≠some b
structure SpV (w0:World) (vs:List Value):Prop where
 slice:∀v∈vs,∃A n c,v=Value.slice A n c
 lt:∀v∈vs,∀b,v.ownBlock=some b→b<w0.heap.size
 qp:∀(i j:Nat) (v v':Value) (b:Nat),vs[i]? =some v→vs[j]? =some v'→v.ownBlock=some b→v'.ownBlock=some b→i=j
structure VA (w0 w:World) (vs:List Value):Prop where
 size:w0.heap.size≤w.heap.size
 block:∀b,b<w0.heap.size→sU vs b→w.heap[b]? =w0.heap[b]?
 os:w.os=w0.os
 tape:w.tape=w0.tape
 output:w.output=w0.output
def SpR (w:World)(vs:List Value)(xI:List (List Int)):Prop:=
 xI.length=vs.length∧∀(j:Nat) (v:Value) (ys:List Int),vs[j]? =some v→xI[j]? =some ys→w.ownsRow 0 114 1 v ys.length (ys.map (Value.int .u32))
theorem VA.aW {w0 w w':World}{vs:List Value}{may:Nat→Prop}{ow aO:Ow}{m m':Mem}(X:VA w0 w vs)(K:dZ may w ow m w' aO m')(lU:∀b,b<w0.heap.size→sU vs b→ay ow m b):VA w0 w' vs:=
 ⟨Nat.le_trans X.size K.size,fun b hb ho=>(K.stay b (Nat.lt_of_lt_of_le hb X.size) (lU b hb ho)).2.2.trans (X.block b hb ho),K.os.trans X.os,K.tape.trans X.tape,K.output.trans X.output⟩
theorem SpR.aW {w w':World}{vs:List Value}{xI:List (List Int)}(R:SpR w vs xI)(h:∀v∈vs,∀b,v.ownBlock=some b→w'.heap[b]? =w.heap[b]?):SpR w' vs xI:=
 ⟨R.1,fun j v ys hv hy=>gZ (R.2 j v ys hv hy) fun g hg=>h v (List.mem_of_getElem? hv) g hg⟩
theorem _root_.List.set_getElem?_eq {α:Type}:∀{l:List α} {i:Nat} {x:α},l[i]? =some x→l.set i x=l
 |[],i,x,h=>by simp at h
 |y::r,0,x,h=>by simp at h;simp[h]
 |y::r,i+1,x,h=>by simp only[List.set_cons_succ];rw[List.set_getElem?_eq (by simpa using h)]
theorem adF:qc.aJ=Hy:=rfl
theorem Gx {may:Nat→Prop}{w:World}{ow:Ow}{m:Mem}(h:∀b,w.heap.size≤b→may b):Live qc may w ow m:=⟨h,(fun g tb e=>by rw[adF]at e;cases e),(fun g tb e=>by rw[adF]at e;cases e)⟩
theorem SpV.new {w0 w:World}{vs:List Value}(V:SpV w0 vs)(X:VA w0 w vs){b:Nat}(h:w.heap.size≤b):sU vs b:=fun v hv e=>by
 have:=V.lt v hv b e
 have:=X.size
 omega
theorem tu {k:Nat}(h:k<4611686018427387904):IntKind.i64.wrap ((k:Int)+1)=((k+1:Nat):Int):=by rw[IntWalk.i64_in _ (by omega)];omega
theorem akg {vs:List Value}{i:Int}{k:Nat}{zs:List Int}(h:k<zs.length)(hb:zs.length<4611686018427387904):GR qc Iq 107 19 cAi ⟨[(0,.sK 37 vs i 0),(3,ci .i64 i),(4,ci .i64 (k:Int))],⟨[some (iJ zs)],[]⟩⟩ [0,3,4]=
  some (.nrm [.sK 37 vs i 0,ci .i64 i,ci .i64 ((k+1:Nat):Int)] ⟨[some (iJ (zs.set k (Mk i k)))],[]⟩):=by
 have h1:(k:Int)<(zs.length:Int):=by omega
 rw[eAi,RH]
 simp only[decide_true,cond_true,Option.bind_some,decide_eq_true h1,decide_eq_true (Int.natCast_nonneg k),Bool.and_self,tu (show k<4611686018427387904 by omega),Int.toNat_natCast]
theorem akh {vs:List Value}{i:Int}{k:Nat}{zs:List Int}(h:zs.length≤k):GR qc Iq 107 19 cAi ⟨[(0,.sK 37 vs i 0),(3,ci .i64 i),(4,ci .i64 (k:Int))],⟨[some (iJ zs)],[]⟩⟩ [0,3,4]=
  some (.ext 2 [.sK 37 vs i 0,ci .i64 i,ci .i64 (k:Int)] ⟨[some (iJ zs)],[]⟩):=by
 have h1:¬(k:Int)<(zs.length:Int):=by omega
 rw[eAi]
 simp only[decide_true,cond_true,decide_eq_false h1,cond_false]
abbrev sA (vs:List Value)(i k:Int)(zs:List Int):S:=⟨[(0,.sK 37 vs i 0),(3,ci .i64 i),(4,ci .i64 k)],⟨[some (iJ zs)],[]⟩⟩
theorem adG {vs:List Value}{i:Int}{may:Nat→Prop}{a:Act}{w:World}{ow:Ow}{zs0:List Int}{Q:Exit→Act→World→Prop}(I:aK qc 107 may (sA vs i 0 zs0) a w ow)(hb:zs0.length<4611686018427387904)
  (hQ:∀(zs:List Int) a' w' aO,zs.length=zs0.length→(∀j:Nat,j<zs.length→zs[j]? =some (Mk i j))→aK qc 107 may (sA vs i (zs.length:Int) zs) a' w' aO→dZ may w ow ⟨[some (iJ zs0)],[]⟩ w' aO ⟨[some (iJ zs)],[]⟩→Q .normal a' w'):(Code.block 2 (.loop cAi)).wp Tryz.prog Q a w:=by
 refine wp_block (wp_loop (fun a' w'=>∃(k:Nat) (zs:List Int) (aO:Ow),k≤zs0.length∧zs.length=zs0.length∧(∀j:Nat,j<k→zs[j]? =some (Mk i j))∧aK qc 107 may (sA vs i (k:Int) zs) a' w' aO∧dZ may w ow ⟨[some (iJ zs0)],[]⟩ w' aO ⟨[some (iJ zs)],[]⟩)
  (fun a' _=>zs0.length-bV 4 a') ⟨0,zs0,ow,Nat.zero_le _,rfl,fun j h=>absurd h (by omega),I,dZ.refl _ _ _ _⟩ ?_)
 rintro a1 w1 ⟨k,zs,jZ,hk,hl,hz,I1,K1⟩
 have h4:bV 4 a1=k:=I1.bV rfl
 by_cases dX:k<zs0.length
 ·refine je lK qK mix I1 (akg (by omega) (by omega)) (fun vs' m' a2 w2 gV e I2 K2=> ?_) (fun j vs' m' a2 w2 gV e=>by cases e) (fun vs' m' a2 w2 gV e=>by cases e)
  cases e
  refine⟨⟨k+1,zs.set k (Mk i k),gV,by omega,by simp[hl],fun j hj=> ?_,I2,K1.trans K2⟩,?_⟩
  ·by_cases e:j=k
   ·subst e;rw[List.getElem?_set_self (by omega)]
   ·rw [List.getElem?_set_ne (by omega)];exact hz j (by omega)
  ·have h5:bV 4 a2=k+1:=I2.bV rfl
   show zs0.length-bV 4 a2<zs0.length-bV 4 a1
   omega
 ·have hkl:zs.length≤k:=by omega
  refine je lK qK mix I1 (akh hkl) (fun vs' m' a2 w2 gV e=>by cases e) (fun j vs' m' a2 w2 gV e I2 K2=> ?_) (fun vs' m' a2 w2 gV e=>by cases e)
  cases e
  have e:k=zs.length:=by omega
  subst e
  simp only[Exit.then,Exit.inBlock,if_true]
  exact hQ zs a2 w2 gV hl (fun j hj=>hz j hj) I2 (K1.trans K2)
abbrev s0 (vs:List Value)(i:Int):S:=⟨[(0,Jf vs),(3,ci .i64 i)],⟨[],[]⟩⟩
theorem oQ (b:Nat):ay ⟨[],[]⟩ ⟨[],[]⟩ b:=fun x h=>by cases x<;>simp[eG,Mem.row?,Mem.box?]at h
theorem Ky {w:World}{may:Nat→Prop}:aC w may ⟨[],[]⟩ ⟨[],[]⟩:=
 ⟨rfl,rfl,fun i row e=>by simp[Mem.row?]at e,fun i bx e=>by simp[Mem.box?]at e,fun x y b h=>absurd h (oQ b x),fun x b h=>absurd h (oQ b x),fun i h=>absurd h (Nat.not_lt_zero _)⟩
theorem aiq {v:Value}{xs:List Int}(hv:∃A n c,v=Value.slice A n c){b:Nat}:ay ⟨[v],[]⟩ ⟨[some (iJ xs)],[]⟩ b↔v.ownBlock≠some b:=by
 have:=Il (rows:=[iJ xs]) (rv:=[v]) rfl (by simp) (by simpa using hv) (b:=b)
 simpa using this
theorem aki {w:World}{may:Nat→Prop}{v:Value}{xs:List Int}(hv:∃A n c,v=Value.slice A n c)(h:w.ownsRow 0 114 1 v xs.length (xs.map (Value.int .u32)))(hm:∀b,v.ownBlock=some b→may b):aC w may ⟨[v],[]⟩ ⟨[some (iJ xs)],[]⟩:=by
 refine aC.Xn (rows:=[iJ xs]) (rv:=[v]) rfl (by simp) (by simpa using hv) (fun i row u hi hu=> ?_) (fun i j u u' b hi hj _ _=> ?_) (by simpa using hm)
 ·cases i with
  |zero=>
   obtain rfl:=Option.some.inj hi
   obtain rfl:=Option.some.inj hu
   exact⟨_,h,rD _⟩
  |succ i=>simp at hi
 ·have:=(List.getElem?_eq_some_iff.1 hi).1
  have:=(List.getElem?_eq_some_iff.1 hj).1
  simp at*
  omega
def aaz (vs:List Value)(v:Value)(b:Nat):Prop:=sU vs b∨v.ownBlock=some b
theorem akj {w:World}{vs:List Value}{v u:Value}{i:Nat}{ow:Ow}{m:Mem}{r:Nat}(hv:vs[i]? =some v)(hr:ow.rv[r]? =some v)(lU:∀b,sU vs b→ay ow m b)(hS:Rd w (o7 (ay ⟨[],[]⟩ ⟨[],[]⟩) (sU vs) true) (.sl 37 .hd) vs [u]):
  aS w (ay ow m) (aaz vs v) ow m (.sK 37 vs (i:Int) r) u:=by
 refine⟨Rd.mono (fun b h=>⟨lU b (h.2 rfl),fun _=> .inl (h.2 rfl)⟩) hS,Int.natCast_nonneg i,v,by simpa using hv,hr⟩
theorem agU {w:World}{vs:List Value}{v u:Value}{i:Int}{r:Nat}{ow:Ow}{m:Mem}(hb:∀b,ay ow m b→v.ownBlock≠some b)(h:aS w (ay ow m) (aaz vs v) ow m (.sK 37 vs i r) u):
  Rd w (o7 (ay ⟨[],[]⟩ ⟨[],[]⟩) (sU vs) true) (.sl 37 .hd) vs [u]:=
 Rd.mono (fun b h=>⟨oQ b,fun _=>(h.2 rfl).resolve_right (hb b h.1)⟩) h.1
theorem adH {w0:World}{vs:List Value}(V:SpV w0 vs){a:Act}{w:World}{xss:List (List Int)}{Q:Exit→Act→World→Prop}(X:VA w0 w vs)(R:SpR w vs xss)(hb:∀xs∈xss,xs.length<4611686018427387904)(X9:vs.length<4611686018427387904)
  (I:aK qc 107 (sU vs) (s0 vs 0) a w ⟨[],[]⟩)
  (hQ:∀(xI:List (List Int)) a' w',xI.map List.length=xss.map List.length→(∀(i:Nat) (ys:List Int),xI[i]? =some ys→∀j:Nat,j<ys.length→ys[j]? =some (Mk i j))→VA w0 w' vs→SpR w' vs xI→aK qc 107 (sU vs) (s0 vs (vs.length:Int)) a' w' ⟨[],[]⟩→Q .normal a' w'):
  (Code.block 0 (.loop (.seq hA (.seq (.block 1 (.seq (rS 4) (.block 2 (.loop cAi)))) (rS 3))))).wp Tryz.prog Q a w:=by
 refine wp_block (wp_loop (fun a' w'=>∃(i:Nat) (xI:List (List Int)),i≤vs.length∧xI.map List.length=xss.map List.length∧(∀(j:Nat) (ys:List Int),j<i→xI[j]? =some ys→∀l:Nat,l<ys.length→ys[l]? =some (Mk j l))∧VA w0 w' vs∧SpR w' vs xI∧aK qc 107 (sU vs) (s0 vs (i:Int)) a' w' ⟨[],[]⟩)
  (fun a' _=>vs.length-bV 3 a') ⟨0,xss,Nat.zero_le _,rfl,fun j ys h=>absurd h (by omega),X,R,I⟩ ?_)
 rintro a1 w1 ⟨i,xI,hi,hl,hz,X1,R1,I1⟩
 have h3:bV 3 a1=i:=I1.bV rfl
 have eow:∀{ow:Ow} {a:Act} {w:World} {fr:List (Nat×SV)},aK qc 107 (sU vs) ⟨fr,⟨[],[]⟩⟩ a w ow→ow=⟨[],[]⟩:=fun {ow a w fr} J=>by
  have h1:=J.mem.lX
  have h2:=J.mem.jc
  obtain⟨rv,bb⟩:=ow
  have h1:rv.length=0:=h1
  have h2:bb.length=0:=h2
  rw[List.length_eq_zero_iff]at h1 h2
  rw[h1,h2]
 by_cases dX:i<vs.length
 ·have yx:(i:Int)<(vs.length:Int):=by omega
  refine wp_seq (je lK qK mix I1 ((eA vs i).trans (by rw[decide_eq_true yx];rfl)) (fun vs' m' a2 w2 gV e I2 K2=> ?_) (fun j vs' m' a2 w2 gV e=>by cases e) (fun vs' m' a2 w2 gV e=>by cases e))
  cases e
  obtain rfl:=eow I2
  refine wp_seq (wp_block (wp_seq (je lK qK mix I2 (e4 vs i) (fun vs' m' a3 w3 qA e I3 K3=> ?_) (fun j vs' m' a3 w3 qA e=>by cases e) (fun vs' m' a3 w3 qA e=>by cases e))))
  cases e
  obtain rfl:=eow I3
  have SB:=K2.trans K3
  have X3:=X1.aW SB fun b _ _=>oQ b
  have R3:SpR w3 vs xI:=R1.aW fun v hv b e=>(SB.stay b (Nat.lt_of_lt_of_le (V.lt v hv b e) X1.size) (oQ b)).2.2
  obtain⟨v,hv⟩:∃v,vs[i]? =some v:=⟨_,List.getElem?_eq_getElem dX⟩
  have hvm:v∈vs:=List.mem_of_getElem? hv
  obtain⟨ys,hy⟩:∃ys,xI[i]? =some ys:=⟨_,List.getElem?_eq_getElem (by rw[R3.1];exact dX)⟩
  have dM:=R3.2 i v ys hv hy
  have sK:=V.slice v hvm
  have adI:ys.length<4611686018427387904:=by
   have h1:(xI.map List.length)[i]? =some ys.length:=by rw[List.getElem?_map,hy];rfl
   rw[hl,List.getElem?_map]at h1
   obtain⟨xs,hx,e⟩:=Option.map_eq_some_iff.1 h1
   have:=hb xs (List.mem_of_getElem? hx)
   omega
  have I4:aK qc 107 (aaz vs v) (sA vs i 0 ys) a3 w3 ⟨[v],[]⟩:=by
   refine⟨Gx fun b h=> .inl (V.new X3 h),aki sK dM fun b e=> .inr e,dw.of ⟨?_,?_,?_,trivial⟩,I3.size,I3.defers⟩
   ·exact akj hv rfl (fun b h=>(aiq sK).2 (h v hvm)) (I3.fr 0)
   ·exact (I3.fr 3:aS _ _ _ _ _ _ _)
   ·exact (I3.fr 4:aS _ _ _ _ _ _ _)
  refine adG I4 adI fun zs a4 w4 ED hzl hzm I5 K5=> ?_
  obtain⟨v',cs,Cm,_,xU,lQ⟩:=I5.mem.own (r:=0) (row:=iJ zs) rfl rfl rfl
  have e:v'=v:=by
   have:=K5.rv 0 v rfl
   rw[Cm]at this
   exact Option.some.inj this
  subst e
  obtain rfl:=lC lQ
  have arX:∀b,ay ED ⟨[some (iJ zs)],[]⟩ b→v'.ownBlock≠some b:=fun b h e=>h (.row 0) (by
   show(if true=true then(ED.rv[0]?).bind yQ else none)=some b
   rw[Cm,if_pos rfl]
   show yQ v'=some b
   rw[jl sK];exact e)
  have I6:aK qc 107 (sU vs) (s0 vs i) a4 w4 ⟨[],[]⟩:=by
   refine⟨Gx fun b h=>V.new X3 (Nat.le_trans K5.size h),Ky,dw.of ⟨?_,?_,trivial⟩,I5.size,I5.defers⟩
   ·exact agU (m:=⟨[some (iJ zs)],[]⟩) (ow:=ED) arX (I5.fr 0)
   ·exact (I5.fr 3:aS _ _ _ _ _ _ _)
  have X6:=X3.aW K5 fun b _ h=>(aiq sK).2 (h v' hvm)
  have R6:SpR w4 vs (xI.set i zs):=by
   refine⟨by rw[List.length_set];exact R3.1,fun j u ys' hu Qe=> ?_⟩
   by_cases e:j=i
   ·subst e
    rw[List.getElem?_set_self (by rw[R3.1];exact dX)]at Qe
    obtain rfl:=Option.some.inj Qe
    rw[hv]at hu
    obtain rfl:=Option.some.inj hu
    exact xU
   ·rw [List.getElem?_set_ne (by omega)]at Qe
    refine gZ (R3.2 j u ys' hu Qe) fun g hg=>K5.frame g (Nat.lt_of_lt_of_le (V.lt u (List.mem_of_getElem? hu) g hg) X3.size) fun h=> ?_
    rcases h with h|h
    ·exact h u (List.mem_of_getElem? hu) hg
    ·exact e (V.qp i j v' u g hv hu h hg).symm
  refine je lK qK mix I6 (e3 vs i) (fun vs' m' a7 w7 ow7 e I7 K7=> ?_) (fun j vs' m' a7 w7 ow7 e=>by cases e) (fun vs' m' a7 w7 ow7 e=>by cases e)
  cases e
  obtain rfl:=eow I7
  rw[tu (show i<4611686018427387904 by omega)]at I7
  refine⟨⟨i+1,xI.set i zs,by omega,?_,fun j ys' hj Qe=> ?_,X6.aW K7 fun b _ _=>oQ b,R6.aW fun u hu b e=>(K7.stay b (Nat.lt_of_lt_of_le (V.lt u hu b e) X6.size) (oQ b)).2.2,I7⟩,?_⟩
  ·rw [←hl,List.map_set]
   apply List.set_getElem?_eq
   rw[List.getElem?_map,hy,hzl];rfl
  ·by_cases e:j=i
   ·subst e
    rw[List.getElem?_set_self (by rw[R3.1];exact dX)]at Qe
    obtain rfl:=Option.some.inj Qe
    exact hzm
   ·rw [List.getElem?_set_ne (by omega)]at Qe
    exact hz j ys' (by omega) Qe
  ·have h5:bV 3 a7=i+1:=I7.bV rfl
   show vs.length-bV 3 a7<vs.length-bV 3 a1
   omega
 ·have yx:¬(i:Int)<(vs.length:Int):=by omega
  refine wp_seq (je lK qK mix I1 ((eA vs i).trans (by rw[decide_eq_false yx];rfl)) (fun vs' m' a2 w2 gV e=>by cases e) (fun j vs' m' a2 w2 gV e I2 K2=> ?_) (fun vs' m' a2 w2 gV e=>by cases e))
  cases e
  obtain rfl:=eow I2
  obtain rfl:i=vs.length:=by omega
  simp only[Exit.then,Exit.inBlock,if_true]
  exact hQ xI a2 w2 hl (fun j ys hy=>hz j ys (by have:=(List.getElem?_eq_some_iff.1 hy).1;rw[R1.1]at this;exact this) hy) (X1.aW K2 fun b _ _=>oQ b) (R1.aW fun u hu b e=>(K2.stay b (Nat.lt_of_lt_of_le (V.lt u hu b e) X1.size) (oQ b)).2.2) I2
end Go.Fx.Tryz

namespace Go.Fx
open Go Go.RowKit
theorem lD {a:Act}{d:Nat}{u:Value}(h:d<a.tmps.size):(a.put (some d) u).tmps.getD d undef=u:=by
 simp[Act.put,Array.getElem?_setIfInBounds,h]
theorem qL {a:Act}{d t:Nat}{u:Value}(h:d≠t):(a.put (some d) u).tmps.getD t undef=a.tmps.getD t undef:=by
 simp[Act.put,Array.getElem?_setIfInBounds_ne h]
theorem dZ.DK {may may':Nat→Prop}{w w':World}{o o':Ow}{m m':Mem}(M:aC w may o m)(M':aC w' may' o' m')(K:dZ may w o m w' o' m')(h:m'.rows.length=m.rows.length):o'.rv=o.rv:=by
 apply List.ext_getElem?
 intro i
 cases e:o.rv[i]? with
 |some v=>exact K.rv i v e
 |none=>
  have h1:=M.lX
  have h2:=M'.lX
  rw[List.getElem?_eq_none_iff]at e⊢
  omega
theorem aC.xJ {may:Nat→Prop}{w:World}{o:Ow}{m:Mem}(M:aC w may o m)(h:m.boxes=[]):o.bb=[]:=by
 have h1:=M.jc
 rw[h]at h1
 exact List.length_eq_zero_iff.1 h1
theorem Ow.ext' {o:Ow}{rv:List Value}(h1:o.rv=rv)(h2:o.bb=[]):o=⟨rv,[]⟩:=by cases o;simp only at h1 h2;rw[h1,h2]
end Go.Fx
namespace Go.Fx.Tryz
open Go Go.Proofs Go.Fx Go.RowKit
set_option maxRecDepth 100000
def bK (i:Int)(n:Nat):List Int:=(List.range n).map fun (j:Nat)=>Mk i (j:Int)
theorem jD (i:Int)(n:Nat):(bK i n).length=n:=by simp[bK]
theorem Jg (i:Int)(n:Nat):bK i n++[Mk i (n:Int)]=bK i (n+1):=by simp[bK,List.range_succ]
theorem Va {i:Int}{ys:List Int}(h:∀j:Nat,j<ys.length→ys[j]? =some (Mk i j)):ys=bK i ys.length:=by
 apply List.ext_getElem?
 intro j
 by_cases hj:j<ys.length
 ·rw [h j hj]
  simp[bK,hj]
 ·rw [List.getElem?_eq_none (by omega),List.getElem?_eq_none (by rw[jD];omega)]
theorem DL {vg v:Value}{gs:List Value}{xs:List Int}(hg:∃A n c,vg=Value.slice A n c)(hv:∃A n c,v=Value.slice A n c){b:Nat}:ay ⟨[vg,v],[]⟩ ⟨[some (jO gs),some (iJ xs)],[]⟩ b↔vg.ownBlock≠some b∧v.ownBlock≠some b:=by
 have:=Il (rows:=[jO gs,iJ xs]) (rv:=[vg,v]) rfl (by simp) (by simpa using⟨hg,hv⟩) (b:=b)
 simpa using this
theorem adJ {w:World}{may:Nat→Prop}{vg v:Value}{gs cs:List Value}{xs:List Int}(hg:∃A n c,vg=Value.slice A n c)(hv:∃A n c,v=Value.slice A n c)(h1:w.ownsRow 0 37 1 vg gs.length cs)(h2:∀ok,aY w ok .hd gs cs)(h:w.ownsRow 0 114 1 v xs.length (xs.map (Value.int .u32)))
  (hd:∀b,vg.ownBlock=some b→v.ownBlock≠some b) (hmg:∀b,vg.ownBlock=some b→may b) (hm:∀b,v.ownBlock=some b→may b):aC w may ⟨[vg,v],[]⟩ ⟨[some (jO gs),some (iJ xs)],[]⟩:=by
 refine aC.Xn (rows:=[jO gs,iJ xs]) (rv:=[vg,v]) rfl (by simp) (by simpa using⟨hg,hv⟩) (fun i row u hi hu=> ?_) (fun i j u u' b hi hj e e'=> ?_) (by simpa using⟨hmg,hm⟩)
 ·match i with
  |0=>obtain rfl:=Option.some.inj hi;obtain rfl:=Option.some.inj hu;exact⟨cs,h1,h2 _⟩
  |1=>obtain rfl:=Option.some.inj hi;obtain rfl:=Option.some.inj hu;exact⟨_,h,rD _⟩
  |i+2=>simp at hi
 ·match i,j with
  |0,0=>rfl
  |1,1=>rfl
  |0,1=>obtain rfl:=Option.some.inj hi;obtain rfl:=Option.some.inj hj;exact absurd e' (hd b e)
  |1,0=>obtain rfl:=Option.some.inj hi;obtain rfl:=Option.some.inj hj;exact absurd e (hd b e')
  |i+2,_=>simp at hi
  |_,j+2=>simp at hj
theorem agV:List.range AA.size=List.range' 0 (AA.toList.take 6).length++(6::List.range' 7 (AA.toList.drop 7).length):=by kernel_rfl
theorem akk:∃i,Tryz.prog.info? 114=some i∧i.size=1∧i.bytes=4∧∃z,i.zero=some z∧z.cells.size=1:=by
 obtain⟨i0,hi,hs,hb,z,hz,hzc⟩:=(lK 114 ahT (by kernel_rfl)).info
 refine⟨i0,hi,hs,hb,z,hz,?_⟩
 have:z.cells.toList.length=1:=by rw[hzc];rfl
 simpa using this
theorem adK {may:Nat→Prop}{u:Value}{gs:List Value}{i:Int}{k n:Nat}{a:Act}{w:World}{vg g:Value}(AP:∀b,w.heap.size≤b→may b)(hn:n<35184372088000)(I:aK qc 107 may (sG u gs i k (bK i n)) a w ⟨[vg,g],[]⟩){Q:Exit→Act→World→Prop}
  (hQ:∀a' w' g',aK qc 107 may (sG u gs i k (bK i (n+1))) a' w' ⟨[vg,g'],[]⟩→Kp may w ⟨[vg,g],[]⟩ ⟨[some (jO gs),some (iJ (bK i n))],[]⟩ w' ⟨[vg,g'],[]⟩ ⟨[some (jO gs),some (iJ (bK i (n+1)))],[]⟩→
   (∀b,g.ownBlock=some b→∀(j:Nat) (x:Value),((bK i n).map (Value.int .u32))[j]? =some x→w'.cell? ((⟨b,0,none⟩:Addr).add j)=some x)→(∀b,g'.ownBlock=some b→b<w.heap.size→g.ownBlock=some b)→Q .normal a' w'):(rS 16).wp Tryz.prog Q a w:=by
 rw[arV]
 refine wp_region ?_
 rw[agV]
 refine kL _ _ _ _ ?_
 have arZ:=(e16 u gs i k (bK i n)).trans (by rw[RH,jD];rfl:_=some (Out.nrm [rV u,oL 0,ci .i64 i,ci .i64 (k:Int),oL 1,oL 2] ⟨[some (jO gs),some (iJ (bK i n)),some (iJ [Mk i (n:Int)])],[]⟩))
 refine YN lK qK I (fun j hj=> ?_) arZ fun a3 w3 qA I3 K3=> ?_
 ·rw [List.getElem?_take_of_lt (by rw[List.length_take]at hj;omega),Array.getElem?_toList,Nat.zero_add]
 obtain⟨vg',cgs,Ew,sV,Na,adM⟩:=I3.mem.own (r:=0) (row:=jO gs) rfl rfl rfl
 obtain⟨g',csg,zA,sK,dM,lQ⟩:=I3.mem.own (r:=1) (row:=iJ (bK i n)) rfl rfl rfl
 obtain⟨ve,cse,hve,aw0,YP,ar0⟩:=I3.mem.own (r:=2) (row:=iJ [Mk i (n:Int)]) rfl rfl rfl
 obtain rfl:vg=vg':=Option.some.inj ((K3.rv 0 vg rfl).symm.trans Ew)
 obtain rfl:g=g':=Option.some.inj ((K3.rv 1 g rfl).symm.trans zA)
 obtain rfl:=lC lQ
 obtain rfl:=lC ar0
 have dM:w3.ownsRow 0 114 1 g (bK i n).length ((bK i n).map (Value.int .u32)):=dM
 have YP:w3.ownsRow 0 114 1 ve 1 [Value.int .u32 (Mk i (n:Int))]:=YP
 have hbk:∀(r:Nat) (row:Row) (v:Value),(⟨[some (jO gs),some (iJ (bK i n)),some (iJ [Mk i (n:Int)])],[]⟩:Mem).row? r=some row→row.rw=true→qA.rv[r]? =some v→(∃A n c,v=Value.slice A n c)→∀b,v.ownBlock=some b→eG qA ⟨[some (jO gs),some (iJ (bK i n)),some (iJ [Mk i (n:Int)])],[]⟩ (.row r)=some b:=by
  intro r row v h1 h2 h3 h4 b e
  rw[fF h1 h3 h2,jl h4];exact e
 have akl:∀b,vg.ownBlock=some b→g.ownBlock≠some b:=fun b e1 e2=>by
  have:=I3.mem.qp _ _ b (hbk 0 _ vg rfl rfl Ew sV b e1) (hbk 1 _ g rfl rfl zA sK b e2)
  cases this
 have hmg:∀b,vg.ownBlock=some b→may b:=fun b e=>(I3.mem.fH _ b (hbk 0 _ vg rfl rfl Ew sV b e)).1
 have hmv:∀b,g.ownBlock=some b→may b:=fun b e=>(I3.mem.fH _ b (hbk 1 _ g rfl rfl zA sK b e)).1
 show wpOps Tryz.prog AA Q (6::List.range' 7 (AA.toList.drop 7).length) a3 w3
 obtain⟨o,ho,RI,RJ,NR⟩:=o16
 refine o9 ho RI ?_
 obtain⟨i0,hi,hs,hb,z,hz,S_⟩:=akk
 have h50:a3.eval (.tmp 50)=g:=by
  have h:aS w3 (ay qA _) may qA _ (oL 1) (a3.tmps.getD 50 undef):=I3.fr 50
  have h:qA.rv[1]? =some (a3.tmps.getD 50 undef)∧_:=h
  exact Option.some.inj (h.1.symm.trans zA)
 have h55:a3.eval (.tmp 55)=ve:=by
  have h:aS w3 (ay qA _) may qA _ (oL 2) (a3.tmps.getD 55 undef):=I3.fr 55
  have h:qA.rv[2]? =some (a3.tmps.getD 55 undef)∧_:=h
  exact Option.some.inj (h.1.symm.trans hve)
 obtain⟨ge,ce,rfl⟩:∃ge ce,ve= .slice (some ⟨ge,0,none⟩) 1 ce:=by
  rcases YP.2 with⟨_,h⟩|⟨ge,ce,_,h,_⟩
  ·cases h
  ·exact ⟨ge,ce,h⟩
 refine Jz (.tmp 50) (.tmp 55) 37 NR 114 i0 z 1 4 Tryz.underlying37 hi hz hs hb S_ (by decide) g _ _ h50 dM ⟨ge,0,none⟩ 1 ce [Value.int .u32 (Mk i (n:Int))] h55 rfl (fun j x hj=>World.ownsRow.cells YP rfl j x hj) (by simp[Value.oneCell']) (by rw[jD];unfold maxLen;omega) (by rw[jD];omega) fun v' w4 h1 h2 h3 h4=> ?_
 rw[RJ]
 rw[←List.map_singleton,←List.map_append,Jg,jD]at h1
 have h1:w4.ownsRow 0 114 1 v' (bK i (n+1)).length ((bK i (n+1)).map (Value.int .u32)):=by rw[jD];exact h1
 have agW:∃A n c,v'=Value.slice A n c:=by
  obtain⟨A,c,e⟩:=ownsRow.slice h1
  exact⟨A,_,c,e⟩
 have FH:∀b,b<w3.heap.size→g.ownBlock≠some b→w4.heap[b]? =w3.heap[b]? :=fun b hb wH=>h2.block b hb fun e=>wH e.symm
 have akm:w4.ownsRow 0 37 1 vg gs.length cgs:=gZ Na fun b e=>FH b (World.ownsRow.lt Na b e).2 (akl b e)
 have ani:∀b,vg.ownBlock=some b→v'.ownBlock≠some b:=fun b e1 e2=>akl b e1 (h4 b e2 (World.ownsRow.lt Na b e1).2)
 have ar1:∀b,v'.ownBlock=some b→may b:=fun b e=>by
  by_cases hb:b<w3.heap.size
  ·exact hmv b (h4 b e hb)
  ·exact AP b (by have:=K3.size;omega)
 have M4:aC w4 may ⟨[vg,v'],[]⟩ ⟨[some (jO gs),some (iJ (bK i (n+1)))],[]⟩:=adJ sV agW akm (fun ok=>aY.flat rfl adM) h1 ani hmg ar1
 have hN:(56:Nat)<a3.tmps.size:=by rw[I3.size];decide
 have I5:aK qc 107 may ⟨[(0,rV u),(5,oL 0),(6,ci .i64 i),(8,ci .i64 (k:Int)),(56,oL 1)],⟨[some (jO gs),some (iJ (bK i (n+1)))],[]⟩⟩ (a3.put (some 56) v') w4 ⟨[vg,v'],[]⟩:=by
  refine⟨Gx fun b h=>AP b (by have:=K3.size;have:=h2.size;omega),M4,dw.of ⟨?_,?_,?_,?_,?_,trivial⟩,by rw[Fb];exact I3.size,by rw[xW];exact I3.defers⟩
  ·have h:aS w3 _ may qA _ (rV u) (a3.tmps.getD 0 undef):=I3.fr 0
   show aS _ _ _ _ _ _ ((a3.put (some 56) v').tmps.getD 0 undef)
   rw[qL (t:=0) (by decide)];exact h
  ·have h:aS w3 _ may qA _ (oL 0) (a3.tmps.getD 5 undef):=I3.fr 5
   have h:qA.rv[0]? =some (a3.tmps.getD 5 undef)∧_:=h
   show aS _ _ _ _ _ _ ((a3.put (some 56) v').tmps.getD 5 undef)
   rw[qL (t:=5) (by decide)]
   obtain e:=Option.some.inj (Ew.symm.trans h.1)
   exact⟨by rw[←e];rfl,h.2⟩
  ·have h:aS w3 _ may qA _ (ci .i64 i) (a3.tmps.getD 6 undef):=I3.fr 6
   show aS _ _ _ _ _ _ ((a3.put (some 56) v').tmps.getD 6 undef)
   rw[qL (t:=6) (by decide)];exact h
  ·have h:aS w3 _ may qA _ (ci .i64 (k:Int)) (a3.tmps.getD 8 undef):=I3.fr 8
   show aS _ _ _ _ _ _ ((a3.put (some 56) v').tmps.getD 8 undef)
   rw[qL (t:=8) (by decide)];exact h
  ·show aS _ _ _ _ _ _ _
   rw[lD hN]
   exact⟨rfl,agW⟩
 have KpA:Kp may w3 qA ⟨[some (jO gs),some (iJ (bK i n)),some (iJ [Mk i (n:Int)])],[]⟩ w4 ⟨[vg,v'],[]⟩ ⟨[some (jO gs),some (iJ (bK i (n+1)))],[]⟩:=by
  have wH:∀b,ay qA ⟨[some (jO gs),some (iJ (bK i n)),some (iJ [Mk i (n:Int)])],[]⟩ b→vg.ownBlock≠some b∧g.ownBlock≠some b:=fun b h=>⟨fun e=>h _ (hbk 0 _ vg rfl rfl Ew sV b e),fun e=>h _ (hbk 1 _ g rfl rfl zA sK b e)⟩
  refine⟨fun b hb h=>⟨(DL sV agW).2 ⟨(wH b h).1,fun e=>(wH b h).2 (h4 b e hb)⟩,Nat.lt_of_lt_of_le hb h2.size,FH b hb (wH b h).2⟩,h2.size,fun b hb hm=>FH b hb fun e=>hm (hmv b e),h2.os,h2.tape,h2.output⟩
 have KZ:∀b,g.ownBlock=some b→∀(j:Nat) (x:Value),((bK i n).map (Value.int .u32))[j]? =some x→w4.cell? ((⟨b,0,none⟩:Addr).add j)=some x:=h3
 refine YN lK qK (l:=AA.toList.drop 7) I5 (fun j hj=> ?_) (arW u gs i k (bK i (n+1))) fun a6 w6 Aq I6 K6=> ?_
 ·rw [List.getElem?_drop,Array.getElem?_toList]
 obtain rfl:Aq=⟨[vg,v'],[]⟩:=Ow.ext' (K6.DK M4 I6.mem rfl) (I6.mem.xJ rfl)
 refine hQ a6 w6 v' I6 ((K3.kp.trans KpA).trans K6.kp) (fun b e j x hj=> ?_) (fun b e hb=>h4 b e (by have:=K3.size;omega))
 have hb4:b<w4.heap.size:=Nat.lt_of_lt_of_le (World.ownsRow.lt dM b e).2 h2.size
 by_cases he:v'.ownBlock=some b
 ·obtain ⟨v6,cs6,hv6,_,ho6,hr6⟩:=I6.mem.own (r:=1) (row:=iJ (bK i (n+1))) rfl rfl rfl
  obtain rfl:v'=v6:=Option.some.inj hv6
  obtain rfl:=lC hr6
  refine World.ownsRow.cells ho6 he j x ?_
  rw[←Jg,List.map_append,List.getElem?_append_left (List.getElem?_eq_some_iff.1 hj).1];exact hj
 ·exact K6.stay.cell (by rw[Addr.gU];exact(DL sV agW).2 ⟨fun e'=>akl b e' e,he⟩) (KZ b e j x hj)
end Go.Fx.Tryz

namespace Go.Fx.Tryz
open Go Go.Proofs Go.Fx Go.RowKit
set_option maxRecDepth 100000
theorem Nb {i:Int}{n k j:Nat}{x:Value}(h:((bK i n).map (Value.int .u32))[j]? =some x):((bK i (n+k)).map (Value.int .u32))[j]? =some x:=by
 have hj:j<n:=by have:=(List.getElem?_eq_some_iff.1 h).1;rw[List.length_map,jD]at this;exact this
 rw[←h]
 simp[bK,hj,show j<n+k by omega]
abbrev KU:K:= .sl 114 (.int .u32)
theorem agY {may:Nat→Prop}{u:Value}{gs:List Value}{i:Int}{n:Nat}{a:Act}{w:World}{vg v:Value}(AP:∀b,w.heap.size≤b→may b)(hn:n+16<35184372088000)(I:aK qc 107 may (sG u gs i 0 (bK i n)) a w ⟨[vg,v],[]⟩){Q:Exit→Act→World→Prop}
  (hQ:∀a' w' g,aK qc 107 may (sG u gs i (16:Nat) (bK i (n+16))) a' w' ⟨[vg,g],[]⟩→Kp may w ⟨[vg,v],[]⟩ ⟨[some (jO gs),some (iJ (bK i n))],[]⟩ w' ⟨[vg,g],[]⟩ ⟨[some (jO gs),some (iJ (bK i (n+16)))],[]⟩→
   (∀b,v.ownBlock=some b→∀(j:Nat) (x:Value),((bK i n).map (Value.int .u32))[j]? =some x→w'.cell? ((⟨b,0,none⟩:Addr).add j)=some x)→(∀b,g.ownBlock=some b→b<w.heap.size→v.ownBlock=some b)→Q .normal a' w'):
  (Code.block 6 (.loop (.seq hBi (.seq (.block 7 (rS 16)) (rS 15))))).wp Tryz.prog Q a w:=by
 obtain⟨vg',cgs,Ew,sV,Na,adM⟩:=I.mem.own (r:=0) (row:=jO gs) rfl rfl rfl
 obtain⟨v',csv,Cm,ar2,anj,ar4⟩:=I.mem.own (r:=1) (row:=iJ (bK i n)) rfl rfl rfl
 obtain rfl:vg=vg':=Option.some.inj Ew
 obtain rfl:v=v':=Option.some.inj Cm
 obtain rfl:=lC ar4
 have ank:∀b,vg.ownBlock=some b→v.ownBlock≠some b:=fun b e1 e2=>by
  have h1:eG ⟨[vg,v],[]⟩ ⟨[some (jO gs),some (iJ (bK i n))],[]⟩ (.row 0)=some b:=by rw[fF rfl rfl rfl,jl sV];exact e1
  have h2:eG ⟨[vg,v],[]⟩ ⟨[some (jO gs),some (iJ (bK i n))],[]⟩ (.row 1)=some b:=by rw[fF rfl rfl rfl,jl ar2];exact e2
  cases I.mem.qp _ _ b h1 h2
 have carry:∀{k:Nat} {g:Value} {w1 w2:World} {a2:Act} {z:Int},(∃A n c,g=Value.slice A n c)→Kp may w1 ⟨[vg,g],[]⟩ ⟨[some (jO gs),some (iJ (bK i (n+k)))],[]⟩ w2 ⟨[vg,g],[]⟩ ⟨[some (jO gs),some (iJ (bK i (n+k)))],[]⟩→aK qc 107 may (sG u gs i z (bK i (n+k))) a2 w2 ⟨[vg,g],[]⟩→
   (∀b,v.ownBlock=some b→∀(j:Nat) (x:Value),((bK i n).map (Value.int .u32))[j]? =some x→w1.cell? ((⟨b,0,none⟩:Addr).add j)=some x)→(∀b,v.ownBlock=some b→∀(j:Nat) (x:Value),((bK i n).map (Value.int .u32))[j]? =some x→w2.cell? ((⟨b,0,none⟩:Addr).add j)=some x):=by
  intro k g w1 w2 a2 z hg Kp1 J P b e j x hj
  by_cases he:g.ownBlock=some b
  ·obtain ⟨g',cs,h1,_,h2,h3⟩:=J.mem.own (r:=1) (row:=iJ (bK i (n+k))) rfl rfl rfl
   obtain rfl:g=g':=Option.some.inj h1
   obtain rfl:=lC h3
   exact World.ownsRow.cells h2 he j x (Nb hj)
  ·exact Kp1.stay.cell (by rw[Addr.gU];exact(DL sV hg).2 ⟨fun e'=>ank b e' e,he⟩) (P b e j x hj)
 refine wp_block (wp_loop (fun a' w'=>∃(k:Nat) (g:Value),k≤16∧aK qc 107 may (sG u gs i (k:Int) (bK i (n+k))) a' w' ⟨[vg,g],[]⟩∧Kp may w ⟨[vg,v],[]⟩ ⟨[some (jO gs),some (iJ (bK i n))],[]⟩ w' ⟨[vg,g],[]⟩ ⟨[some (jO gs),some (iJ (bK i (n+k)))],[]⟩∧
   (∀b,v.ownBlock=some b→∀(j:Nat) (x:Value),((bK i n).map (Value.int .u32))[j]? =some x→w'.cell? ((⟨b,0,none⟩:Addr).add j)=some x)∧(∀b,g.ownBlock=some b→b<w.heap.size→v.ownBlock=some b))
  (fun a' _=>16-bV 8 a') ⟨0,v,by omega,I,Kp.refl _ _ _ _,fun b e j x hj=>World.ownsRow.cells anj e j x hj,fun b e _=>e⟩ ?_)
 rintro a1 w1 ⟨k,g,hk,I1,K1,P1,B1⟩
 have h8:bV 8 a1=k:=I1.bV rfl
 obtain⟨g',_,zA,adN,_,_⟩:=I1.mem.own (r:=1) (row:=iJ (bK i (n+k))) rfl rfl rfl
 obtain rfl:g=g':=Option.some.inj zA
 by_cases dX:k<16
 ·have Qb:(k:Int)<16:=by omega
  refine wp_seq (je lK qK mix I1 ((eBi u gs i k (bK i (n+k))).trans (by rw[decide_eq_true Qb];rfl)) (fun vs' m' a2 w2 gV e I2 K2=> ?_) (fun j vs' m' a2 w2 gV e=>by cases e) (fun vs' m' a2 w2 gV e=>by cases e))
  cases e
  obtain rfl:gV=⟨[vg,g],[]⟩:=Ow.ext' (K2.DK I1.mem I2.mem rfl) (I2.mem.xJ rfl)
  have P2:=carry adN K2.kp I2 P1
  refine wp_seq (wp_block (adK (n:=n+k) (k:=k) (fun b h=>AP b (by have:=K1.size;have:=K2.size;omega)) (by omega) I2 fun a3 w3 g3 I3 K3 P3 B3=> ?_))
  obtain⟨g',_,zA,anl,_,_⟩:=I3.mem.own (r:=1) (row:=iJ (bK i (n+k+1))) rfl rfl rfl
  obtain rfl:g3=g':=Option.some.inj zA
  have P3':∀b,v.ownBlock=some b→∀(j:Nat) (x:Value),((bK i n).map (Value.int .u32))[j]? =some x→w3.cell? ((⟨b,0,none⟩:Addr).add j)=some x:=fun b e j x hj=>by
   by_cases he:g.ownBlock=some b
   ·exact P3 b he j x (Nb hj)
   ·exact K3.stay.cell (by rw[Addr.gU];exact(DL sV adN).2 ⟨fun e'=>ank b e' e,he⟩) (P2 b e j x hj)
  refine je lK qK mix I3 (e15 u gs i k (bK i (n+k+1))) (fun vs' m' a4 w4 ED e I4 K4=> ?_) (fun j vs' m' a4 w4 ED e=>by cases e) (fun vs' m' a4 w4 ED e=>by cases e)
  cases e
  obtain rfl:ED=⟨[vg,g3],[]⟩:=Ow.ext' (K4.DK I3.mem I4.mem rfl) (I4.mem.xJ rfl)
  rw[tu (show k<4611686018427387904 by omega)]at I4
  refine⟨⟨k+1,g3,by omega,I4,((K1.trans K2.kp).trans K3).trans K4.kp,carry (k:=k+1) anl K4.kp I4 P3',fun b e hb=>B1 b (B3 b e (by have:=K1.size;have:=K2.size;omega)) hb⟩,?_⟩
  have h9:bV 8 a4=k+1:=I4.bV rfl
  show 16-bV 8 a4<16-bV 8 a1
  omega
 ·have Qb:¬(k:Int)<16:=by omega
  refine wp_seq (je lK qK mix I1 ((eBi u gs i k (bK i (n+k))).trans (by rw[decide_eq_false Qb];rfl)) (fun vs' m' a2 w2 gV e=>by cases e) (fun j vs' m' a2 w2 gV e I2 K2=> ?_) (fun vs' m' a2 w2 gV e=>by cases e))
  cases e
  obtain rfl:gV=⟨[vg,g],[]⟩:=Ow.ext' (K2.DK I1.mem I2.mem rfl) (I2.mem.xJ rfl)
  obtain rfl:k=16:=by omega
  simp only[Exit.then,Exit.inBlock,if_true]
  exact hQ a2 w2 g I2 (K1.trans K2.kp) (carry adN K2.kp I2 P1) B1
set_option maxRecDepth 100000
abbrev mB (gs:List Value):Mem:=⟨[some (jO gs)],[]⟩
abbrev sB (vs gs:List Value)(i:Int):S:=⟨[(0,Jf vs),(5,oL 0),(6,ci .i64 i)],mB gs⟩
theorem okG {vg:Value}{gs:List Value}(hg:∃A n c,vg=Value.slice A n c){b:Nat}:ay ⟨[vg],[]⟩ (mB gs) b↔vg.ownBlock≠some b:=by
 have:=Il (rows:=[jO gs]) (rv:=[vg]) rfl (by simp) (by simpa using hg) (b:=b)
 simpa using this
theorem akn {w:World}{may:Nat→Prop}{vg:Value}{gs cs:List Value}(hg:∃A n c,vg=Value.slice A n c)(h1:w.ownsRow 0 37 1 vg gs.length cs)(h2:∀ok,aY w ok .hd gs cs)(hm:∀b,vg.ownBlock=some b→may b):aC w may ⟨[vg],[]⟩ (mB gs):=by
 refine aC.Xn (rows:=[jO gs]) (rv:=[vg]) rfl (by simp) (by simpa using hg) (fun i row u hi hu=> ?_) (fun i j u u' b hi hj _ _=> ?_) (by simpa using hm)
 ·cases i with
  |zero=>obtain rfl:=Option.some.inj hi;obtain rfl:=Option.some.inj hu;exact⟨cs,h1,h2 _⟩
  |succ i=>simp at hi
 ·have:=(List.getElem?_eq_some_iff.1 hi).1
  have:=(List.getElem?_eq_some_iff.1 hj).1
  simp at*
  omega
def dn (w0:World)(vg v:Value)(b:Nat):Prop:=vg.ownBlock≠some b∧(v.ownBlock=some b∨w0.heap.size≤b)
structure Grown (w0 w:World) (vs:List Value) (xI:List (List Int)) (vg:Value) (gs:List Value) (i:Nat):Prop where
 len:gs.length=i
 RN:xI.length=vs.length
 done:∀(j:Nat) (v:Value) (ys:List Int),j<i→vs[j]? =some v→xI[j]? =some ys→∃g,gs[j]? =some g∧Rd w (dn w0 vg v) KU ys [v]∧Rd w (dn w0 vg v) KU (bK j (ys.length+16)) [g]
 todo:∀(j:Nat) (v:Value) (ys:List Int),i≤j→vs[j]? =some v→xI[j]? =some ys→w.ownsRow 0 114 1 v ys.length (ys.map (Value.int .u32))
 new:∀b,vg.ownBlock=some b→w0.heap.size≤b
theorem Grown.aW {w0 w w':World}{vs:List Value}{xI:List (List Int)}{vg:Value}{gs:List Value}{i:Nat}(V:SpV w0 vs)(X:VA w0 w vs)(G:Grown w0 w vs xI vg gs i)(h:∀b,b<w.heap.size→vg.ownBlock≠some b→b<w'.heap.size∧w'.heap[b]? =w.heap[b]?):Grown w0 w' vs xI vg gs i:=by
 have st:∀v,iF w (dn w0 vg v) w' (dn w0 vg v):=fun v b hb hd=>⟨hd,h b hb hd.1⟩
 refine⟨G.len,G.RN,fun j v ys hj hv hy=> ?_,fun j v ys hj hv hy=> ?_,G.new⟩
 ·obtain ⟨g,h1,h2,h3⟩:=G.done j v ys hj hv hy
  exact⟨g,h1,h2.aW (st v),h3.aW (st v)⟩
 ·refine gZ (G.todo j v ys hj hv hy) fun b hb=>(h b ?_ fun e=> ?_).2
  ·exact Nat.lt_of_lt_of_le (V.lt v (List.mem_of_getElem? hv) b hb) X.size
  ·have:=V.lt v (List.mem_of_getElem? hv) b hb
   have:=G.new b e
   omega
theorem agZ {w0:World}{vs:List Value}(V:SpV w0 vs){a:Act}{w:World}{xI:List (List Int)}{Q:Exit→Act→World→Prop}(X:VA w0 w vs)(R:SpR w vs xI)(hb:∀ys∈xI,ys.length<35184372087000)(X9:vs.length<5864062014000)
  (hm:∀(i:Nat) (ys:List Int),xI[i]? =some ys→ys=bK i ys.length)
  (I:aK qc 107 (sU vs) ⟨[(0,Jf vs),(5,.one (.lf .nil))],⟨[],[]⟩⟩ a w ⟨[],[]⟩)
  (hQ:∀(vg:Value) (gs:List Value) a' w',VA w0 w' vs→Grown w0 w' vs xI vg gs vs.length→aK qc 107 (sU vs) (sB vs gs (vs.length:Int)) a' w' ⟨[vg],[]⟩→Q .normal a' w'):
  (Code.seq (rS 9) (.block 4 (.loop (.seq hB (.seq (.block 5 (.seq (rS 12) (.seq (.seq (rS 13) (.block 6 (.loop (.seq hBi (.seq (.block 7 (rS 16)) (rS 15)))))) (rS 17)))) (rS 11)))))).wp Tryz.prog Q a w:=by
 have e5:a.tmps.getD 5 undef= .slice none 0 0:=I.fr 5
 have I0:aK qc 107 (sU vs) ⟨[(0,Jf vs),(5,oL 0)],mB []⟩ a w ⟨[.slice none 0 0],[]⟩:=by
  refine⟨Gx fun b h=>V.new X h,akn ⟨_,_,_,rfl⟩ (World.ownsRow_nil _ _ _ _) (fun ok=>rfl) (fun b e=>by cases e),dw.of ⟨?_,?_,trivial⟩,I.size,I.defers⟩
  ·exact Rd.mono (fun b h=>⟨(okG ⟨_,_,_,rfl⟩).2 (by simp[Value.ownBlock]),h.2⟩) (I.fr 0:Rd _ _ _ _ _)
  ·show aS _ _ _ _ _ (oL 0) (a.tmps.getD 5 undef)
   rw[e5]
   exact⟨rfl,_,_,_,rfl⟩
 refine wp_seq (je lK qK mix I0 (e9 vs []) (fun vs' m' a1 w1 jZ e I1 K1=> ?_) (fun j vs' m' a2 w2 gV e=>by cases e) (fun vs' m' a2 w2 gV e=>by cases e))
 cases e
 obtain rfl:jZ=⟨[.slice none 0 0],[]⟩:=Ow.ext' (K1.DK I0.mem I1.mem rfl) (I1.mem.xJ rfl)
 have QA:∀b,ay ⟨[.slice none 0 0],[]⟩ (mB []) b:=fun b=>(okG ⟨_,_,_,rfl⟩).2 (by simp[Value.ownBlock])
 have X1:=X.aW K1 fun b _ _=>QA b
 have R1:=R.aW (w':=w1) fun v hv b e=>(K1.stay b (Nat.lt_of_lt_of_le (V.lt v hv b e) X.size) (QA b)).2.2
 refine wp_block (wp_loop (fun a' w'=>∃(i:Nat) (gs:List Value) (vg:Value),i≤vs.length∧VA w0 w' vs∧Grown w0 w' vs xI vg gs i∧aK qc 107 (sU vs) (sB vs gs (i:Int)) a' w' ⟨[vg],[]⟩)
  (fun a' _=>vs.length-bV 6 a') ⟨0,[],.slice none 0 0,Nat.zero_le _,X1,⟨rfl,R1.1,fun j v ys h=>absurd h (Nat.not_lt_zero _),fun j v ys _ hv hy=>R1.2 j v ys hv hy,(fun b e=>by cases e)⟩,I1⟩ ?_)
 clear I I0 I1 K1 X R X1 R1 QA e5
 rintro a1 w1 ⟨i,gs,vg,hi,X1,G1,I1⟩
 have h6:bV 6 a1=i:=I1.bV rfl
 obtain⟨vg',cgs,Ew,sV,Na,adM⟩:=I1.mem.own (r:=0) (row:=jO gs) rfl rfl rfl
 obtain rfl:vg=vg':=Option.some.inj Ew
 have Vb:∀b,b<w0.heap.size→ay ⟨[vg],[]⟩ (mB gs) b:=fun b hb=>(okG sV).2 fun e=>by have:=G1.new b e;omega
 by_cases dX:i<vs.length
 ·have yx:(i:Int)<(vs.length:Int):=by omega
  refine wp_seq (je lK qK mix I1 ((eB vs gs i).trans (by rw[decide_eq_true yx];rfl)) (fun vs' m' a2 w2 gV e I2 K2=> ?_) (fun j vs' m' a2 w2 gV e=>by cases e) (fun vs' m' a2 w2 gV e=>by cases e))
  cases e
  obtain rfl:gV=⟨[vg],[]⟩:=Ow.ext' (K2.DK I1.mem I2.mem rfl) (I2.mem.xJ rfl)
  obtain⟨vg',aw9,Ew,_,ako,anm⟩:=I2.mem.own (r:=0) (row:=jO gs) rfl rfl rfl
  obtain rfl:vg=vg':=Option.some.inj Ew
  obtain⟨v,hv⟩:∃v,vs[i]? =some v:=⟨_,List.getElem?_eq_getElem dX⟩
  have hvm:v∈vs:=List.mem_of_getElem? hv
  have sK:=V.slice v hvm
  obtain⟨ys,hy⟩:∃ys,xI[i]? =some ys:=⟨_,List.getElem?_eq_getElem (by rw[G1.RN];exact dX)⟩
  have adI:=hb ys (List.mem_of_getElem? hy)
  have hold:=G1.todo i v ys (Nat.le_refl _) hv hy
  obtain⟨n,rfl⟩:∃n,ys=bK i n:=⟨_,hm i ys hy⟩
  rw[jD]at adI
  have X2:=X1.aW K2 fun b hb _=>Vb b hb
  have XM:w2.ownsRow 0 114 1 v (bK i n).length ((bK i n).map (Value.int .u32)):=gZ hold fun b e=>(K2.stay b (Nat.lt_of_lt_of_le (V.lt v hvm b e) X1.size) (Vb b (V.lt v hvm b e))).2.2
  have ano:∀b,vg.ownBlock=some b→v.ownBlock≠some b:=fun b e e'=>by
   have:=G1.new b e
   have:=V.lt v hvm b e'
   omega
  have I3:aK qc 107 (aaz vs v) ⟨[(0,.sK 37 vs (i:Int) 1),(5,oL 0),(6,ci .i64 (i:Int))],⟨[some (jO gs),some (iJ (bK i n))],[]⟩⟩ a2 w2 ⟨[vg,v],[]⟩:=by
   refine⟨Gx fun b h=> .inl (V.new X2 h),adJ sV sK ako (fun ok=>aY.flat rfl anm) XM ano (fun b e=> .inl fun v' Cm e'=> ?_) (fun b e=> .inr e),dw.of ⟨?_,?_,?_,trivial⟩,I2.size,I2.defers⟩
   ·have:=G1.new b e
    have:=V.lt v' Cm b e'
    omega
   ·exact ⟨Rd.mono (fun b h=>⟨(DL sV sK).2 ⟨(okG sV).1 h.1,h.2 rfl v hvm⟩,fun _=> .inl (h.2 rfl)⟩) (I2.fr 0:Rd _ _ _ _ _),Int.natCast_nonneg i,v,by simpa using hv,rfl⟩
   ·have h:([vg]:List Value)[0]? =some (a2.tmps.getD 5 undef)∧_:=I2.fr 5
    exact⟨h.1,h.2⟩
   ·exact (I2.fr 6:aS _ _ _ _ _ _ _)
  refine wp_seq (wp_block (wp_seq (je lK qK mix I3 ((e12 vs gs i (bK i n)).trans (by rw[decide_eq_true rfl];rfl)) (fun vs' m' a4 w4 ED e I4 K4=> ?_) (fun j vs' m' a2 w2 gV e=>by cases e) (fun vs' m' a2 w2 gV e=>by cases e))))
  cases e
  obtain rfl:ED=⟨[vg,v],[]⟩:=Ow.ext' (K4.DK I3.mem I4.mem rfl) (I4.mem.xJ rfl)
  obtain⟨u,hu⟩:∃u,u=a4.tmps.getD 0 undef:=⟨_,rfl⟩
  have S0:Rd w4 (fun b=>vg.ownBlock≠some b∧sU vs b) (.sl 37 .hd) vs [u]:=by
   rw[hu]
   have h:aS w4 _ (aaz vs v) _ _ (.sK 37 vs (i:Int) 1) (a4.tmps.getD 0 undef):=I4.fr 0
   exact Rd.mono (fun b hb=>⟨((DL sV sK).1 hb.1).1,(hb.2 rfl).resolve_right ((DL sV sK).1 hb.1).2⟩) h.1
  have I4':aK qc 107 (aaz vs v) ⟨[(0,rV u),(5,oL 0),(6,ci .i64 (i:Int)),(7,oL 1)],⟨[some (jO gs),some (iJ (bK i n))],[]⟩⟩ a4 w4 ⟨[vg,v],[]⟩:=by
   refine⟨I4.live,I4.mem,dw.of ⟨?_,I4.fr 5,I4.fr 6,I4.fr 7,trivial⟩,I4.size,I4.defers⟩
   show[a4.tmps.getD 0 undef]=[u]∧_
   exact⟨by rw[hu],Rd.one S0 u (by simp)⟩
  refine wp_seq (wp_seq (je lK qK mix I4' (e13 u gs i (bK i n)) (fun vs' m' a5 w5 Nc e I5 K5=> ?_) (fun j vs' m' a2 w2 gV e=>by cases e) (fun vs' m' a2 w2 gV e=>by cases e)))
  cases e
  obtain rfl:Nc=⟨[vg,v],[]⟩:=Ow.ext' (K5.DK I4'.mem I5.mem rfl) (I5.mem.xJ rfl)
  have anp:w2.heap.size≤w5.heap.size:=Nat.le_trans K4.size K5.size
  refine agY (fun b h=> .inl (V.new X2 (by omega))) (by omega) I5 fun a6 w6 g I6 K6 P6 B6=> ?_
  obtain⟨vg',aw_,Ew,_,akp,anq⟩:=I6.mem.own (r:=0) (row:=jO gs) rfl rfl rfl
  obtain rfl:vg=vg':=Option.some.inj Ew
  obtain⟨g',csg,zA,air,anr,ar5⟩:=I6.mem.own (r:=1) (row:=iJ (bK i (n+16))) rfl rfl rfl
  obtain rfl:g=g':=Option.some.inj zA
  have ar6:∀b,vg.ownBlock=some b→g.ownBlock≠some b:=fun b e1 e2=>by
   have h1:eG ⟨[vg,g],[]⟩ ⟨[some (jO gs),some (iJ (bK i (n+16)))],[]⟩ (.row 0)=some b:=by rw[fF rfl rfl rfl,jl sV];exact e1
   have h2:eG ⟨[vg,g],[]⟩ ⟨[some (jO gs),some (iJ (bK i (n+16)))],[]⟩ (.row 1)=some b:=by rw[fF rfl rfl rfl,jl air];exact e2
   cases I6.mem.qp _ _ b h1 h2
  have I6':aK qc 107 (fun b=>w0.heap.size≤b) ⟨[(0,rV u),(5,oL 0),(6,ci .i64 (i:Int)),(7,.one (.lf (.val true .hd g)))],mB gs⟩ a6 w6 ⟨[vg],[]⟩:=by
   refine⟨Gx fun b h=> ?_,akn sV akp (fun ok=>aY.flat rfl anq) G1.new,dw.of ⟨(I6.fr 0:aS _ _ _ _ _ _ _),?_,(I6.fr 6:aS _ _ _ _ _ _ _),?_,trivial⟩,I6.size,I6.defers⟩
   ·have:=X2.size
    have:=K6.size
    omega
   ·have h:([vg,g]:List Value)[0]? =some (a6.tmps.getD 5 undef)∧_:=I6.fr 5
    exact⟨h.1,h.2⟩
   ·have h:([vg,g]:List Value)[1]? =some (a6.tmps.getD 7 undef)∧_:=I6.fr 7
    have e:=Option.some.inj h.1
    show[a6.tmps.getD 7 undef]=[g]∧_
    exact⟨by rw[←e],air⟩
  have Jp:(decide (List.length gs+List.length [g]<zy 24))=true:=by
   have:=G1.len
   rw[decide_eq_true_eq]
   simp only[List.length_singleton]
   show gs.length+1<5864062014805
   omega
  refine je fB.aH qK mix I6' ((e17 u gs i g).trans (by rw[Jp];rfl)) (fun vs' m' a7 w7 ow7 e I7 K7=> ?_) (fun j vs' m' a2 w2 gV e=>by cases e) (fun vs' m' a2 w2 gV e=>by cases e)
  cases e
  obtain⟨vg2,axa,ant,Vd,akr,anu⟩:=I7.mem.own (r:=2) (row:=jO (List.append gs [g])) rfl rfl rfl
  have anv:∀b,vg2.ownBlock=some b→eG ow7 ⟨[none,some ⟨37,.hd,true,false,[g]⟩,some (jO (List.append gs [g]))],[]⟩ (.row 2)=some b:=fun b e=>by
   rw[fF rfl ant rfl,jl Vd];exact e
  have new2:∀b,vg2.ownBlock=some b→w0.heap.size≤b:=fun b e=>(I7.mem.fH _ b (anv b e)).1
  have anw:∀b,b<w6.heap.size→vg.ownBlock≠some b→vg2.ownBlock≠some b∧b<w7.heap.size∧w7.heap[b]? =w6.heap[b]? :=fun b hb h=>by
   obtain⟨h1,h2,h3⟩:=K7.stay b hb ((okG sV).2 h)
   exact⟨fun e=>h1 _ (anv b e),h2,h3⟩
  have anx:∀b,b<w4.heap.size→vg.ownBlock≠some b→v.ownBlock≠some b→vg2.ownBlock≠some b∧b<w7.heap.size∧w7.heap[b]? =w4.heap[b]? :=fun b hb h h'=>by
   obtain⟨_,h2,h3⟩:=K5.stay b hb ((DL sV sK).2 ⟨h,h'⟩)
   obtain⟨_,h5,h6⟩:=K6.stay b h2 ((DL sV sK).2 ⟨h,h'⟩)
   obtain⟨h7,h8,h9⟩:=anw b h5 h
   exact⟨h7,h8,(h9.trans h6).trans h3⟩
  have aks:∀b,b<w1.heap.size→vg.ownBlock≠some b→v.ownBlock≠some b→vg2.ownBlock≠some b∧b<w7.heap.size∧w7.heap[b]? =w1.heap[b]? :=fun b hb h h'=>by
   obtain⟨_,h2,h3⟩:=K2.stay b hb ((okG sV).2 h)
   obtain⟨_,h5,h6⟩:=K4.stay b h2 ((DL sV sK).2 ⟨h,h'⟩)
   obtain⟨h7,h8,h9⟩:=anx b h5 h h'
   exact⟨h7,h8,(h9.trans h6).trans h3⟩
  have X7:VA w0 w7 vs:=⟨Nat.le_trans X2.size (Nat.le_trans anp (Nat.le_trans K6.size K7.size)),fun b hb ho=>((aks b (Nat.lt_of_lt_of_le hb X1.size) ((okG sV).1 (Vb b hb)) (ho v hvm)).2.2).trans (X1.block b hb ho),
   K7.os.trans (K6.os.trans (K5.os.trans (K4.os.trans X2.os))),K7.tape.trans (K6.tape.trans (K5.tape.trans (K4.tape.trans X2.tape))),K7.output.trans (K6.output.trans (K5.output.trans (K4.output.trans X2.output)))⟩
  have I7':aK qc 107 (sU vs) (sB vs (gs++[g]) i) a7 w7 ⟨[vg2],[]⟩:=by
   refine⟨Gx fun b h=>V.new X7 h,akn Vd akr (fun ok=>aY.flat rfl anu) (fun b e v' Cm e'=> ?_),dw.of ⟨?_,?_,(I7.fr 6:aS _ _ _ _ _ _ _),trivial⟩,I7.size,I7.defers⟩
   ·have:=new2 b e
    have:=V.lt v' Cm b e'
    omega
   ·have h:[a7.tmps.getD 0 undef]=[u]∧_:=I7.fr 0
    show Rd w7 _ (.sl 37 .hd) vs [a7.tmps.getD 0 undef]
    rw[h.1]
    exact S0.aW fun b hb ⟨h1,h2⟩=>by
     obtain⟨h3,h4,h5⟩:=anx b hb h1 (h2 v hvm)
     exact⟨⟨(okG Vd).2 h3,fun _=>h2⟩,h4,h5⟩
   ·have h:ow7.rv[2]? =some (a7.tmps.getD 5 undef)∧_:=I7.fr 5
    rw[ant]at h
    exact⟨h.1,h.2⟩
  refine je lK qK mix I7' (e11 vs (gs++[g]) i) (fun vs' m' a8 w8 ow8 e I8 K8=> ?_) (fun j vs' m' a2 w2 gV e=>by cases e) (fun vs' m' a2 w2 gV e=>by cases e)
  cases e
  obtain rfl:ow8=⟨[vg2],[]⟩:=Ow.ext' (K8.DK I7'.mem I8.mem rfl) (I8.mem.xJ rfl)
  rw[tu (show i<4611686018427387904 by omega)]at I8
  have G7:Grown w0 w7 vs xI vg2 (gs++[g]) (i+1):=by
   refine⟨by rw[List.length_append,G1.len];rfl,G1.RN,fun j v' ys' hj Cm Qe=> ?_,fun j v' ys' hj Cm Qe=> ?_,new2⟩
   ·by_cases e:j=i
    ·subst e
     obtain rfl:v=v':=Option.some.inj (hv.symm.trans Cm)
     obtain rfl:=Option.some.inj (hy.symm.trans Qe)
     have st:iF w6 (dn w0 vg v) w7 (dn w0 vg2 v):=fun b hb hd=>by
      obtain⟨h1,h2⟩:=anw b hb hd.1
      exact⟨⟨h1,hd.2⟩,h2⟩
     refine⟨g,by rw[←G1.len,List.getElem?_append_right (Nat.le_refl _),Nat.sub_self];rfl,Rd.aW st ?_,Rd.aW st ?_⟩
     ·exact aax XM (fun b e=>Nat.lt_of_lt_of_le (V.lt v hvm b e) (Nat.le_trans X2.size (Nat.le_trans anp K6.size))) P6 fun b e=>⟨fun e'=>ano b e' e,.inl e⟩
     ·rw [jD]
      refine oN anr (aY.flat rfl ar5) fun b e=>⟨fun e'=>ar6 b e' e,?_⟩
      by_cases hb5:b<w5.heap.size
      ·exact .inl (B6 b e hb5)
      ·exact .inr (by have:=X2.size;omega)
    ·obtain ⟨g1,h1,h2,h3⟩:=G1.done j v' ys' (by omega) Cm Qe
     have st:iF w1 (dn w0 vg v') w7 (dn w0 vg2 v'):=fun b hb hd=>by
      obtain⟨h1,h2⟩:=aks b hb hd.1 fun e'=>by
       rcases hd.2 with h|h
       ·exact e (V.qp j i v' v b Cm hv h e')
       ·have:=V.lt v hvm b e'
        omega
      exact⟨⟨h1,hd.2⟩,h2⟩
     exact⟨g1,by rw[List.getElem?_append_left (List.getElem?_eq_some_iff.1 h1).1];exact h1,h2.aW st,h3.aW st⟩
   ·refine gZ (G1.todo j v' ys' (by omega) Cm Qe) fun b e=>(aks b ?_ ?_ ?_).2.2
    ·exact Nat.lt_of_lt_of_le (V.lt v' (List.mem_of_getElem? Cm) b e) X1.size
    ·exact (okG sV).1 (Vb b (V.lt v' (List.mem_of_getElem? Cm) b e))
    ·intro e'
     have:=V.qp j i v' v b Cm hv e e'
     omega
  have k8:∀b,b<w7.heap.size→vg2.ownBlock≠some b→b<w8.heap.size∧w8.heap[b]? =w7.heap[b]? :=fun b hb h=>(K8.stay b hb ((okG Vd).2 h)).2
  refine⟨⟨i+1,gs++[g],vg2,by omega,X7.aW K8 fun b hb _=>(okG Vd).2 fun e=>by have:=new2 b e;omega,G7.aW V X7 k8,I8⟩,?_⟩
  have h9:bV 6 a8=i+1:=I8.bV rfl
  show vs.length-bV 6 a8<vs.length-bV 6 a1
  omega
 ·have yx:¬(i:Int)<(vs.length:Int):=by omega
  refine wp_seq (je lK qK mix I1 ((eB vs gs i).trans (by rw[decide_eq_false yx];rfl)) (fun vs' m' a2 w2 gV e=>by cases e) (fun j vs' m' a2 w2 gV e I2 K2=> ?_) (fun vs' m' a2 w2 gV e=>by cases e))
  cases e
  obtain rfl:gV=⟨[vg],[]⟩:=Ow.ext' (K2.DK I1.mem I2.mem rfl) (I2.mem.xJ rfl)
  obtain rfl:i=vs.length:=by omega
  simp only[Exit.then,Exit.inBlock,if_true]
  exact hQ vg gs a2 w2 (X1.aW K2 fun b hb _=>Vb b hb) (G1.aW V X1 fun b hb h=>(K2.stay b hb ((okG sV).2 h)).2) I2
set_option maxRecDepth 100000
abbrev tt:Nat→Prop:=fun _=>True
abbrev sC (xs gs:List (List Int))(i:Int):S:=⟨[(0,uM xs),(5,uM gs),(9,ci .i64 i)],⟨[],[]⟩⟩
abbrev sC1 (xs gs:List (List Int))(i k:Int):S:=⟨[(0,uM xs),(5,uM gs),(9,ci .i64 i),(10,ci .i64 k)],⟨[],[]⟩⟩
abbrev sC2 (xs gs:List (List Int))(i k:Int):S:=⟨[(0,uM xs),(5,uM gs),(9,ci .i64 i),(11,ci .i64 k)],⟨[],[]⟩⟩
theorem uy {may:Nat→Prop}{ow:Ow}{a:Act}{w:World}{fr:List (Nat×SV)}(J:aK qc 107 may ⟨fr,⟨[],[]⟩⟩ a w ow):ow=⟨[],[]⟩:=
 Ow.ext' (List.length_eq_zero_iff.1 J.mem.lX) (J.mem.xJ rfl)
def Cb (xs:List (List Int)):Prop:=∀(i:Nat) (ys:List Int),xs[i]? =some ys→ys=bK i ys.length∧ys.length<4611686018427387904
theorem PN {i:Int}{n k:Nat}(h:k<n):(bK i n).getD k 0=Mk i (k:Int):=by simp[bK,h]
theorem Cb.at {xs:List (List Int)}(h:Cb xs){i:Nat}(hi:i<xs.length):∃n,xs.getD i []=bK i n∧n<4611686018427387904:=by
 have e:xs[i]? =some xs[i]:=List.getElem?_eq_getElem hi
 obtain⟨h1,h2⟩:=h i _ e
 refine⟨xs[i].length,?_,h2⟩
 rw[List.getD_eq_getElem?_getD,e];exact h1
theorem anz {xs gs:List (List Int)}(hx:Cb xs){i:Nat}(hi:i<xs.length){a:Act}{w:World}{Q:Exit→Act→World→Prop}(I:aK qc 107 tt (sC1 xs gs i 0) a w ⟨[],[]⟩)
  (hQ:∀(k:Int) a' w',aK qc 107 tt (sC1 xs gs i k) a' w' ⟨[],[]⟩→Kp tt w ⟨[],[]⟩ ⟨[],[]⟩ w' ⟨[],[]⟩ ⟨[],[]⟩→Q .normal a' w'):(Code.block 10 (.loop cC1)).wp Tryz.prog Q a w:=by
 obtain⟨n,hn,hb⟩:=hx.at hi
 have yx:(decide (0≤(i:Int))&&decide ((i:Int)<(xs.length:Int)))=true:=by simp[hi]
 refine wp_block (wp_loop (fun a' w'=>∃k:Nat,k≤n∧aK qc 107 tt (sC1 xs gs i (k:Int)) a' w' ⟨[],[]⟩∧Kp tt w ⟨[],[]⟩ ⟨[],[]⟩ w' ⟨[],[]⟩ ⟨[],[]⟩) (fun a' _=>n-bV 10 a') ⟨0,Nat.zero_le _,I,Kp.refl _ _ _ _⟩ ?_)
 rintro a1 w1 ⟨k,hk,I1,K1⟩
 have h10:bV 10 a1=k:=I1.bV rfl
 by_cases dX:k<n
 ·have Qb:(k:Int)<((bK i n).length:Int):=by rw[jD];omega
  have hk2:(decide (0≤(k:Int))&&decide ((k:Int)<((bK i n).length:Int)))=true:=by rw[decide_eq_true Qb];simp
  have e:=eC1 xs gs i k
  rw[yx,Int.toNat_natCast,hn,hk2,decide_eq_true Qb,RH]at e
  simp only[cond_true,Option.bind_some,Int.toNat_natCast,PN dX,beq_self_eq_true,Bool.not_true,cond_false,tu (show k<4611686018427387904 by omega)]at e
  refine je lK qK mix I1 e (fun vs' m' a2 w2 gV e I2 K2=> ?_) (fun j vs' m' a2 w2 gV e=>by cases e) (fun vs' m' a2 w2 gV e=>by cases e)
  cases e
  obtain rfl:=uy I2
  refine⟨⟨k+1,by omega,I2,K1.trans K2.kp⟩,?_⟩
  have h11:bV 10 a2=k+1:=I2.bV rfl
  show n-bV 10 a2<n-bV 10 a1
  omega
 ·have Qb:¬(k:Int)<((bK i n).length:Int):=by rw[jD];omega
  have e:=eC1 xs gs i k
  rw[yx,Int.toNat_natCast,hn,decide_eq_false Qb]at e
  simp only[cond_true,cond_false]at e
  refine je lK qK mix I1 e (fun vs' m' a2 w2 gV e=>by cases e) (fun j vs' m' a2 w2 gV e I2 K2=> ?_) (fun vs' m' a2 w2 gV e=>by cases e)
  cases e
  obtain rfl:=uy I2
  simp only[Exit.then,Exit.inBlock,if_true]
  exact hQ _ a2 w2 I2 (K1.trans K2.kp)
theorem anA {xs gs:List (List Int)}(hx:Cb gs){i:Nat}(hi:i<gs.length){a:Act}{w:World}{Q:Exit→Act→World→Prop}(I:aK qc 107 tt (sC2 xs gs i 0) a w ⟨[],[]⟩)
  (hQ:∀(k:Int) a' w',aK qc 107 tt (sC2 xs gs i k) a' w' ⟨[],[]⟩→Kp tt w ⟨[],[]⟩ ⟨[],[]⟩ w' ⟨[],[]⟩ ⟨[],[]⟩→Q .normal a' w'):(Code.block 12 (.loop cC2)).wp Tryz.prog Q a w:=by
 obtain⟨n,hn,hb⟩:=hx.at hi
 have yx:(decide (0≤(i:Int))&&decide ((i:Int)<(gs.length:Int)))=true:=by simp[hi]
 refine wp_block (wp_loop (fun a' w'=>∃k:Nat,k≤n∧aK qc 107 tt (sC2 xs gs i (k:Int)) a' w' ⟨[],[]⟩∧Kp tt w ⟨[],[]⟩ ⟨[],[]⟩ w' ⟨[],[]⟩ ⟨[],[]⟩) (fun a' _=>n-bV 11 a') ⟨0,Nat.zero_le _,I,Kp.refl _ _ _ _⟩ ?_)
 rintro a1 w1 ⟨k,hk,I1,K1⟩
 have h10:bV 11 a1=k:=I1.bV rfl
 by_cases dX:k<n
 ·have Qb:(k:Int)<((bK i n).length:Int):=by rw[jD];omega
  have hk2:(decide (0≤(k:Int))&&decide ((k:Int)<((bK i n).length:Int)))=true:=by rw[decide_eq_true Qb];simp
  have e:=eC2 xs gs i k
  rw[yx,Int.toNat_natCast,hn,hk2,decide_eq_true Qb,RH]at e
  simp only[cond_true,Option.bind_some,Int.toNat_natCast,PN dX,beq_self_eq_true,Bool.not_true,cond_false,tu (show k<4611686018427387904 by omega)]at e
  refine je lK qK mix I1 e (fun vs' m' a2 w2 gV e I2 K2=> ?_) (fun j vs' m' a2 w2 gV e=>by cases e) (fun vs' m' a2 w2 gV e=>by cases e)
  cases e
  obtain rfl:=uy I2
  refine⟨⟨k+1,by omega,I2,K1.trans K2.kp⟩,?_⟩
  have h11:bV 11 a2=k+1:=I2.bV rfl
  show n-bV 11 a2<n-bV 11 a1
  omega
 ·have Qb:¬(k:Int)<((bK i n).length:Int):=by rw[jD];omega
  have e:=eC2 xs gs i k
  rw[yx,Int.toNat_natCast,hn,decide_eq_false Qb]at e
  simp only[cond_true,cond_false]at e
  refine je lK qK mix I1 e (fun vs' m' a2 w2 gV e=>by cases e) (fun j vs' m' a2 w2 gV e I2 K2=> ?_) (fun vs' m' a2 w2 gV e=>by cases e)
  cases e
  obtain rfl:=uy I2
  simp only[Exit.then,Exit.inBlock,if_true]
  exact hQ _ a2 w2 I2 (K1.trans K2.kp)
theorem ag0 {xs gs:List (List Int)}(hx:Cb xs)(hg:Cb gs)(hl:gs.length=xs.length)(hb:xs.length<4611686018427387904){a:Act}{w:World}{Q:Exit→Act→World→Prop}(I:aK qc 107 tt ⟨[(0,uM xs),(5,uM gs)],⟨[],[]⟩⟩ a w ⟨[],[]⟩)
  (hQ:∀a' w',aK qc 107 tt (sC xs gs (xs.length:Int)) a' w' ⟨[],[]⟩→Kp tt w ⟨[],[]⟩ ⟨[],[]⟩ w' ⟨[],[]⟩ ⟨[],[]⟩→Q .normal a' w'):
  (Code.seq (rS 18) (.block 8 (.loop (.seq hC (.seq (.block 9 (.seq (.seq (rS 21) (.block 10 (.loop cC1))) (.seq (rS 26) (.block 12 (.loop cC2))))) (rS 20)))))).wp Tryz.prog Q a w:=by
 refine wp_seq (je lK qK mix I (e18 xs gs) (fun vs' m' a0 w0 BH e I0 K0=> ?_) (fun j vs' m' a2 w2 gV e=>by cases e) (fun vs' m' a2 w2 gV e=>by cases e))
 cases e
 obtain rfl:=uy I0
 refine wp_block (wp_loop (fun a' w'=>∃i:Nat,i≤xs.length∧aK qc 107 tt (sC xs gs (i:Int)) a' w' ⟨[],[]⟩∧Kp tt w ⟨[],[]⟩ ⟨[],[]⟩ w' ⟨[],[]⟩ ⟨[],[]⟩) (fun a' _=>xs.length-bV 9 a') ⟨0,Nat.zero_le _,I0,K0.kp⟩ ?_)
 rintro a1 w1 ⟨i,hi,I1,K1⟩
 have h9:bV 9 a1=i:=I1.bV rfl
 by_cases dX:i<xs.length
 ·have yx:(i:Int)<(xs.length:Int):=by omega
  refine wp_seq (je lK qK mix I1 ((eC xs gs i).trans (by rw[decide_eq_true yx];rfl)) (fun vs' m' a2 w2 gV e I2 K2=> ?_) (fun j vs' m' a2 w2 gV e=>by cases e) (fun vs' m' a2 w2 gV e=>by cases e))
  cases e
  obtain rfl:=uy I2
  refine wp_seq (wp_block (wp_seq (wp_seq (je lK qK mix I2 (e21 xs gs i) (fun vs' m' a3 w3 qA e I3 K3=> ?_) (fun j vs' m' a2 w2 gV e=>by cases e) (fun vs' m' a2 w2 gV e=>by cases e)))))
  cases e
  obtain rfl:=uy I3
  refine anz hx dX I3 fun k a4 w4 I4 K4=> ?_
  have I4':aK qc 107 tt (sC xs gs i) a4 w4 ⟨[],[]⟩:=⟨I4.live,I4.mem,dw.of ⟨I4.fr 0,I4.fr 5,I4.fr 9,trivial⟩,I4.size,I4.defers⟩
  refine wp_seq (je lK qK mix I4' (e26 xs gs i) (fun vs' m' a5 w5 Nc e I5 K5=> ?_) (fun j vs' m' a2 w2 gV e=>by cases e) (fun vs' m' a2 w2 gV e=>by cases e))
  cases e
  obtain rfl:=uy I5
  refine anA hg (by omega) I5 fun k' a6 w6 I6 K6=> ?_
  have I6':aK qc 107 tt (sC xs gs i) a6 w6 ⟨[],[]⟩:=⟨I6.live,I6.mem,dw.of ⟨I6.fr 0,I6.fr 5,I6.fr 9,trivial⟩,I6.size,I6.defers⟩
  refine je lK qK mix I6' (e20 xs gs i) (fun vs' m' a7 w7 ow7 e I7 K7=> ?_) (fun j vs' m' a2 w2 gV e=>by cases e) (fun vs' m' a2 w2 gV e=>by cases e)
  cases e
  obtain rfl:=uy I7
  rw[tu (show i<4611686018427387904 by omega)]at I7
  refine⟨⟨i+1,by omega,I7,(((((K1.trans K2.kp).trans K3.kp).trans K4).trans K5.kp).trans K6).trans K7.kp⟩,?_⟩
  have h10:bV 9 a7=i+1:=I7.bV rfl
  show xs.length-bV 9 a7<xs.length-bV 9 a1
  omega
 ·have yx:¬(i:Int)<(xs.length:Int):=by omega
  refine wp_seq (je lK qK mix I1 ((eC xs gs i).trans (by rw[decide_eq_false yx];rfl)) (fun vs' m' a2 w2 gV e=>by cases e) (fun j vs' m' a2 w2 gV e I2 K2=> ?_) (fun vs' m' a2 w2 gV e=>by cases e))
  cases e
  obtain rfl:=uy I2
  obtain rfl:i=xs.length:=by omega
  simp only[Exit.then,Exit.inBlock,if_true]
  exact hQ a2 w2 I2 (K1.trans K2.kp)
theorem YQ {w:World}{Qd Qd':Nat→Prop}{vs:List Value}{xs:List (List Int)}{u:Value}(h:Rd w Qd (.sl 37 .hd) vs [u])(hl:xs.length=vs.length)(hQ:∀b,Qd b→Qd' b)(hx:∀(j:Nat)(v:Value)(ys:List Int),vs[j]? =some v→xs[j]? =some ys→Rd w Qd' KU ys [v]):Rd w Qd' (.sl 37 KU) xs [u]:=by
 obtain⟨A,c,e,hc,KR⟩:=h
 refine⟨A,c,by rw[e];exact congrArg (fun n=>[Value.slice A n c]) hl.symm,Nat.le_trans (Nat.le_of_eq hl) hc,fun j ys hj=> ?_⟩
 have Vw:j<vs.length:=by rw[←hl];exact(List.getElem?_eq_some_iff.1 hj).1
 obtain⟨ad,es,rfl,h1,h2,⟨rfl,h3⟩,h4⟩:=KR j vs[j] (List.getElem?_eq_getElem Vw)
 exact⟨ad,[vs[j]],rfl,h1,hQ _ h2,hx j vs[j] ys (List.getElem?_eq_getElem Vw) hj,h4⟩
theorem Ar {u:Value}{n:Nat}:((#[u]:Array Value)++Array.replicate n undef).getD 0 undef=u:=by
 rw[Array.getD_eq_getD_getElem?,Array.getElem?_append_left (by simp)];rfl
theorem Au {u:Value}{n N:Nat}(h:n=N+1):((#[u]:Array Value)++Array.replicate (n-(#[u]:Array Value).size) undef).size=N+1:=by subst h;simp;omega
theorem Ve {w:World}{vs:List Value}{xss:List (List Int)}{u:Value}(V:SpV w vs)(R:SpR w vs xss)(hu:Rd w (sU vs) (.sl 37 .hd) vs [u])(hb:∀xs∈xss,xs.length<35184372087000)(X9:vs.length<5864062014000):
  Calls Tryz.prog 19 #[u] w fun e w'=>e= .returned (.bool true)∧VA w w' vs:=by
 refine calls_of_wp Tryz.func19 agT ?_
 obtain⟨a0,DF⟩:∃a0:Act,a0={tmps:= #[u]++Array.replicate (Tryz.f19.ntmps-(#[u]:Array Value).size) undef,defers:=[]}:=⟨_,rfl⟩
 have h0:a0.tmps.getD 0 undef=u:=by rw[DF];exact Ar
 have h1:a0.tmps.size=107:=by rw[DF];exact Au (by kernel_rfl)
 have h2:a0.defers=[]:=by rw[DF]
 rw[←DF]
 clear DF
 have I0:aK qc 107 (sU vs) ⟨[(0,Jf vs)],⟨[],[]⟩⟩ a0 w ⟨[],[]⟩:=by
  refine⟨Gx fun b h v hv e=>by have:=V.lt v hv b e;omega,Ky,dw.of ⟨?_,trivial⟩,h1,h2⟩
  show Rd w _ (.sl 37 .hd) vs [a0.tmps.getD 0 undef]
  rw[h0]
  exact Rd.mono (fun b h=>⟨oQ b,fun _=>h⟩) hu
 have X0:VA w w vs:=⟨Nat.le_refl _,fun _ _ _=>rfl,rfl,rfl,rfl⟩
 refine wp_seq (je lK qK mix I0 (e0 vs) (fun vs' m' a1 w1 jZ e I1 K1=> ?_) (fun j vs' m' a2 w2 gV e=>by cases e) (fun vs' m' a2 w2 gV e=>by cases e))
 cases e
 obtain rfl:=uy I1
 refine wp_seq (wp_seq (je lK qK mix I1 (e1 vs) (fun vs' m' a2 w2 gV e I2 K2=> ?_) (fun j vs' m' a2 w2 gV e=>by cases e) (fun vs' m' a2 w2 gV e=>by cases e)))
 cases e
 obtain rfl:=uy I2
 have K12:=K1.trans K2
 have X2:=X0.aW K12 fun b _ _=>oQ b
 have R2:=R.aW (w':=w2) fun v hv b e=>(K12.stay b (V.lt v hv b e) (oQ b)).2.2
 refine adH V X2 R2 (fun xs h=>by have:=hb xs h;omega) (by omega) I2 fun xI a3 w3 hl hz X3 R3 I3=> ?_
 have hyb:∀ys∈xI,ys.length<35184372087000:=fun ys h=>by
  have h1:ys.length∈xss.map List.length:=by rw[←hl];exact List.mem_map_of_mem h
  obtain⟨xs,h2,h3⟩:=List.mem_map.1 h1
  rw[←h3];exact hb xs h2
 have I3':aK qc 107 (sU vs) ⟨[(0,Jf vs)],⟨[],[]⟩⟩ a3 w3 ⟨[],[]⟩:=⟨I3.live,I3.mem,dw.of ⟨I3.fr 0,trivial⟩,I3.size,I3.defers⟩
 refine wp_seq (je lK qK mix I3' (e8 vs) (fun vs' m' a4 w4 ED e I4 K4=> ?_) (fun j vs' m' a2 w2 gV e=>by cases e) (fun vs' m' a2 w2 gV e=>by cases e))
 cases e
 obtain rfl:=uy I4
 have X4:=X3.aW K4 fun b _ _=>oQ b
 have R4:=R3.aW (w':=w4) fun v hv b e=>(K4.stay b (Nat.lt_of_lt_of_le (V.lt v hv b e) X3.size) (oQ b)).2.2
 refine wp_seq (agZ V X4 R4 hyb X9 (fun i ys hy=>Va (hz i ys hy)) I4 fun vg gs a5 w5 X5 G5 I5=> ?_)
 obtain⟨vg',cgs,Ew,sV,Na,adM⟩:=I5.mem.own (r:=0) (row:=jO gs) rfl rfl rfl
 obtain rfl:vg=vg':=Option.some.inj Ew
 obtain⟨gss,hgs⟩:∃gss,gss=(List.range vs.length).map fun (j:Nat)=>bK (j:Int) ((xI.getD j []).length+16):=⟨_,rfl⟩
 have Nv:gss.length=vs.length:=by rw[hgs];simp
 have anB:∀(j:Nat) (ys:List Int),xI[j]? =some ys→gss[j]? =some (bK (j:Int) (ys.length+16)):=fun j ys hy=>by
  have hj:j<vs.length:=by rw[←G5.RN];exact(List.getElem?_eq_some_iff.1 hy).1
  rw[hgs,List.getElem?_map,List.getElem?_range hj]
  simp[List.getD_eq_getElem?_getD,hy]
 have all:∀{b:Nat},o7 (ay ⟨[],[]⟩ ⟨[],[]⟩) tt true b:=fun {b}=>⟨oQ b,fun _=>trivial⟩
 have I5':aK qc 107 tt ⟨[(0,uM xI),(5,uM gss)],⟨[],[]⟩⟩ a5 w5 ⟨[],[]⟩:=by
  refine⟨Gx fun b h=>trivial,Ky,dw.of ⟨?_,?_,trivial⟩,I5.size,I5.defers⟩
  ·refine YQ (I5.fr 0:Rd _ _ _ _ _) G5.RN (fun b h=>all) fun j v ys hv hy=> ?_
   obtain⟨g,_,h2,_⟩:=G5.done j v ys (List.getElem?_eq_some_iff.1 hv).1 hv hy
   exact h2.mono fun b h=>all
  ·have h:([vg]:List Value)[0]? =some (a5.tmps.getD 5 undef)∧_:=I5.fr 5
   have e:=Option.some.inj h.1
   show Rd w5 _ (.sl 37 KU) gss [a5.tmps.getD 5 undef]
   rw[←e]
   have hh:Rd w5 (fun _=>True) (.sl 37 .hd) gs [vg]:=oN Na (aY.flat rfl adM) fun b e=>trivial
   refine YQ hh (by rw[Nv,G5.len]) (fun b h=>all) fun j g ys hg hy=> ?_
   have hj:j<vs.length:=by rw[←Nv];exact(List.getElem?_eq_some_iff.1 hy).1
   have hjy:j<xI.length:=by rw[G5.RN];exact hj
   have hyj:xI[j]? =some xI[j]:=List.getElem?_eq_getElem hjy
   obtain⟨g',h1,_,h3⟩:=G5.done j vs[j] _ hj (List.getElem?_eq_getElem hj) hyj
   obtain rfl:g=g':=Option.some.inj (hg.symm.trans h1)
   rw[anB j _ hyj]at hy
   obtain rfl:=Option.some.inj hy
   exact h3.mono fun b h=>all
 have V6:Cb xI:=fun i ys hy=>⟨Va (hz i ys hy),by have:=hyb ys (List.mem_of_getElem? hy);omega⟩
 have hm2:Cb gss:=fun i ys hy=>by
  have hj:i<vs.length:=by rw[←Nv];exact(List.getElem?_eq_some_iff.1 hy).1
  have hjy:i<xI.length:=by rw[G5.RN];exact hj
  have hyj:xI[i]? =some xI[i]:=List.getElem?_eq_getElem hjy
  rw[anB i _ hyj]at hy
  obtain rfl:=Option.some.inj hy
  rw[jD]
  exact⟨rfl,by have:=hyb _ (List.mem_of_getElem? hyj);omega⟩
 refine wp_seq (ag0 V6 hm2 (by rw[Nv,G5.RN]) (by rw[G5.RN];omega) I5' fun a6 w6 I6 K6=> ?_)
 have I6':aK qc 107 tt ⟨[],⟨[],[]⟩⟩ a6 w6 ⟨[],[]⟩:=⟨I6.live,I6.mem,dw.of trivial,I6.size,I6.defers⟩
 refine je lK qK mix I6' e31 (fun vs' m' a2 w2 gV e=>by cases e) (fun j vs' m' a2 w2 gV e=>by cases e) (fun vs' m' a7 w7 ow7 e I7 K7=> ?_)
 cases e
 have h2:[a7.tmps.getD 2 undef]=[Value.bool true]:=I7.fr 2
 have st:∀b,b<w5.heap.size→w7.heap[b]? =w5.heap[b]? :=fun b hb=>by
  obtain⟨_,h3,h4⟩:=K6.stay b hb (oQ b)
  exact(K7.stay b h3 (oQ b)).2.2.trans h4
 refine⟨I7.defers,.bool true,?_,rfl,⟨Nat.le_trans X5.size (Nat.le_trans K6.size K7.size),fun b hb ho=>(st b (Nat.lt_of_lt_of_le hb X5.size)).trans (X5.block b hb ho),K7.os.trans (K6.os.trans X5.os),K7.tape.trans (K6.tape.trans X5.tape),K7.output.trans (K6.output.trans X5.output)⟩⟩
 rw[results_tmp (t:=2) rfl]
 rw[(List.cons.inj h2).1]
end Go.Fx.Tryz

namespace Go.Fx
open Go Go.RowKit
structure AV (ts:List Nat) (a a':Act):Prop where
 get:∀t∈ts,a'.tmps.getD t undef=a.tmps.getD t undef
 size:a'.tmps.size=a.tmps.size
 defers:a'.defers=a.defers
theorem AV.refl (ts:List Nat)(a:Act):AV ts a a:=⟨fun _ _=>rfl,rfl,rfl⟩
theorem AV.put {ts:List Nat}{a a':Act}(h:AV ts a a'){t:Nat}(v:Value)(ht:t∉ts):AV ts a (a'.put (some t) v):=
 ⟨fun u hu=>by rw[qL (t:=u) (by intro e;subst e;exact ht hu)];exact h.get u hu,(Fb _ _ _).trans h.size,(xW _ _ _).trans h.defers⟩
theorem aK.reset {C:ak}{N:Nat}{may:Nat→Prop}{s:S}{a:Act}{w:World}{ow:Ow}(I:aK C N may s a w ow){fr:List (Nat×SV)}(h:FrL w (ay ow s.m) may ow s.m a fr):aK C N may ⟨fr,s.m⟩ a w ow:=
 ⟨I.live,I.mem,dw.of h,I.size,I.defers⟩
end Go.Fx
