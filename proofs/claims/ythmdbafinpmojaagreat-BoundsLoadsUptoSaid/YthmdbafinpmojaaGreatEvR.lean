/- A round of a range over a function: the second reading of its body, sound inside the fence of a round. -/
import Derived.Test.YthmdbafinpmojaaGreatEv18
import Derived.RangeFuncCalls
import Derived.TacticsIn
import Derived.OrdersIn
namespace Go.Fx
open Go Go.RowKit
set_option linter.unusedVariables false
set_option linter.unusedSimpArgs false
def noDef (o:Oper):Bool:=match o.op with
 | .defer _=>false
 |_=>true
theorem noDef_ne {o:Oper}(h:noDef o=true):∀c,o.op≠.defer c:=by
 intro c e
 unfold noDef at h
 rw[e]at h
 cases h
section
variable {R:Type} {P:Program} {T:Tab} {C:Cals} {w w':World} {may:Nat→Prop} {ow ow':Ow} {m:Mem} {r:R} {s:S} {a:Act}
def goR (C:Cals)(T:Tab)(N:Nat):Nat→Code→S→(S→Option R)→(S→Option R)→Option R
 |0,_,_,_,_=>none
 |n+1,c,s,k,q=>match c with
  | .skip=>k s
  | .seq a b=>goR C T N n a s (fun s'=>goR C T N n b s' k q) q
  | .region _ ops d=>bif ops.toList.all noDef then(bif d then evalOpsD C T N s.m.boxes.length ops.toList ops.toList [] (s.pad T ops.toList) (fun lg s'=>bif compat ops.toList lg then k s' else none)else evalOps C T N ops.toList ops.toList s k)else none
  | .block _ a=>goR C T N n a s k q
  | .cond x a b=>match(s.opd x).bool? with
   |some t=>bif t then goR C T N n a (s.refine x true) k q else goR C T N n b (s.refine x false) k q
   |none=>none
  | .ret=>q s
  |_=>none
theorem stepsIn_round {l:Nat}{m m':Machine}:StepsIn (Machine.fenced P (Fence.wide.inRound l)) P m m'↔Steps P m m':=by
 rw[fenced_inRound];exact stepsIn_wide
theorem upon_in {l n:Nat}{o:Oper}{a:Act}{next:Act→World→Prop}{Q:Exit→Act→World→Prop}{x:Result Next}(h:o.upon P a next Q x):o.uponIn (Fence.wide.inRound l) n P a next Q x:=by
 have hd:((Fence.wide.inRound l).depth.isSome=true→1≤n):=fun h=>by simp[Fence.wide]at h
 cases x with
 |ok y w=>
  cases y with
  |value v=>exact h
  |skip=>exact h
  |defer d=>exact h
  |enter f args=>exact⟨hd,CallsIn.inRound l (callsIn_wide.2 h)⟩
  |row row args=>exact⟨hd,fun c cs _=>let⟨v,w',r,s⟩:=h c cs;⟨v,w',r,stepsIn_round.2 s⟩⟩
  |_=>exact(h:False).elim
 |halt o w=>
  cases o with
  |panic v=>exact h
  |_=>exact(h:False).elim
theorem wp_in {l n:Nat}{o:Oper}(hd:noDef o=true){a:Act}{w:World}{next:Act→World→Prop}{Q:Exit→Act→World→Prop}(h:o.wp P a w next Q):o.wpIn (Fence.wide.inRound l) n P a w next Q:=by
 refine⟨fun _ _=>trivial,?_⟩
 rw[Oper.semAt_eq _ _ _ (noDef_ne hd)]
 exact upon_in h
theorem wantedIn_at {F:Fence}{n:Nat}{ops:Array Oper}{k:Nat}{o:Oper}(h:ops[k]? =some o){Q:Exit→Act→World→Prop}{l:List Nat}{a:Act}{w:World}:
  wpOpsIn F n P ops Q (k::l) a w=(if Region.wanted o (yielded ops a.tmps)then o.wpIn F n P a w (wpOpsIn F n P ops Q l) Q else(∀f,o.about P w a.eval=some f→F.fn f)∧wpOpsIn F n P ops Q l (a.put o.dst undef) w):=by
 simp[wpOpsIn,h]
theorem evalOps_in {l0 n0:Nat}(TK:TabOk P T)(CK:CalsOk P C){ops:Array Oper}{N:Nat}{c:S→Option R}{Q:Exit→Act→World→Prop}:∀(l:List Oper) (k:Nat) (s:S) (a:Act) (w:World) (ow:Ow),(∀j,l[j]? =ops[k+j]?)→l.all noDef=true→Live C may w ow s.m→
  MemRel w may ow s.m→FrRel w (okOf ow s.m) may ow s a→a.tmps.size=N→evalOps C T N ops.toList l s c=some r→
  (∀s' a' w' ow',c s'=some r→At P N may w ow s.m a s' a' w' ow'→Q .normal a' w')→wpOpsIn (Fence.wide.inRound l0) n0 P ops Q (List.range' k l.length) a w
 |[],k,s,a,w,ow,hl,hnd,hm,M,F,hN,h,hQ=>hQ s a w ow h (At.refl M F hN)
 |o::l,k,s,a,w,ow,hl,hnd,hm,M,F,hN,h,hQ=>by
  obtain⟨hd,h⟩:=cond_none h
  simp only[List.all_cons,Bool.and_eq_true]at hnd
  have h0:ops[k]? =some o:=by simpa using(hl 0).symm
  have hl':∀j,l[j]? =ops[k+1+j]? :=fun j=>by have:=hl (j+1);simpa[Nat.add_assoc,Nat.add_comm 1 j]using this
  obtain⟨s',wt,sv,m',e,F',h1,h2⟩:=evalG_ok TK CK M hm F h
  rw[List.length_cons,List.range'_succ,wantedIn_at h0]
  have key:∀v w' ow',MemRel w' may ow' m'→Keep may w ow s.m w' ow' m'→SVRel w' (okOf ow' m') may ow' m' sv v→wpOpsIn (Fence.wide.inRound l0) n0 P ops Q (List.range' (k+1) l.length) (a.put o.dst v) w':=by
   intro v w' ow' M' K' hv
   have A:=At.step (P:=P) hN e F' M' K' hd hv
   exact evalOps_in TK CK l (k+1) _ _ w' ow' hl' hnd.2 (by rw[put_m];exact hm.keep K') A.mem A.fr A.size h1 fun s2 a2 w2 ow2 h3 A2=>hQ s2 a2 w2 ow2 h3 (A.trans A2)
  rcases h2 with⟨_,hw,h2⟩|⟨_,hw,rfl,rfl⟩
  ·rw [if_pos hw]
   exact wp_in hnd.1 (h2 _ _ key)
  ·rw [if_neg (by simp[hw])]
   exact⟨fun _ _=>trivial,key undef w ow M (Keep.refl _ _ _ _) void_undef⟩
theorem regionIn_ok {l0 n0:Nat}(TK:TabOk P T)(CK:CalsOk P C){id:Nat}{ops:Array Oper}{N:Nat}{c:S→Option R}{Q:Exit→Act→World→Prop}(hnd:ops.toList.all noDef=true)(hm:Live C may w ow s.m)(M:MemRel w may ow s.m)(F:FrRel w (okOf ow s.m) may ow s a)(hN:a.tmps.size=N)
  (h:evalOps C T N ops.toList ops.toList s c=some r) (hQ:∀s' a' w' ow',c s'=some r→At P N may w ow s.m a s' a' w' ow'→Q .normal a' w'):(Code.region id ops false).wpIn (Fence.wide.inRound l0) n0 P Q a w:=by
 refine wpIn_region ?_
 rw[List.range_eq_range']
 have:=evalOps_in (l0:=l0) (n0:=n0) TK CK (Q:=Q) ops.toList 0 s a w ow (by simp) hnd hm M F hN h hQ
 simpa using this
theorem anyIn_of {l n:Nat}{ops:Array Oper}{Q:Exit→Act→World→Prop}(hnd:ops.toList.all noDef=true)(hQ:¬LetsOut Q):∀(fuel:Nat) (L:Array Bool) (a:Act) (w:World),wpAny P .any ops Q fuel L a w→wpAnyIn (Fence.wide.inRound l) n P .any ops Q fuel L a w
 |0,L,a,w,h=>h
 |fuel+1,L,a,w,h=>by
  refine⟨h.1,fun i hi=> ?_⟩
  have h1:=h.2 i hi
  unfold wpOp at h1
  unfold wpOpIn
  cases ho:ops[i]? with
  |none=>simp only[ho]at h1⊢;exact anyIn_of hnd hQ fuel _ a w h1
  |some o=>
   simp only[ho]at h1⊢
   have hno:noDef o=true:=List.all_eq_true.1 hnd o (List.mem_of_getElem? (by simpa using ho))
   split
   ·rename_i hw
    rw[if_pos hw]at h1
    rcases h1 with h1|⟨_,h1⟩
    ·exact wp_in hno (Oper.wp_mono (fun a w h=>anyIn_of hnd hQ fuel _ a w h) h1)
    ·exact absurd h1 hQ
   ·rename_i hw
    rw[if_neg hw]at h1
    exact⟨fun _ _=>trivial,anyIn_of hnd hQ fuel _ _ w h1⟩
def nrm1 (Q:Exit→Act→World→Prop):Exit→Act→World→Prop
 | .normal,a,w=>Q .normal a w
 |_,_,_=>False
theorem regionDIn_ok {l0 n0:Nat}(TK:TabOk P T)(CK:CalsOk P C)(hmix:P.follows .mixedOrders=true){id:Nat}{ops:Array Oper}{N:Nat}{c:S→Option R}{Q:Exit→Act→World→Prop}(hnd:ops.toList.all noDef=true)(hm:Live C may w ow s.m)(M:MemRel w may ow s.m)(F:FrRel w (okOf ow s.m) may ow s a)(hN:a.tmps.size=N)
  (h:evalOpsD C T N s.m.boxes.length ops.toList ops.toList [] (s.pad T ops.toList) (fun lg s'=>bif compat ops.toList lg then c s' else none)=some r) (hQ:∀s' a' w' ow',c s'=some r→At P N may w ow s.m a s' a' w' ow'→Q .normal a' w'):(Code.region id ops true).wpIn (Fence.wide.inRound l0) n0 P Q a w:=by
 refine Go.wpIn_mono (wpIn_region_any hmix (anyIn_of (Q:=nrm1 Q) hnd (fun ⟨_,_,h⟩=>h) _ _ _ _ (regionD_any TK CK hm M F hN h fun s' a' w' ow' h1 A=>hQ s' a' w' ow' h1 A))) fun e a w h=> ?_
 cases e<;>first|exact h|exact h.elim
theorem goR_ok {l0 n0:Nat}(TK:TabOk P T)(CK:CalsOk P C)(hmix:P.follows .mixedOrders=true){N:Nat}:∀(n:Nat) (code:Code) (s:S) (a:Act) (w:World) (ow:Ow) (k q:S→Option R) (Q:Exit→Act→World→Prop),Live C may w ow s.m→MemRel w may ow s.m→FrRel w (okOf ow s.m) may ow s a→a.tmps.size=N→
  goR C T N n code s k q=some r→(∀s' a' w' ow',k s'=some r→At P N may w ow s.m a s' a' w' ow'→Q .normal a' w')→(∀s' a' w' ow',q s'=some r→At P N may w ow s.m a s' a' w' ow'→Q .ret a' w')→
  code.wpIn (Fence.wide.inRound l0) n0 P Q a w
 |0,code,s,a,w,ow,k,q,Q,hm,M,F,hN,h,hk,hq=>by simp[goR]at h
 |n+1,code,s,a,w,ow,k,q,Q,hm,M,F,hN,h,hk,hq=>by
  cases code<;>simp only[goR]at h<;>try (cases h;done)
  case skip=>exact wpIn_skip (hk s a w ow h (At.refl M F hN))
  case seq x y=>
   refine wpIn_seq (goR_ok TK CK hmix n x s a w ow _ q _ hm M F hN h (fun s' a' w' ow' h' A=> ?_) fun s' a' w' ow' h' A=>hq s' a' w' ow' h' A)
   exact goR_ok TK CK hmix n y s' a' w' ow' k q Q (hm.keep A.keep) A.mem A.fr A.size h' (fun s2 a2 w2 ow2 h2 A2=>hk s2 a2 w2 ow2 h2 (A.trans A2)) fun s2 a2 w2 ow2 h2 A2=>hq s2 a2 w2 ow2 h2 (A.trans A2)
  case region id ops d=>
   obtain⟨hb,h⟩:=cond_none h
   cases d with
   |true=>exact regionDIn_ok TK CK hmix hb hm M F hN h hk
   |false=>exact regionIn_ok TK CK hb hm M F hN h hk
  case block id c=>
   exact wpIn_block (goR_ok TK CK hmix n c s a w ow k q _ hm M F hN h (fun s' a' w' ow' h' A=>hk s' a' w' ow' h' A) fun s' a' w' ow' h' A=>hq s' a' w' ow' h' A)
  case cond x c1 c2=>
   cases hb:(s.opd x).bool? with
   |none=>simp[hb]at h
   |some t=>
    simp only[hb]at h
    have hv:=bool?_rel (opd_rel F x) hb
    have F':=FrRel.refine (m:=s.m) F hb
    have e:=refine_m s x t
    have tr:∀{s':S} {a':Act} {w':World} {ow':Ow},At P N may w ow (s.refine x t).m a s' a' w' ow'→At P N may w ow s.m a s' a' w' ow':=fun A=>by rw[e]at A;exact A
    cases t with
    |true=>exact wpIn_cond hv (goR_ok TK CK hmix n c1 _ a w ow k q Q (by rw[e];exact hm) (by rw[e];exact M) (by rw[e];exact F') hN h (fun s' a' w' ow' h' A=>hk s' a' w' ow' h' (tr A)) fun s' a' w' ow' h' A=>hq s' a' w' ow' h' (tr A))
    |false=>exact wpIn_cond hv (goR_ok TK CK hmix n c2 _ a w ow k q Q (by rw[e];exact hm) (by rw[e];exact M) (by rw[e];exact F') hN h (fun s' a' w' ow' h' A=>hk s' a' w' ow' h' (tr A)) fun s' a' w' ow' h' A=>hq s' a' w' ow' h' (tr A))
  case ret=>exact wpIn_ret (hq s a w ow h (At.refl M F hN))
end
end Go.Fx
