import Derived.Test.YthmdbafinpmojaaGreatEvD
import Derived.RangeFuncCalls
import Derived.TacticsIn
import Derived.OrdersIn
set_option linter.unusedVariables false
set_option linter.unusedSimpArgs false
namespace Go.Fx
open Go Go.RowKit
def FQ (o:Oper):Bool:=match o.op with
 | .defer _=>false
 |_=>true
theorem aci {o:Oper}(h:FQ o=true):∀c,o.op≠.defer c:=by
 intro c e
 unfold FQ at h
 rw[e]at h
 cases h
section
variable {R:Type} {P:Program} {T:dH} {C:ak} {w w':World} {may:Nat→Prop} {ow aO:Ow} {m:Mem} {r:R} {s:S} {a:Act}
def goR (C:ak)(T:dH)(N:Nat):Nat→Code→S→(S→Option R)→(S→Option R)→Option R
 |0,_,_,_,_=>none
 |n+1,c,s,k,q=>match c with
  | .skip=>k s
  | .seq a b=>goR C T N n a s (fun s'=>goR C T N n b s' k q) q
  | .region _ ops d=>bif ops.toList.all FQ then(bif d then nS C T N s.m.boxes.length ops.toList ops.toList [] (s.pad T ops.toList) (fun lg s'=>bif DV ops.toList lg then k s' else none)else nN C T N ops.toList ops.toList s k)else none
  | .block _ a=>goR C T N n a s k q
  | .cond x a b=>match(s.gJ x).bool? with
   |some t=>bif t then goR C T N n a (s.refine x true) k q else goR C T N n b (s.refine x false) k q
   |none=>none
  | .ret=>q s
  |_=>none
theorem NS {l:Nat}{m m':Machine}:StepsIn (Machine.fenced P (Fence.wide.inRound l)) P m m'↔Steps P m m':=by
 rw[fenced_inRound];exact stepsIn_wide
theorem afP {l n:Nat}{o:Oper}{a:Act}{next:Act→World→Prop}{Q:Exit→Act→World→Prop}{x:Result Next}(h:o.upon P a next Q x):o.uponIn (Fence.wide.inRound l) n P a next Q x:=by
 have hd:((Fence.wide.inRound l).depth.isSome=true→1≤n):=fun h=>by simp[Fence.wide]at h
 cases x with
 |ok y w=>
  cases y with
  |value v=>exact h
  |skip=>exact h
  |defer d=>exact h
  |enter f args=>exact⟨hd,CallsIn.inRound l (callsIn_wide.2 h)⟩
  |row row args=>exact⟨hd,fun c cs _=>let⟨v,w',r,s⟩:=h c cs;⟨v,w',r,NS.2 s⟩⟩
  |_=>exact(h:False).elim
 |halt o w=>
  cases o with
  |panic v=>exact h
  |_=>exact(h:False).elim
theorem ahS {l n:Nat}{o:Oper}(hd:FQ o=true){a:Act}{w:World}{next:Act→World→Prop}{Q:Exit→Act→World→Prop}(h:o.wp P a w next Q):o.wpIn (Fence.wide.inRound l) n P a w next Q:=by
 refine⟨fun _ _=>trivial,?_⟩
 rw[Oper.semAt_eq _ _ _ (aci hd)]
 exact afP h
theorem Uu {F:Fence}{n:Nat}{ops:Array Oper}{k:Nat}{o:Oper}(h:ops[k]? =some o){Q:Exit→Act→World→Prop}{l:List Nat}{a:Act}{w:World}:
  wpOpsIn F n P ops Q (k::l) a w=(if Region.wanted o (yielded ops a.tmps)then o.wpIn F n P a w (wpOpsIn F n P ops Q l) Q else(∀f,o.about P w a.eval=some f→F.fn f)∧wpOpsIn F n P ops Q l (a.put o.dst undef) w):=by
 simp[wpOpsIn,h]
theorem LZ {l0 n0:Nat}(TK:aZ P T)(CK:ah P C){ops:Array Oper}{N:Nat}{c:S→Option R}{Q:Exit→Act→World→Prop}:∀(l:List Oper) (k:Nat) (s:S) (a:Act) (w:World) (ow:Ow),(∀j,l[j]? =ops[k+j]?)→l.all FQ=true→Live C may w ow s.m→
  aC w may ow s.m→dw w (ay ow s.m) may ow s a→a.tmps.size=N→nN C T N ops.toList l s c=some r→
  (∀s' a' w' aO,c s'=some r→At P N may w ow s.m a s' a' w' aO→Q .normal a' w')→wpOpsIn (Fence.wide.inRound l0) n0 P ops Q (List.range' k l.length) a w
 |[],k,s,a,w,ow,hl,hnd,hm,M,F,hN,h,hQ=>hQ s a w ow h (At.refl M F hN)
 |o::l,k,s,a,w,ow,hl,hnd,hm,M,F,hN,h,hQ=>by
  obtain⟨hd,h⟩:=aG h
  simp only[List.all_cons,Bool.and_eq_true]at hnd
  have h0:ops[k]? =some o:=by simpa using(hl 0).symm
  have VL:∀j,l[j]? =ops[k+1+j]? :=fun j=>by have:=hl (j+1);simpa[Nat.add_assoc,Nat.add_comm 1 j]using this
  obtain⟨s',wt,sv,m',e,F',h1,h2⟩:=Fe TK CK M hm F h
  rw[List.length_cons,List.range'_succ,Uu h0]
  have key:∀v w' aO,aC w' may aO m'→dZ may w ow s.m w' aO m'→aS w' (ay aO m') may aO m' sv v→wpOpsIn (Fence.wide.inRound l0) n0 P ops Q (List.range' (k+1) l.length) (a.put o.dst v) w':=by
   intro v w' aO M' K' hv
   have A:=At.step (P:=P) hN e F' M' K' hd hv
   exact LZ TK CK l (k+1) _ _ w' aO VL hnd.2 (by rw[Fa];exact hm.aW K') A.mem A.fr A.size h1 fun s2 a2 w2 gV h3 A2=>hQ s2 a2 w2 gV h3 (A.trans A2)
  rcases h2 with⟨_,hw,h2⟩|⟨_,hw,rfl,rfl⟩
  ·rw [if_pos hw]
   exact ahS hnd.1 (h2 _ _ key)
  ·rw [if_neg (by simp[hw])]
   exact⟨fun _ _=>trivial,key undef w ow M (dZ.refl _ _ _ _) wW⟩
theorem Uw {l0 n0:Nat}(TK:aZ P T)(CK:ah P C){id:Nat}{ops:Array Oper}{N:Nat}{c:S→Option R}{Q:Exit→Act→World→Prop}(hnd:ops.toList.all FQ=true)(hm:Live C may w ow s.m)(M:aC w may ow s.m)(F:dw w (ay ow s.m) may ow s a)(hN:a.tmps.size=N)
  (h:nN C T N ops.toList ops.toList s c=some r) (hQ:∀s' a' w' aO,c s'=some r→At P N may w ow s.m a s' a' w' aO→Q .normal a' w'):(Code.region id ops false).wpIn (Fence.wide.inRound l0) n0 P Q a w:=by
 refine wpIn_region ?_
 rw[List.range_eq_range']
 have:=LZ (l0:=l0) (n0:=n0) TK CK (Q:=Q) ops.toList 0 s a w ow (by simp) hnd hm M F hN h hQ
 simpa using this
theorem FT {l n:Nat}{ops:Array Oper}{Q:Exit→Act→World→Prop}(hnd:ops.toList.all FQ=true)(hQ:¬LetsOut Q):∀(fuel:Nat) (L:Array Bool) (a:Act) (w:World),wpAny P .any ops Q fuel L a w→wpAnyIn (Fence.wide.inRound l) n P .any ops Q fuel L a w
 |0,L,a,w,h=>h
 |fuel+1,L,a,w,h=>by
  refine⟨h.1,fun i hi=> ?_⟩
  have h1:=h.2 i hi
  unfold wpOp at h1
  unfold wpOpIn
  cases ho:ops[i]? with
  |none=>simp only[ho]at h1⊢;exact FT hnd hQ fuel _ a w h1
  |some o=>
   simp only[ho]at h1⊢
   have Vu:FQ o=true:=List.all_eq_true.1 hnd o (List.mem_of_getElem? (by simpa using ho))
   split
   ·rename_i hw
    rw[if_pos hw]at h1
    rcases h1 with h1|⟨_,h1⟩
    ·exact ahS Vu (Oper.wp_mono (fun a w h=>FT hnd hQ fuel _ a w h) h1)
    ·exact absurd h1 hQ
   ·rename_i hw
    rw[if_neg hw]at h1
    exact⟨fun _ _=>trivial,FT hnd hQ fuel _ _ w h1⟩
def aqU (Q:Exit→Act→World→Prop):Exit→Act→World→Prop
 | .normal,a,w=>Q .normal a w
 |_,_,_=>False
theorem QH {l0 n0:Nat}(TK:aZ P T)(CK:ah P C)(kZ:P.follows .mixedOrders=true){id:Nat}{ops:Array Oper}{N:Nat}{c:S→Option R}{Q:Exit→Act→World→Prop}(hnd:ops.toList.all FQ=true)(hm:Live C may w ow s.m)(M:aC w may ow s.m)(F:dw w (ay ow s.m) may ow s a)(hN:a.tmps.size=N)
  (h:nS C T N s.m.boxes.length ops.toList ops.toList [] (s.pad T ops.toList) (fun lg s'=>bif DV ops.toList lg then c s' else none)=some r) (hQ:∀s' a' w' aO,c s'=some r→At P N may w ow s.m a s' a' w' aO→Q .normal a' w'):(Code.region id ops true).wpIn (Fence.wide.inRound l0) n0 P Q a w:=by
 refine Go.wpIn_mono (wpIn_region_any kZ (FT (Q:=aqU Q) hnd (fun ⟨_,_,h⟩=>h) _ _ _ _ (IK TK CK hm M F hN h fun s' a' w' aO h1 A=>hQ s' a' w' aO h1 A))) fun e a w h=> ?_
 cases e<;>first|exact h|exact h.elim
theorem Ea {l0 n0:Nat}(TK:aZ P T)(CK:ah P C)(kZ:P.follows .mixedOrders=true){N:Nat}:∀(n:Nat) (code:Code) (s:S) (a:Act) (w:World) (ow:Ow) (k q:S→Option R) (Q:Exit→Act→World→Prop),Live C may w ow s.m→aC w may ow s.m→dw w (ay ow s.m) may ow s a→a.tmps.size=N→
  goR C T N n code s k q=some r→(∀s' a' w' aO,k s'=some r→At P N may w ow s.m a s' a' w' aO→Q .normal a' w')→(∀s' a' w' aO,q s'=some r→At P N may w ow s.m a s' a' w' aO→Q .ret a' w')→
  code.wpIn (Fence.wide.inRound l0) n0 P Q a w
 |0,code,s,a,w,ow,k,q,Q,hm,M,F,hN,h,hk,hq=>by simp[goR]at h
 |n+1,code,s,a,w,ow,k,q,Q,hm,M,F,hN,h,hk,hq=>by
  cases code<;>simp only[goR]at h<;>try (cases h;done)
  case skip=>exact wpIn_skip (hk s a w ow h (At.refl M F hN))
  case seq x y=>
   refine wpIn_seq (Ea TK CK kZ n x s a w ow _ q _ hm M F hN h (fun s' a' w' aO h' A=> ?_) fun s' a' w' aO h' A=>hq s' a' w' aO h' A)
   exact Ea TK CK kZ n y s' a' w' aO k q Q (hm.aW A.aW) A.mem A.fr A.size h' (fun s2 a2 w2 gV h2 A2=>hk s2 a2 w2 gV h2 (A.trans A2)) fun s2 a2 w2 gV h2 A2=>hq s2 a2 w2 gV h2 (A.trans A2)
  case region id ops d=>
   obtain⟨hb,h⟩:=aG h
   cases d with
   |true=>exact QH TK CK kZ hb hm M F hN h hk
   |false=>exact Uw TK CK hb hm M F hN h hk
  case block id c=>
   exact wpIn_block (Ea TK CK kZ n c s a w ow k q _ hm M F hN h (fun s' a' w' aO h' A=>hk s' a' w' aO h' A) fun s' a' w' aO h' A=>hq s' a' w' aO h' A)
  case cond x c1 c2=>
   cases hb:(s.gJ x).bool? with
   |none=>simp[hb]at h
   |some t=>
    simp only[hb]at h
    have hv:=bool?nK (dG F x) hb
    have F':=dw.refine (m:=s.m) F hb
    have e:=nV s x t
    have tr:∀{s':S} {a':Act} {w':World} {aO:Ow},At P N may w ow (s.refine x t).m a s' a' w' aO→At P N may w ow s.m a s' a' w' aO:=fun A=>by rw[e]at A;exact A
    cases t with
    |true=>exact wpIn_cond hv (Ea TK CK kZ n c1 _ a w ow k q Q (by rw[e];exact hm) (by rw[e];exact M) (by rw[e];exact F') hN h (fun s' a' w' aO h' A=>hk s' a' w' aO h' (tr A)) fun s' a' w' aO h' A=>hq s' a' w' aO h' (tr A))
    |false=>exact wpIn_cond hv (Ea TK CK kZ n c2 _ a w ow k q Q (by rw[e];exact hm) (by rw[e];exact M) (by rw[e];exact F') hN h (fun s' a' w' aO h' A=>hk s' a' w' aO h' (tr A)) fun s' a' w' aO h' A=>hq s' a' w' aO h' (tr A))
  case ret=>exact wpIn_ret (hq s a w ow h (At.refl M F hN))
end
end Go.Fx
