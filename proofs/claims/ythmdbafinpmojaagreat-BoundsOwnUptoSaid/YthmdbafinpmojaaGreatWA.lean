import Derived.Test.YthmdbafinpmojaaGreatEvD
import Derived.ArgAppend
import Derived.BigFrame
set_option linter.unusedVariables false
set_option linter.unusedSimpArgs false
namespace Go.Fx
open Go Go.RowKit
section
variable {R:Type} {P:Program} {T:dH} {C:ak} {w w':World} {may:Nat→Prop} {ow aO:Ow} {m:Mem} {r:R} {s:S} {a:Act}
def goW (C:ak)(T:dH)(N:Nat):Nat→Code→S→(S→Option R)→(S→Option R)→(Nat→S→Option R)→Option R
 |0,_,_,_,_,_=>none
 |n+1,c,s,k,q,x=>match c with
  | .skip=>k s
  | .seq a b=>goW C T N n a s (fun s'=>goW C T N n b s' k q x) q x
  | .region _ ops d=>bif d then nS C T N s.m.boxes.length ops.toList ops.toList [] (s.pad T ops.toList) (fun lg s'=>bif DV ops.toList lg then k s' else none)else nN C T N ops.toList ops.toList s k
  | .block id a=>goW C T N n a s k q (fun j s'=>bif Nat.beq j id then k s' else x j s')
  | .cond y a b=>match(s.gJ y).bool? with
   |some t=>bif t then goW C T N n a (s.refine y true) k q x else goW C T N n b (s.refine y false) k q x
   |none=>none
  | .exit id=>x id s
  | .ret=>q s
  |_=>none
theorem Es (TK:aZ P T)(CK:ah P C)(kZ:P.follows .mixedOrders=true){N:Nat}:∀(n:Nat) (code:Code) (s:S) (a:Act) (w:World) (ow:Ow) (k q:S→Option R) (x:Nat→S→Option R) (Q:Exit→Act→World→Prop),Live C may w ow s.m→aC w may ow s.m→dw w (ay ow s.m) may ow s a→a.tmps.size=N→
  goW C T N n code s k q x=some r→(∀s' a' w' aO,k s'=some r→At P N may w ow s.m a s' a' w' aO→Q .normal a' w')→(∀s' a' w' aO,q s'=some r→At P N may w ow s.m a s' a' w' aO→Q .ret a' w')→
  (∀j s' a' w' aO,x j s'=some r→At P N may w ow s.m a s' a' w' aO→Q (.exit j) a' w')→code.wp P Q a w
 |0,code,s,a,w,ow,k,q,x,Q,hm,M,F,hN,h,hk,hq,hx=>by simp[goW]at h
 |n+1,code,s,a,w,ow,k,q,x,Q,hm,M,F,hN,h,hk,hq,hx=>by
  cases code<;>simp only[goW]at h<;>try (cases h;done)
  case skip=>exact wp_skip (hk s a w ow h (At.refl M F hN))
  case seq y z=>
   refine wp_seq (Es TK CK kZ n y s a w ow _ q x _ hm M F hN h (fun s' a' w' aO h' A=> ?_) (fun s' a' w' aO h' A=>hq s' a' w' aO h' A) fun j s' a' w' aO h' A=>hx j s' a' w' aO h' A)
   exact Es TK CK kZ n z s' a' w' aO k q x Q (hm.aW A.aW) A.mem A.fr A.size h' (fun s2 a2 w2 gV h2 A2=>hk s2 a2 w2 gV h2 (A.trans A2)) (fun s2 a2 w2 gV h2 A2=>hq s2 a2 w2 gV h2 (A.trans A2)) fun j s2 a2 w2 gV h2 A2=>hx j s2 a2 w2 gV h2 (A.trans A2)
  case region id ops d=>
   cases d with
   |true=>exact LG TK CK kZ hm M F hN h hk
   |false=>exact OG TK CK hm M F hN h hk
  case block id c=>
   refine wp_block (Es TK CK kZ n c s a w ow k q _ _ hm M F hN h (fun s' a' w' aO h' A=>hk s' a' w' aO h' A) (fun s' a' w' aO h' A=>hq s' a' w' aO h' A) fun j s' a' w' aO h' A=> ?_)
   by_cases e:j=id
   ·subst e
    rw[Nat.beq_refl]at h'
    simp only[Exit.inBlock,if_true]
    exact hk s' a' w' aO h' A
   ·have e2:Nat.beq j id=false:=by cases hb:Nat.beq j id with|false=>rfl|true=>exact absurd (Nat.eq_of_beq_eq_true hb) e
    rw[e2]at h'
    simp only[Exit.inBlock,e,if_false]
    exact hx j s' a' w' aO h' A
  case cond y c1 c2=>
   cases hb:(s.gJ y).bool? with
   |none=>simp[hb]at h
   |some t=>
    simp only[hb]at h
    have hv:=bool?nK (dG F y) hb
    have F':=dw.refine (m:=s.m) F hb
    have e:=nV s y t
    have tr:∀{s':S} {a':Act} {w':World} {aO:Ow},At P N may w ow (s.refine y t).m a s' a' w' aO→At P N may w ow s.m a s' a' w' aO:=fun A=>by rw[e]at A;exact A
    cases t with
    |true=>exact wp_cond hv (Es TK CK kZ n c1 _ a w ow k q x Q (by rw[e];exact hm) (by rw[e];exact M) (by rw[e];exact F') hN h (fun s' a' w' aO h' A=>hk s' a' w' aO h' (tr A)) (fun s' a' w' aO h' A=>hq s' a' w' aO h' (tr A)) fun j s' a' w' aO h' A=>hx j s' a' w' aO h' (tr A))
    |false=>exact wp_cond hv (Es TK CK kZ n c2 _ a w ow k q x Q (by rw[e];exact hm) (by rw[e];exact M) (by rw[e];exact F') hN h (fun s' a' w' aO h' A=>hk s' a' w' aO h' (tr A)) (fun s' a' w' aO h' A=>hq s' a' w' aO h' (tr A)) fun j s' a' w' aO h' A=>hx j s' a' w' aO h' (tr A))
  case exit j=>exact wp_exit (hx j s a w ow h (At.refl M F hN))
  case ret=>exact wp_ret (hq s a w ow h (At.refl M F hN))
def look (ts:List Nat)(s:S):List SV×Mem:=(ts.map s.get,s.m)
def kin:List Nat→List SV→List (Nat×SV)
 |t::ts,v::vs=>(t,v)::kin ts vs
 |_,_=>[]
theorem MS (s:S)(t:Nat):∀ts:List Nat,lookup (kin ts (ts.map s.get)) t=s.get t∨lookup (kin ts (ts.map s.get)) t= .undef
 |[]=> .inr rfl
 |u::ts=>by
  simp only[List.map_cons,kin,lookup]
  cases h:Nat.beq u t with
  |true=>simp only[h,cond_true];rw[Nat.eq_of_beq_eq_true h];exact .inl rfl
  |false=>simp only[h,cond_false];exact MS s t ts
theorem dw.look {ok:Nat→Prop}{ts:List Nat}(F:dw w ok may ow s a){vs:List SV}(h:ts.map s.get=vs):dw w ok may ow ⟨kin ts vs,s.m⟩ a:=fun t=>by
 subst h
 show aS w ok may ow s.m (lookup (kin ts (ts.map s.get)) t) _
 rcases MS s t ts with e|e
 ·rw [e];exact F t
 ·rw [e];trivial
structure aK (C:ak) (N:Nat) (may:Nat→Prop) (s:S) (a:Act) (w:World) (ow:Ow):Prop where
 live:Live C may w ow s.m
 mem:aC w may ow s.m
 fr:dw w (ay ow s.m) may ow s a
 size:a.tmps.size=N
 defers:a.defers=[]
end
def Xm (j:Nat):Code→Option Code
 | .region id ops d=>bif Nat.beq id j then some (.region id ops d)else none
 | .seq a b=>match Xm j a with
  |some c=>some c
  |none=>Xm j b
 | .cond _ a b=>match Xm j a with
  |some c=>some c
  |none=>Xm j b
 | .block _ a=>Xm j a
 | .loop a=>Xm j a
 |_=>none
def akc (f:Func)(j:Nat):Code:=match f.body with
 |some c=>(Xm j c).getD .skip
 |none=> .skip
def xG:List (Option pF)→List (Option pF)
 |[]=>[]
 |none::r=>match xG r with
  |[]=>[]
  |q=>none::q
 |b::r=>b::xG r
theorem uq:∀bs:List (Option pF),xG bs=bs.take (xG bs).length∧∀(i:Nat) (b:pF),(xG bs).length≤i→bs[i]?≠some (some b)
 |[]=>⟨rfl,fun i b _ h=>by simp at h⟩
 |none::r=>by
  obtain⟨h1,h2⟩:=uq r
  simp only[xG]
  cases hq:xG r with
  |nil=>
   simp only[]
   refine⟨rfl,fun i b _ h=> ?_⟩
   cases i with
   |zero=>simp at h
   |succ i=>exact h2 i b (by rw[hq];exact Nat.zero_le _) (by simpa using h)
  |cons x q=>
   simp only[]
   rw[hq]at h1 h2
   refine⟨by simp only[List.length_cons,List.take_succ_cons];rw[←List.length_cons (a:=x) (as:=q),←h1],fun i b hi h=> ?_⟩
   cases i with
   |zero=>simp at h
   |succ i=>exact h2 i b (by simp only[List.length_cons]at hi⊢;omega) (by simpa using h)
 |some y::r=>by
  obtain⟨h1,h2⟩:=uq r
  simp only[xG]
  refine⟨by simp only[List.length_cons,List.take_succ_cons];rw[←h1],fun i b hi h=> ?_⟩
  cases i with
  |zero=>simp at hi
  |succ i=>exact h2 i b (by simp only[List.length_cons]at hi;omega) (by simpa using h)
def Mem.trim (m:Mem):Mem:=⟨m.rows,xG m.boxes⟩
def Ow.trim (o:Ow)(m:Mem):Ow:=⟨o.rv,o.bb.take (xG m.boxes).length⟩
inductive Out where
 |nrm (vs:List SV) (m:Mem)
 |ext (j:Nat) (vs:List SV) (m:Mem)
 |rt (vs:List SV) (m:Mem)
def GR (C:ak)(T:dH)(N n:Nat)(code:Code)(s:S)(ts:List Nat):Option Out:=
 goW C T N n code s (fun s'=>some (.nrm (ts.map s'.get) s'.m.trim)) (fun s'=>some (.rt (ts.map s'.get) s'.m.trim)) (fun j s'=>some (.ext j (ts.map s'.get) s'.m.trim))
section
variable {R:Type} {P:Program} {T:dH} {C:ak} {w w':World} {may:Nat→Prop} {ow aO:Ow} {m:Mem} {s:S} {a:Act}
theorem box?YM (m:Mem)(b:Nat):m.trim.box? b=m.box? b:=by
 obtain⟨h1,h2⟩:=uq m.boxes
 simp only[Mem.box?,Mem.trim]
 by_cases hb:b<(xG m.boxes).length
 ·rw [h1,List.getElem?_take_of_lt hb]
 ·rw [List.getElem?_eq_none (by omega)]
  cases h:m.boxes[b]? with
  |none=>rfl
  |some x=>
   cases x with
   |none=>rfl
   |some y=>exact absurd h (h2 b y (by omega))
theorem Gv (M:aC w may ow m){b g:Nat}:(ow.trim m).bb[b]? =some (some g)↔ow.bb[b]? =some (some g):=by
 simp only[Ow.trim]
 by_cases hb:b<(xG m.boxes).length
 ·rw [List.getElem?_take_of_lt hb]
 ·rw [List.getElem?_eq_none (by rw[List.length_take];omega)]
  refine⟨fun h=>by simp at h,fun h=> ?_⟩
  have dX:b<m.boxes.length:=by rw[←M.jc];exact(List.getElem?_eq_some_iff.1 h).1
  have hn:m.box? b=none:=by
   cases e:m.box? b with
   |none=>rfl
   |some y=>
    obtain⟨x,hx,e2⟩:=Option.bind_eq_some_iff.1 e
    have e2:x=some y:=e2
    subst e2
    exact absurd hx ((uq m.boxes).2 b y (by omega))
  rw[M.free b dX hn]at h
  simp at h
theorem MV (M:aC w may ow m)(x:Th):eG (ow.trim m) m.trim x=eG ow m x:=by
 cases x with
 |row i=>rfl
 |box i=>
  simp only[eG,box?YM]
  cases e:m.box? i with
  |none=>rfl
  |some y=>
   simp only
   have e2:i<(xG m.boxes).length:=by
    rw[←box?YM]at e
    obtain⟨x,hx,_⟩:=Option.bind_eq_some_iff.1 e
    exact(List.getElem?_eq_some_iff.1 hx).1
   simp only[Ow.trim,List.getElem?_take_of_lt e2]
theorem Dh (M:aC w may ow m):ay (ow.trim m) m.trim=ay ow m:=by
 funext b
 simp only[ay,MV M]
theorem aQ.trimmed {ok:Nat→Prop}{l:aT}{v:Value}(h:aQ w ok may ow l v):aQ w ok may (ow.trim m) l v:=by
 cases l<;>exact h
theorem bG.trimmed {ok:Nat→Prop}{c:lM}{v:Value}(h:bG w ok may ow c v):bG w ok may (ow.trim m) c v:=by
 cases c with
 |lf l=>exact aQ.trimmed (h:aQ _ _ _ _ _ _)
 |agg ls=>obtain⟨vs,e,h⟩:=h;exact⟨vs,e,h.imp fun _ _ h=>h.trimmed⟩
theorem pO.trimmed (M:aC w may ow m){h:Hd}{v:Value}(hh:pO ow h v):pO (ow.trim m) h v:=by
 cases h with
 |uK=>exact hh
 |box b=>obtain⟨g,e,h⟩:=hh;exact⟨g,(Gv M).2 e,h⟩
theorem aS.trimmed (M:aC w may ow m){ok:Nat→Prop}{sv:SV}{v:Value}(h:aS w ok may ow m sv v):aS w ok may (ow.trim m) m.trim sv v:=by
 cases sv with
 |undef=>trivial
 |one c=>exact bG.trimmed (h:bG _ _ _ _ _ _)
 |JF cs=>obtain⟨vs,e,h⟩:=h;exact⟨vs,e,h.imp fun _ _ h=>h.trimmed⟩
 |ref ls=>obtain⟨ad,vs,e,h,h2⟩:=h;exact⟨ad,vs,e,h.imp fun _ _ h=>h.trimmed,h2⟩
 |Dt r i o=>exact h
 |box b o=>obtain⟨g,e,h⟩:=h;exact⟨g,(Gv M).2 e,h⟩
 |sub r o n g=>exact h
 |kX b o g=>exact⟨(Gv M).2 h.1,h.2⟩
 |hd x=>exact pO.trimmed M (h:pO _ _ _)
 |PU x cs=>obtain⟨u,vs,e,h1,h2⟩:=h;exact⟨u,vs,e,h1.trimmed M,h2.imp fun _ _ h=>h.trimmed⟩
 |sK e vs i r=>exact h
theorem aC.trimmed (M:aC w may ow m):aC w may (ow.trim m) m.trim:=by
 refine⟨M.lX,?_,fun i row e=> ?_,fun i bx e=> ?_,fun x y b h1 h2=> ?_,fun x b h=> ?_,fun i hi e=> ?_⟩
 ·simp only[Ow.trim,Mem.trim,List.length_take,M.jc]
  have:=congrArg List.length (uq m.boxes).1
  rw[List.length_take]at this
  omega
 ·obtain ⟨v,hv,R⟩:=M.rows i row e
  exact⟨v,hv,by rw[Dh M];exact R⟩
 ·rw [box?YM]at e
  obtain⟨g,hg,vs,h1,h2⟩:=M.boxes i bx e
  exact⟨g,(Gv M).2 hg,vs,h1,by rw[Dh M];exact h2.imp fun _ _ h=>h.trimmed⟩
 ·rw [MV M]at h1 h2;exact M.qp x y b h1 h2
 ·rw [MV M]at h;exact M.fH x b h
 ·rw [box?YM]at e
  have hi:i<(xG m.boxes).length:=hi
  have hle:(xG m.boxes).length≤m.boxes.length:=by
   have:=congrArg List.length (uq m.boxes).1
   rw[List.length_take]at this
   omega
  simp only[Ow.trim,List.getElem?_take_of_lt hi]
  exact M.free i (by omega) e
theorem dZ.trimmed {w0:World}{o0:Ow}{m0:Mem}(M:aC w may ow m)(K:dZ may w0 o0 m0 w ow m):dZ may w0 o0 m0 w (ow.trim m) m.trim:=
 ⟨by rw[Dh M];exact K.stay,K.rv,fun i v e=>(Gv M).2 (K.bb i v e),K.rows,K.Oo,K.size,K.frame,K.os,K.tape,K.output⟩
theorem dw.trimmed (M:aC w may ow s.m)(F:dw w (ay ow s.m) may ow s a):dw w (ay (ow.trim s.m) s.m.trim) may (ow.trim s.m) ⟨s.fr,s.m.trim⟩ a:=fun t=>by
 rw[Dh M]
 exact aS.trimmed M (F t)
theorem At.out (M0:Live C may w ow m){N:Nat}{s':S}{a':Act}{w':World}{aO:Ow}(hd:a.defers=[])(A:At P N may w ow m a s' a' w' aO)(ts:List Nat):aK C N may ⟨kin ts (ts.map s'.get),s'.m.trim⟩ a' w' (aO.trim s'.m)∧dZ may w ow m w' (aO.trim s'.m) s'.m.trim:=by
 have K:=A.aW.trimmed A.mem
 refine⟨⟨M0.aW K,A.mem.trimmed,?_,A.size,A.defers.trans hd⟩,K⟩
 have F:=A.fr.trimmed A.mem
 exact dw.look (s:=⟨s'.fr,s'.m.trim⟩) F rfl
theorem je (TK:aZ P T)(CK:ah P C)(kZ:P.follows .mixedOrders=true){N n:Nat}{code:Code}{Q:Exit→Act→World→Prop}{ts:List Nat}(I:aK C N may s a w ow){o:Out}
  (h:GR C T N n code s ts=some o)
  (hN:∀vs m' a' w' aO,o= .nrm vs m'→aK C N may ⟨kin ts vs,m'⟩ a' w' aO→dZ may w ow s.m w' aO m'→Q .normal a' w')
  (hX:∀j vs m' a' w' aO,o= .ext j vs m'→aK C N may ⟨kin ts vs,m'⟩ a' w' aO→dZ may w ow s.m w' aO m'→Q (.exit j) a' w')
  (hR:∀vs m' a' w' aO,o= .rt vs m'→aK C N may ⟨kin ts vs,m'⟩ a' w' aO→dZ may w ow s.m w' aO m'→Q .ret a' w'):code.wp P Q a w:=
 Es TK CK kZ n code s a w ow _ _ _ Q I.live I.mem I.fr I.size h
  (fun s' a' w' aO e A=>by obtain⟨h1,h2⟩:=A.out I.live I.defers ts;exact hN _ _ a' w' _ (Option.some.inj e).symm h1 h2)
  (fun s' a' w' aO e A=>by obtain⟨h1,h2⟩:=A.out I.live I.defers ts;exact hR _ _ a' w' _ (Option.some.inj e).symm h1 h2)
  fun j s' a' w' aO e A=>by obtain⟨h1,h2⟩:=A.out I.live I.defers ts;exact hX _ _ _ a' w' _ (Option.some.inj e).symm h1 h2
def FrL (w:World)(ok may:Nat→Prop)(ow:Ow)(m:Mem)(a:Act):List (Nat×SV)→Prop
 |[]=>True
 |q::r=>aS w ok may ow m q.2 (a.tmps.getD q.1 undef)∧FrL w ok may ow m a r
theorem dw.of {ok:Nat→Prop}:∀{fr:List (Nat×SV)},FrL w ok may ow m a fr→dw w ok may ow ⟨fr,m⟩ a
 |[],_,t=>trivial
 |q::r,h,t=>by
  show aS w ok may ow m (lookup (q::r) t) _
  obtain⟨t',v⟩:=q
  simp only[lookup]
  cases hb:Nat.beq t' t with
  |true=>obtain rfl:=Nat.eq_of_beq_eq_true hb;exact h.1
  |false=>exact dw.of h.2 t
end
section
variable {w w':World} {P:Program}
theorem gZ {B e s n:Nat}{v:Value}{xs:List Value}(h:w.ownsRow B e s v n xs)(hb:∀g,v.ownBlock=some g→w'.heap[g]? =w.heap[g]?):w'.ownsRow B e s v n xs:=by
 refine⟨h.1,?_⟩
 rcases h.2 with hn|⟨g,cap,cur,rfl,h1,h2,h3⟩
 ·exact .inl hn
 ·exact .inr ⟨g,cap,cur,rfl,h1,(hb g rfl).trans h2,h3⟩
theorem rD {ok:Nat→Prop}{q:IntKind}:∀ys:List Int,aY w ok (.int q) ys (ys.map (Value.int q))
 |[]=>rfl
 |y::r=>⟨[.int q y],r.map (Value.int q),rfl,rfl,rD r⟩
theorem lC {ok:Nat→Prop}{q:IntKind}:∀{ys:List Int} {cs:List Value},aY w ok (.int q) ys cs→cs=ys.map (Value.int q)
 |[],cs,h=>h
 |y::r,cs,⟨c1,c2,e,h1,h2⟩=>by
  have h1:c1=[Value.int q y]:=h1
  rw[e,h1,lC h2];rfl
theorem Rz (t ty e:TypeId)(i:TypeInfo)(z:Value)(size bytes:Nat)(ht:P.underlying t=some (.slice e))(hi:P.info? e=some i)(hz:i.zero=some z)
  (II:i.size=size) (hby:i.bytes=bytes) (S_:z.cells.size=size) (pY:0<size)
  (v:Value) (n:Nat) (xs:List Value) (dM:w.ownsRow 0 e size v n xs)
  (a:Addr) (m c:Nat) (news:List Value) (hl:news.length=m*size) (PI:∀j u,news[j]? =some u→w.cell? (a.add j)=some u) (h1:∀u∈news,u.oneCell'=true)
  (h63:n+m≤maxLen) (DZ:(n+m)*bytes≤140737488355328):
  ∃v' w',(Builtin.append_ #[t,t] ty #[v,.slice (some a) m c]).run P w= .ok v' w'∧w'.ownsRow 0 e size v' (n+m) (xs++news)∧w.grownBy w' v.ownBlock∧
   (∀b,v.ownBlock=some b→∀j u,xs[j]? =some u→w'.cell? ((⟨b,0,none⟩:Addr).add j)=some u)∧(∀b,v'.ownBlock=some b→b<w.heap.size→v.ownBlock=some b):=by
 obtain⟨v',w',hr,h2,h3,_⟩:=run_append_own (P:=P) w 0 t ty e i z size bytes ht hi hz II hby S_ pY v n xs dM a m c news hl PI h1 h63 DZ (Nat.zero_le _)
 refine⟨v',w',hr,h2,h3,?_⟩
 rcases dM.2 with⟨rfl,rfl⟩|⟨g,cap,cur,rfl,h4,h5,h6,h7,h8,h9⟩
 ·refine ⟨(fun b hb=>by cases hb),fun b hb dX=> ?_⟩
  obtain⟨v2,w2,Sl,h2',h3'⟩:∃v2 w2,(Builtin.append_ #[t,t] ty #[.slice none 0 0,.slice (some a) m c]).run P w= .ok v2 w2∧w2.ownsRow w.heap.size e size v2 (0+m) (xs++news)∧True:=by
   have h0:xs=[]:=List.eq_nil_of_length_eq_zero (by rw[dM.1];simp)
   subst h0
   obtain⟨v2,w2,Sl,h2',_,_⟩:=run_append_own (P:=P) w w.heap.size t ty e i z size bytes ht hi hz II hby S_ pY (.slice none 0 0) 0 [] (World.ownsRow_nil _ _ _ _) a m c news hl PI h1 h63 DZ (Nat.le_refl _)
   exact⟨v2,w2,Sl,h2',trivial⟩
  rw[Sl]at hr
  injection hr with e1 e2
  subst e1 e2
  have:=World.ownsRow.lt h2' b hb
  omega
 ·by_cases ail:n+m≤cap
  ·subst II
   have DY:n*i.size+news.length≤cur.size:=by rw[hl,←Nat.add_mul,h8];exact Nat.mul_le_mul_right _ ail
   have Sl:=run_append_room (P:=P) w t ty e i ht hi g n cap cur h5 a m c news hl PI h1 ail DY
   rw[Sl]at hr
   injection hr with e1 e2
   subst e1 e2
   refine⟨fun b hb j u hj=> ?_,fun b hb _=>hb⟩
   obtain rfl:g=b:=by simpa[Value.ownBlock]using hb
   refine World.ownsRow.cells h2 rfl j u ?_
   rw[List.getElem?_append_left (List.getElem?_eq_some_iff.1 hj).1];exact hj
  ·obtain ⟨v2,w2,Sl,h2',h3'⟩:=run_append_arg_grows (P:=P) w t ty e i z size bytes ht hi hz II hby S_ pY ⟨g,0,none⟩ n cap xs dM.1 (World.ownsRow.cells dM rfl) a m c news hl PI (by omega) h63 DZ
   rw[Sl]at hr
   injection hr with e1 e2
   subst e1 e2
   have hg:g<w.heap.size:=(Array.getElem?_eq_some_iff.1 h5).1
   refine⟨fun b hb j u hj=> ?_,fun b hb dX=> ?_⟩
   ·obtain rfl:g=b:=by simpa[Value.ownBlock]using hb
    exact(World.cell?_of_block (by rw[Addr.gU];exact h3'.block g hg (by simp))).trans (World.ownsRow.cells dM rfl j u hj)
   ·have:=World.ownsRow.lt h2' b hb
    omega
end
section
variable {P:Program}
theorem adA {o:Oper}{a:Act}{w:World}{K K':Act→World→Prop}{Q Q':Exit→Act→World→Prop}(h:∀a w,K a w→K' a w)(hq:∀e a w,e≠.normal→Q e a w→Q' e a w)
  (hh:o.wp P a w K Q):o.wp P a w K' Q':=by
 unfold Oper.wp at*
 generalize (execOp a.eval o).run P w=r at*
 cases r with
 |ok n w'=>
  cases n<;>simp only[Oper.upon]at hh⊢<;>
   first
    |exact h _ _ hh
    |exact Calls.mono hh (fun e w'' he=>by
      cases e with
      |returned v=>exact h _ _ he
      |panicked c=>exact hq _ _ _ (by simp) he
      |outgrown=>obtain⟨a2,w2,h2⟩:=he;exact⟨a2,w2,hq _ _ _ (by simp) h2⟩)
    |exact Rows.mono hh (fun _ _ he=>h _ _ he)
 |halt x w'=>cases x<;>simp only[Oper.upon]at hh⊢<;>first|exact hh|exact hq _ _ _ (by simp) hh
theorem kL {ops:Array Oper}{Q:Exit→Act→World→Prop}:∀(l1 l2:List Nat) (a:Act) (w:World),wpOps P ops (fun e a w=>match e with| .normal=>wpOps P ops Q l2 a w|e=>Q e a w) l1 a w→wpOps P ops Q (l1++l2) a w
 |[],l2,a,w,h=>h
 |i::l1,l2,a,w,h=>by
  simp only[wpOps,List.cons_append]at h⊢
  cases ho:ops[i]? with
  |none=>simp only[ho]at h⊢;exact kL l1 l2 a w h
  |some o=>
   simp only[ho]at h⊢
   split
   ·rename_i hw
    rw[if_pos hw]at h
    rcases h with h|⟨h1,h2⟩
    ·left
     refine adA (fun a w h=>kL l1 l2 a w h) (fun e a w he h=> ?_) h
     cases e<;>first|exact absurd rfl he|exact h
    ·right
     exact⟨h1,h2⟩
   ·rename_i hw
    rw[if_neg hw]at h
    exact kL l1 l2 _ w h
end
section
variable {P:Program} {T:dH} {C:ak} {N:Nat} {w w':World} {may:Nat→Prop} {ow aO:Ow} {m:Mem} {s:S} {a:Act}
def bV (t:Nat)(a:Act):Nat:=match a.tmps.getD t undef with
 | .int _ x=>x.toNat
 |_=>0
theorem aK.int (I:aK C N may s a w ow){t:Nat}{q:IntKind}{n:Int}(h:s.get t=ci q n):a.tmps.getD t undef= .int q n:=by
 have:=I.fr t
 rw[h]at this
 have this:[a.tmps.getD t undef]=[Value.int q n]:=this
 exact(List.cons.inj this).1
theorem aK.bV (I:aK C N may s a w ow){t:Nat}{q:IntKind}{n:Nat}(h:s.get t=ci q (n:Int)):bV t a=n:=by
 unfold Fx.bV
 rw[I.int h]
 simp
theorem Il {rows:List Row}{rv:List Value}(hl:rv.length=rows.length)(hw:∀row∈rows,row.rw=true)(hs:∀v∈rv,∃A n c,v= .slice A n c){b:Nat}:
  ay ⟨rv,[]⟩ ⟨rows.map some,[]⟩ b↔∀v∈rv,v.ownBlock≠some b:=by
 constructor
 ·intro h v hv e
  obtain⟨i,hi,rfl⟩:=List.getElem_of_mem hv
  refine h (.row i) ?_
  have h2:i<rows.length:=by omega
  have:(⟨rows.map some,[]⟩:Mem).row? i=some rows[i]:=by simp[Mem.row?,h2]
  simp only[eG,this,hw _ (List.getElem_mem h2),if_true,List.getElem?_eq_getElem hi,Option.bind_some]
  rw[jl (hs _ hv)];exact e
 ·intro h x hx
  cases x with
  |box i=>simp[eG,Mem.box?]at hx
  |row i=>
   simp only[eG]at hx
   split at hx
   case h_2=>cases hx
   split at hx
   case isFalse=>cases hx
   obtain⟨v,hv,e⟩:=Option.bind_eq_some_iff.1 hx
   have hm:v∈rv:=List.mem_of_getElem? hv
   rw[jl (hs v hm)]at e
   exact h v hm e
theorem aC.Xn {rows:List Row}{rv:List Value}(hl:rv.length=rows.length)(hw:∀row∈rows,row.rw=true)(hs:∀v∈rv,∃A n c,v= .slice A n c)
  (hr:∀(i:Nat) (row:Row) (v:Value),rows[i]? =some row→rv[i]? =some v→∃cs,w.ownsRow 0 row.e row.k.n v row.xs.length cs∧aY w (o7 (ay ⟨rv,[]⟩ ⟨rows.map some,[]⟩) may row.fr) row.k row.xs cs)
  (hd:∀(i j:Nat) (v v':Value) (b:Nat),rv[i]? =some v→rv[j]? =some v'→v.ownBlock=some b→v'.ownBlock=some b→i=j) (hm:∀v∈rv,∀b,v.ownBlock=some b→may b):aC w may ⟨rv,[]⟩ ⟨rows.map some,[]⟩:=by
 have hb:∀(x:Th) (b:Nat),eG ⟨rv,[]⟩ ⟨rows.map some,[]⟩ x=some b→∃(i:Nat) (v:Value),x= .row i∧rv[i]? =some v∧v.ownBlock=some b:=by
  intro x b hx
  cases x with
  |box i=>simp[eG,Mem.box?]at hx
  |row i=>
   simp only[eG]at hx
   split at hx
   case h_2=>cases hx
   split at hx
   case isFalse=>cases hx
   obtain⟨v,hv,e⟩:=Option.bind_eq_some_iff.1 hx
   rw[jl (hs v (List.mem_of_getElem? hv))]at e
   exact⟨i,v,rfl,hv,e⟩
 have hg:∀(i:Nat) (row:Row),(⟨rows.map some,[]⟩:Mem).row? i=some row→rows[i]? =some row:=fun i row e=>by
  obtain⟨x,hx,e2⟩:=Option.bind_eq_some_iff.1 e
  have e2:x=some row:=e2
  subst e2
  have hx:(rows.map some)[i]? =some (some row):=hx
  rw[List.getElem?_map]at hx
  obtain⟨y,hy,e3⟩:=Option.map_eq_some_iff.1 hx
  rw[hy,Option.some.inj e3]
 refine⟨by simp[hl],rfl,fun i row e=> ?_,fun i bx e=>by simp[Mem.box?]at e,fun x y b h1 h2=> ?_,fun x b h=> ?_,fun i hi e=>by simp at hi⟩
 ·have e:=hg i row e
  have hi:i<rv.length:=by rw[hl];exact(List.getElem?_eq_some_iff.1 e).1
  have hv:rv[i]? =some rv[i]:=List.getElem?_eq_getElem hi
  obtain⟨cs,h1,h2⟩:=hr i row _ e hv
  refine⟨_,hv,.inl ⟨hs _ (List.getElem_mem hi),?_⟩⟩
  rw[if_pos (hw row (List.mem_of_getElem? e))]
  exact⟨cs,h1,h2⟩
 ·obtain ⟨i,v,rfl,hv,e1⟩:=hb x b h1
  obtain⟨j,v',rfl,Cm,e2⟩:=hb y b h2
  rw[hd i j v v' b hv Cm e1 e2]
 ·obtain ⟨i,v,rfl,hv,e⟩:=hb x b h
  have hi:i<rows.length:=by rw[←hl];exact(List.getElem?_eq_some_iff.1 hv).1
  obtain⟨cs,h1,_⟩:=hr i _ v (List.getElem?_eq_getElem hi) hv
  exact⟨hm v (List.mem_of_getElem? hv) b e,(World.ownsRow.lt h1 b e).2⟩
theorem aC.own (M:aC w may ow m){r:Nat}{row:Row}(h:m.row? r=some row)(hw:row.rw=true)(hm:row.mp? =none):∃v cs,ow.rv[r]? =some v∧(∃A n c,v= .slice A n c)∧w.ownsRow 0 row.e row.k.n v row.xs.length cs∧aY w (o7 (ay ow m) may row.fr) row.k row.xs cs:=by
 obtain⟨v,hv,R⟩:=M.rows r row h
 rcases R with⟨hs,R⟩|⟨g,xs,_,e,_⟩
 ·rw [if_pos hw]at R
  obtain⟨cs,h1,h2⟩:=R
  exact⟨v,cs,hv,hs,h1,h2⟩
 ·rw [hm]at e;cases e
theorem o9 {ops:Array Oper}{i:Nat}{o:Oper}{rest:List Nat}{Q:Exit→Act→World→Prop}(ho:ops[i]? =some o)(hg:o.guard=none)(h:o.wp P a w (wpOps P ops Q rest) Q):wpOps P ops Q (i::rest) a w:=by
 have hw:Region.wanted o (yielded ops a.tmps)=true:=by simp[Region.wanted,hg]
 simp only[wpOps,ho]
 rw[if_pos hw]
 exact .inl h
end
section
variable {R:Type} {P:Program} {T:dH} {C:ak} {N:Nat} {w w':World} {may:Nat→Prop} {ow aO:Ow} {m:Mem} {s:S} {a:Act} {r:R}
theorem Je (TK:aZ P T)(CK:ah P C){ops:Array Oper}{c:S→Option R}{Q:Exit→Act→World→Prop}:∀(l:List Oper) (k:Nat) (s:S) (a:Act) (w:World) (ow:Ow),(∀j,j<l.length→l[j]? =ops[k+j]?)→Live C may w ow s.m→
  aC w may ow s.m→dw w (ay ow s.m) may ow s a→a.tmps.size=N→nN C T N ops.toList l s c=some r→
  (∀s' a' w' aO,c s'=some r→At P N may w ow s.m a s' a' w' aO→Q .normal a' w')→wpOps P ops Q (List.range' k l.length) a w
 |[],k,s,a,w,ow,hl,hm,M,F,hN,h,hQ=>hQ s a w ow h (At.refl M F hN)
 |o::l,k,s,a,w,ow,hl,hm,M,F,hN,h,hQ=>by
  obtain⟨hd,h⟩:=aG h
  have h0:ops[k]? =some o:=by simpa using(hl 0 (by simp)).symm
  have VL:∀j,j<l.length→l[j]? =ops[k+1+j]? :=fun j hj=>by have:=hl (j+1) (by simpa using hj);simpa[Nat.add_assoc,Nat.add_comm 1 j]using this
  obtain⟨s',wt,sv,m',e,F',h1,h2⟩:=Fe TK CK M hm F h
  rw[List.length_cons,List.range'_succ,He h0]
  have key:∀v w' aO,aC w' may aO m'→dZ may w ow s.m w' aO m'→aS w' (ay aO m') may aO m' sv v→wpOps P ops Q (List.range' (k+1) l.length) (a.put o.dst v) w':=by
   intro v w' aO M' K' hv
   have A:=At.step (P:=P) hN e F' M' K' hd hv
   exact Je TK CK l (k+1) _ _ w' aO VL (by rw[Fa];exact hm.aW K') A.mem A.fr A.size h1 fun s2 a2 w2 gV h3 A2=>hQ s2 a2 w2 gV h3 (A.trans A2)
  rcases h2 with⟨_,hw,h2⟩|⟨_,hw,rfl,rfl⟩
  ·rw [if_pos hw]
   exact .inl (h2 _ _ key)
  ·rw [if_neg (by simp[hw])]
   exact key undef w ow M (dZ.refl _ _ _ _) wW
theorem YN (TK:aZ P T)(CK:ah P C){ops:Array Oper}{Q:Exit→Act→World→Prop}{l:List Oper}{k:Nat}{ts:List Nat}{vs:List SV}{m':Mem}(I:aK C N may s a w ow)(hl:∀j,j<l.length→l[j]? =ops[k+j]?)
  (h:nN C T N ops.toList l s (fun s'=>some (Out.nrm (ts.map s'.get) s'.m.trim))=some (.nrm vs m')) (hQ:∀a' w' aO,aK C N may ⟨kin ts vs,m'⟩ a' w' aO→dZ may w ow s.m w' aO m'→Q .normal a' w'):wpOps P ops Q (List.range' k l.length) a w:=
 Je TK CK l k s a w ow hl I.live I.mem I.fr I.size h fun s' a' w' aO e A=>by
  obtain⟨h1,h2⟩:=A.out I.live I.defers ts
  have e:=Option.some.inj e
  injection e with e1 e2
  subst e1 e2
  exact hQ _ _ _ h1 h2
structure Kp (may:Nat→Prop) (w:World) (o:Ow) (m:Mem) (w':World) (o':Ow) (m':Mem):Prop where
 stay:iF w (ay o m) w' (ay o' m')
 size:w.heap.size≤w'.heap.size
 frame:∀b,b<w.heap.size→¬may b→w'.heap[b]? =w.heap[b]?
 os:w'.os=w.os
 tape:w'.tape=w.tape
 output:w'.output=w.output
theorem dZ.kp {o o':Ow}{m m':Mem}(K:dZ may w o m w' o' m'):Kp may w o m w' o' m':=⟨K.stay,K.size,K.frame,K.os,K.tape,K.output⟩
theorem Kp.refl (may:Nat→Prop)(w:World)(o:Ow)(m:Mem):Kp may w o m w o m:=(dZ.refl may w o m).kp
theorem Kp.trans {w1 w2:World}{o o1 o2:Ow}{m m1 m2:Mem}(h:Kp may w o m w1 o1 m1)(k:Kp may w1 o1 m1 w2 o2 m2):Kp may w o m w2 o2 m2:=
 ⟨h.stay.trans k.stay,Nat.le_trans h.size k.size,fun b hb hm=>(k.frame b (Nat.lt_of_lt_of_le hb h.size) hm).trans (h.frame b hb hm),k.os.trans h.os,k.tape.trans h.tape,k.output.trans h.output⟩
theorem Kp.look {o o':Ow}{m m':Mem}(h:∀b,b<w.heap.size→ay o m b→ay o' m' b):Kp may w o m w o' m':=⟨iF.mono h,Nat.le_refl _,fun _ _ _=>rfl,rfl,rfl,rfl⟩
theorem oN {e:TypeId}{k:K}{Q:Nat→Prop}{v:Value}{xs:List k.T}{cs:List Value}(h:w.ownsRow 0 e k.n v xs.length cs)(hr:aY w Q k xs cs)(hQ:∀b,v.ownBlock=some b→Q b):Rd w Q (.sl e k) xs [v]:=by
 have hc:=fun g=>World.ownsRow.cells h (g:=g)
 rcases h.2 with⟨rfl,h0⟩|⟨g,cap,cur,rfl,_,h3,h4,_⟩
 ·have:xs=[]:=List.eq_nil_of_length_eq_zero h0
  subst this
  exact⟨none,0,rfl,Nat.le_refl _,fun i x hi=>absurd (List.getElem?_eq_some_iff.1 hi).1 (Nat.not_lt_zero _)⟩
 ·exact aY.aa4 hr h4 fun _=>⟨_,rfl,(Array.getElem?_eq_some_iff.1 h3).1,hQ g rfl,fun j u hj=>hc g rfl j u hj⟩
theorem aax {e:TypeId}{q:IntKind}{Q:Nat→Prop}{v:Value}{xs:List Int}{cs:List Value}(h:w.ownsRow 0 e 1 v xs.length cs)(hs:∀g,v.ownBlock=some g→g<w'.heap.size)(hc:∀b,v.ownBlock=some b→∀j u,(xs.map (Value.int q))[j]? =some u→w'.cell? ((⟨b,0,none⟩:Addr).add j)=some u)(hQ:∀b,v.ownBlock=some b→Q b):Rd w' Q (.sl e (.int q)) xs [v]:=by
 rcases h.2 with⟨rfl,h0⟩|⟨g,cap,cur,rfl,_,h3,h4,_⟩
 ·have:xs=[]:=List.eq_nil_of_length_eq_zero h0
  subst this
  exact⟨none,0,rfl,Nat.le_refl _,fun i x hi=>absurd (List.getElem?_eq_some_iff.1 hi).1 (Nat.not_lt_zero _)⟩
 ·exact aY.aa4 (rD xs) h4 fun _=>⟨_,rfl,hs g rfl,hQ g rfl,hc g rfl⟩
theorem Jz {o:Oper}{K:Act→World→Prop}{Q:Exit→Act→World→Prop}(s x:Operand)(t:TypeId)
  (ho:o.op= .call {callee:= .builtin .append,args:= #[s,x],argTypes:= #[t,t]})
  (e:TypeId) (i:TypeInfo) (z:Value) (size bytes:Nat) (ht:P.underlying t=some (.slice e)) (hi:P.info? e=some i) (hz:i.zero=some z)
  (II:i.size=size) (hby:i.bytes=bytes) (S_:z.cells.size=size) (pY:0<size)
  (v:Value) (n:Nat) (xs:List Value) (hs:a.eval s=v) (dM:w.ownsRow 0 e size v n xs)
  (ad:Addr) (m c:Nat) (news:List Value) (hx:a.eval x= .slice (some ad) m c) (hl:news.length=m*size) (PI:∀j u,news[j]? =some u→w.cell? (ad.add j)=some u) (h1:∀u∈news,u.oneCell'=true)
  (h63:n+m≤maxLen) (DZ:(n+m)*bytes≤140737488355328)
  (h:∀v' w',w'.ownsRow 0 e size v' (n+m) (xs++news)→w.grownBy w' v.ownBlock→(∀b,v.ownBlock=some b→∀j u,xs[j]? =some u→w'.cell? ((⟨b,0,none⟩:Addr).add j)=some u)→(∀b,v'.ownBlock=some b→b<w.heap.size→v.ownBlock=some b)→K (a.put o.dst v') w'):o.wp P a w K Q:=by
 obtain⟨v',w',hr,h2,h3,h4,h5⟩:=Rz (P:=P) (w:=w) t o.type e i z size bytes ht hi hz II hby S_ pY v n xs dM ad m c news hl PI h1 h63 DZ
 unfold Oper.wp execOp
 simp only[ho,resolve,invoke,builtin,Sem.run_bind,Sem.run_pure,Result.andThen_ok,List.map_toArray,List.map_cons,List.map_nil,hs,hx,hr]
 exact h v' w' h2 h3 h4 h5
end
abbrev dV:Value:= .slice none 0 0
def adB (rv:List Value):aT→aT
 | .own r=> .val true .hd (rv.getD r dV)
 | .nil=> .val true .hd dV
 |l=>l
section
variable {P:Program} {C:ak} {N:Nat} {w w':World} {may:Nat→Prop} {ow aO:Ow} {m:Mem} {s:S} {a a':Act}
theorem oO {o:Oper}{K:Act→World→Prop}{Q:Exit→Act→World→Prop}{q:Call}{g:FuncId}(ho:o.op= .call q)(hB:Body P g)(hg:q.callee= .value (.func g)){vs:List Value}(hv:q.args.toList.map a.eval=vs)
  (h:Calls P g vs.toArray w fun e w'=>∃v,e= .returned v∧K (a.put o.dst v) w'):o.wp P a w K Q:=by
 unfold Oper.wp
 rw[D6 ho hB hg,Oper.upon_enter,hv]
 exact h.mono fun e w' ⟨v,he,hk⟩=>by subst he;exact hk
theorem dZ.sH {o:Ow}(h:Below w.heap.size w w'):dZ may w o m w' o m:=
 ⟨fun b hb ho=>⟨ho,Nat.lt_of_lt_of_le hb h.size,h.block b hb⟩,fun _ _ e=>e,fun _ _ e=>e,fun r row' _ e=>⟨row',e,rfl,fun _=>rfl⟩,Nat.le_refl _,h.size,fun b hb _=>h.block b hb,h.os,h.tape,h.output⟩
theorem aC.sH (M:aC w may ow m)(hm:∀b,w.heap.size≤b→may b)(h:Below w.heap.size w w'):aC w' may ow m:=by
 obtain⟨M2,_⟩:=M.join (w':=w') (aO:=⟨[],[]⟩) hm h (rows:=[]) ⟨rfl,rfl,(fun i row e=>by simp[Mem.row?]at e),(fun i bx e=>by simp[Mem.box?]at e),(fun x y b hx=>by cases x<;>simp[eG,Mem.row?,Mem.box?]at hx),(fun x b hx=>by cases x<;>simp[eG,Mem.row?,Mem.box?]at hx),(fun i hi=>absurd hi (Nat.not_lt_zero _))⟩ (fun i row e=>by simp[Mem.row?]at e)
 rw[List.append_nil,List.append_nil]at M2
 exact M2
theorem vk {t:Nat}:∀{fr:List (Nat×SV)},t∉fr.map (·.1)→lookup fr t= .undef
 |[],_=>rfl
 |(t',v)::r,h=>by
  simp only[List.map_cons,List.mem_cons,not_or]at h
  simp only[lookup]
  cases hb:Nat.beq t' t with
  |true=>exact absurd (Nat.eq_of_beq_eq_true hb).symm h.1
  |false=>exact vk h.2
theorem aK.sH (I:aK C N may s a w ow)(h:Below w.heap.size w w')(hf:∀t∈s.fr.map (·.1),a'.tmps.getD t undef=a.tmps.getD t undef)(hs:a'.tmps.size=a.tmps.size)(hd:a'.defers=a.defers):aK C N may s a' w' ow:=by
 have K:dZ may w ow s.m w' ow s.m:=dZ.sH h
 refine⟨I.live.aW K,I.mem.sH I.live.new h,fun t=> ?_,hs.trans I.size,hd.trans I.defers⟩
 by_cases ht:t∈s.fr.map (·.1)
 ·rw [hf t ht]
  exact aS.aW K (I.fr t)
 ·have e:s.get t= .undef:=vk ht
  rw[e];trivial
theorem aK.more {fr:List (Nat×SV)}(I:aK C N may ⟨fr,m⟩ a w ow){more:List (Nat×SV)}(h:FrL w (ay ow m) may ow m a more):aK C N may ⟨fr++more,m⟩ a w ow:=by
 refine⟨I.live,I.mem,fun t=> ?_,I.size,I.defers⟩
 by_cases ht:t∈fr.map (·.1)
 ·have e:∀{l:List (Nat×SV)},t∈l.map (·.1)→lookup (l++more) t=lookup l t:=fun {l}=>by
   induction l with
   |nil=>intro h;simp at h
   |cons q r ih=>
    intro h
    obtain⟨t',v⟩:=q
    simp only[List.cons_append,lookup]
    cases hb:Nat.beq t' t with
    |true=>rfl
    |false=>
     simp only[cond_false]
     refine ih ?_
     simp only[List.map_cons,List.mem_cons]at h
     rcases h with h|h
     ·rw [h,Nat.beq_refl]at hb;cases hb
     ·exact h
  show aS w _ may ow m (lookup (fr++more) t) _
  rw[e ht]
  exact I.fr t
 ·have e:∀{l:List (Nat×SV)},t∉l.map (·.1)→lookup (l++more) t=lookup more t:=fun {l}=>by
   induction l with
   |nil=>intro _;rfl
   |cons q r ih=>
    intro h
    obtain⟨t',v⟩:=q
    simp only[List.map_cons,List.mem_cons,not_or]at h
    simp only[List.cons_append,lookup]
    cases hb:Nat.beq t' t with
    |true=>exact absurd (Nat.eq_of_beq_eq_true hb).symm h.1
    |false=>exact ih h.2
  show aS w _ may ow m (lookup (fr++more) t) _
  rw[e ht]
  exact dw.of h t
end
inductive ane where
 |nrm (s:S)
 |ext (j:Nat) (s:S)
 |rt (s:S)
def xH (C:ak)(T:dH)(N n:Nat)(code:Code)(s:S)(sh:List (Nat×CS)):Option ane:=
 goW C T N n code s (fun s'=>(dS sh s').map .nrm) (fun s'=>(dS sh s').map .rt) (fun j s'=>(dS sh s').map (.ext j))
def bJ {R:Type}(C:ak)(T:dH)(N:Nat)(ops:Array Oper)(l:List Nat)(s:S)(c:S→Option R):Option R:=nN C T N ops.toList (l.filterMap (ops[·]?)) s c
def B_ (ops:Array Oper):Nat→Array Bool→List (List Nat)
 |0,_=>[[]]
 |fuel+1,listed=>match Region.ready .any ops listed with
  |[]=>[[]]
  |rs=>rs.flatMap fun i=>(B_ ops fuel (listed.setIfInBounds i true)).map (i:: ·)
section
variable {R:Type} {P:Program} {T:dH} {C:ak} {N:Nat} {w w':World} {may:Nat→Prop} {ow aO:Ow} {m:Mem} {s:S} {a:Act}
theorem aK.dS (I:aK C N may s a w ow){sh:List (Nat×CS)}{s':S}(h:dS sh s=some s'):∃aO,aK C N may s' a w aO∧Kp may w ow s.m w aO s'.m:=by
 obtain⟨aO,M,F,hk⟩:=TT I.mem I.fr h
 exact⟨aO,⟨⟨I.live.new,I.live.EU,fun g tb e=>hk g (I.live.EU g tb e).1 (I.live.ok g tb e)⟩,M,F,I.size,I.defers⟩,Kp.look hk⟩
theorem At.MW {w0:World}{BH:Ow}{m0:Mem}{a0:Act}(A:At P N may w0 BH m0 a0 s a w ow)(hL:Live C may w0 BH m0)(hd:a0.defers=[]):aK C N may s a w ow:=⟨hL.aW A.aW,A.mem,A.fr,A.size,A.defers.trans hd⟩
theorem dO (TK:aZ P T)(CK:ah P C)(kZ:P.follows .mixedOrders=true){n:Nat}{code:Code}{Q:Exit→Act→World→Prop}{sh:List (Nat×CS)}(I:aK C N may s a w ow){o:ane}
  (h:xH C T N n code s sh=some o)
  (hN:∀s' a' w' aO,o= .nrm s'→aK C N may s' a' w' aO→Kp may w ow s.m w' aO s'.m→Q .normal a' w')
  (hX:∀j s' a' w' aO,o= .ext j s'→aK C N may s' a' w' aO→Kp may w ow s.m w' aO s'.m→Q (.exit j) a' w')
  (hR:∀s' a' w' aO,o= .rt s'→aK C N may s' a' w' aO→Kp may w ow s.m w' aO s'.m→Q .ret a' w'):code.wp P Q a w:=
 Es TK CK kZ n code s a w ow _ _ _ Q I.live I.mem I.fr I.size h
  (fun s' a' w' aO e A=>by
   obtain⟨s2,e1,e2⟩:=Option.map_eq_some_iff.1 e
   obtain⟨gV,I2,K2⟩:=(A.MW I.live I.defers).dS e1
   exact hN s2 a' w' gV e2.symm I2 (A.aW.kp.trans K2))
  (fun s' a' w' aO e A=>by
   obtain⟨s2,e1,e2⟩:=Option.map_eq_some_iff.1 e
   obtain⟨gV,I2,K2⟩:=(A.MW I.live I.defers).dS e1
   exact hR s2 a' w' gV e2.symm I2 (A.aW.kp.trans K2))
  fun j s' a' w' aO e A=>by
   obtain⟨s2,e1,e2⟩:=Option.map_eq_some_iff.1 e
   obtain⟨gV,I2,K2⟩:=(A.MW I.live I.defers).dS e1
   exact hX j s2 a' w' gV e2.symm I2 (A.aW.kp.trans K2)
theorem Ap (TK:aZ P T)(CK:ah P C){r:R}{ops:Array Oper}{c:S→Option R}{Q:Exit→Act→World→Prop}:∀(l:List Nat) (s:S) (a:Act) (w:World) (ow:Ow),(∀i∈l,i<ops.size)→Live C may w ow s.m→
  aC w may ow s.m→dw w (ay ow s.m) may ow s a→a.tmps.size=N→bJ C T N ops l s c=some r→
  (∀s' a' w' aO,c s'=some r→At P N may w ow s.m a s' a' w' aO→Q .normal a' w')→wpOps P ops Q l a w
 |[],s,a,w,ow,hl,hm,M,F,hN,h,hQ=>hQ s a w ow h (At.refl M F hN)
 |i::l,s,a,w,ow,hl,hm,M,F,hN,h,hQ=>by
  have hi:=hl i (by simp)
  have h0:ops[i]? =some ops[i]:=Array.getElem?_eq_getElem hi
  simp only[bJ,List.filterMap_cons,h0]at h
  obtain⟨hd,h⟩:=aG h
  obtain⟨s',wt,sv,m',e,F',h1,h2⟩:=Fe TK CK M hm F h
  rw[He h0]
  have key:∀v w' aO,aC w' may aO m'→dZ may w ow s.m w' aO m'→aS w' (ay aO m') may aO m' sv v→wpOps P ops Q l (a.put ops[i].dst v) w':=by
   intro v w' aO M' K' hv
   have A:=At.step (P:=P) hN e F' M' K' hd hv
   exact Ap TK CK l _ _ w' aO (fun j hj=>hl j (by simp[hj])) (by rw[Fa];exact hm.aW K') A.mem A.fr A.size h1 fun s2 a2 w2 gV h3 A2=>hQ s2 a2 w2 gV h3 (A.trans A2)
  rcases h2 with⟨_,hw,h2⟩|⟨_,hw,rfl,rfl⟩
  ·rw [if_pos hw]
   exact .inl (h2 _ _ key)
  ·rw [if_neg (by simp[hw])]
   exact key undef w ow M (dZ.refl _ _ _ _) wW
theorem ni (TK:aZ P T)(CK:ah P C){ops:Array Oper}{Q:Exit→Act→World→Prop}{sh:List (Nat×CS)}{l:List Nat}{s':S}(I:aK C N may s a w ow)(hl:∀i∈l,i<ops.size)(h:bJ C T N ops l s (dS sh)=some s')
  (hN:∀a' w' aO,aK C N may s' a' w' aO→Kp may w ow s.m w' aO s'.m→Q .normal a' w'):wpOps P ops Q l a w:=
 Ap TK CK l s a w ow hl I.live I.mem I.fr I.size h fun s2 a' w' aO e A=>by
  obtain⟨gV,I2,K2⟩:=(A.MW I.live I.defers).dS e
  exact hN a' w' gV I2 (A.aW.kp.trans K2)
theorem zu {ops:Array Oper}:∀(fuel t:Nat) (listed:Array Bool),Region.linearise.go .any ops fuel t listed []∈B_ ops fuel listed
 |0,t,listed=>by simp[Region.linearise.go,B_]
 |fuel+1,t,listed=>by
  simp only[Region.linearise.go,B_]
  change (match (Region.ready .any ops listed)[t%(Region.ready .any ops listed).length]? with
   |some i=>Region.linearise.go .any ops fuel (t/(Region.ready .any ops listed).length) (listed.setIfInBounds i true) [i]
   |none=>[].reverse)∈_
  cases hr:Region.ready .any ops listed with
  |nil=>simp
  |cons x xs=>
   cases hi:(x::xs)[t%(x::xs).length]? with
   |none=>
    have dX:t%(x::xs).length<(x::xs).length:=Nat.mod_lt _ (by simp)
    rw[List.getElem?_eq_none_iff]at hi
    omega
   |some i=>
    simp only[]
    rw[linearise_go_acc,List.reverse_singleton,List.singleton_append]
    exact List.mem_flatMap.2 ⟨i,List.mem_of_getElem? hi,List.mem_map.2 ⟨_,zu fuel _ _,rfl⟩⟩
theorem uw (kZ:P.follows .mixedOrders=true){id:Nat}{ops:Array Oper}{Q:Exit→Act→World→Prop}{os:List (List Nat)}(ho:B_ ops ops.size (Array.replicate ops.size false)=os)
  (h:∀l∈os,wpOps P ops Q l a {w with drawn:=w.drawn+1}):(Code.region id ops true).wp P Q a w:=
 wp_region_draw fun t=>by
  simp only[Region.schedule,kZ,Bool.true_or,if_true]
  exact h _ (ho▸zu ops.size t _)
theorem aK.drew (I:aK C N may s a w ow)(n:Nat):aK C N may s a {w with drawn:=n} ow∧Kp may w ow s.m {w with drawn:=n} ow s.m:=by
 obtain⟨M,K⟩:=I.mem.drew n
 exact⟨⟨I.live.aW K,M,fun t=>aS.aW K (I.fr t),I.size,I.defers⟩,K.kp⟩
def yJ (p:Nat→Bool)(rv:List Value):aT→aT
 | .own r=>bif p r then .val true .hd (rv.getD r dV)else .own r
 |l=>l
def hpC (p:Nat→Bool)(rv:List Value):lM→lM
 | .lf l=> .lf (yJ p rv l)
 | .agg ls=> .agg (ls.map (yJ p rv))
def Xo (p:Nat→Bool)(rv:List Value):SV→SV
 | .one c=> .one (hpC p rv c)
 | .box b o=> .box b o
 | .kX b o g=> .kX b o g
 |_=> .undef
def ain (p:Nat→Bool)(rv:List Value)(b:Option pF):Option pF:=b.map fun bx=>⟨bx.t,bx.ls.map (yJ p rv)⟩
def RD (p:Nat→Bool)(rows:List (Option Row)):List (Option Row):=rows.mapIdx fun i r=>bif p i then none else r
def PK (p:Nat→Bool)(rv:List Value)(m:Mem):Mem:=⟨RD p m.rows,m.boxes.map (ain p rv)⟩
def hpS (p:Nat→Bool)(rv:List Value)(s:S):S:=⟨s.fr.map fun q=>(q.1,Xo p rv q.2),PK p rv s.m⟩
theorem MZ (p:Nat→Bool)(rv:List Value)(m:Mem)(i:Nat):(PK p rv m).row? i=if p i=true then none else m.row? i:=by
 simp only[Mem.row?,PK,RD,List.getElem?_mapIdx]
 cases h:m.rows[i]? with
 |none=>simp
 |some r=>cases hp:p i<;>simp[hp]
theorem RF (p:Nat→Bool)(rv:List Value)(m:Mem)(i:Nat):(PK p rv m).box? i=(m.box? i).map fun bx=>⟨bx.t,bx.ls.map (yJ p rv)⟩:=by
 simp only[Mem.box?,PK,List.getElem?_map]
 cases h:m.boxes[i]? with
 |none=>rfl
 |some b=>cases b<;>rfl
theorem Io {p:Nat→Bool}{rv:List Value}{x:Th}{b:Nat}(h:eG ow (PK p rv m) x=some b):eG ow m x=some b:=by
 cases x with
 |row i=>
  simp only[eG,MZ]at h⊢
  split at h
  ·rename_i row hr
   split at hr
   ·cases hr
   ·rw [hr];exact h
  ·cases h
 |box i=>
  simp only[eG,RF]at h⊢
  cases hb:m.box? i with
  |none=>rw[hb]at h;cases h
  |some bx=>rw[hb]at h;exact h
theorem YO {p:Nat→Bool}{rv:List Value}{b:Nat}(h:ay ow m b):ay ow (PK p rv m) b:=fun x hx=>h x (Io hx)
theorem Et {ok:Nat→Prop}(lU:∀b,ay ow m b→ok b)(p:Nat→Bool){l:aT}{v:Value}(h:aQ w (ay ow m) may ow l v):aQ w ok may ow (yJ p ow.rv l) v:=by
 cases l with
 |val f k x=>exact Rd.mono (fun b h=>⟨lU b h.1,h.2⟩) (h:Rd _ _ _ _ _)
 |nil=>exact h
 |own r=>
  obtain⟨h1,h2⟩:=h
  simp only[yJ]
  cases p r with
  |false=>exact⟨h1,h2⟩
  |true=>
   show[v]=[ow.rv.getD r dV]∧_
   have e:ow.rv.getD r dV=v:=by rw[List.getD_eq_getElem?_getD,h1];rfl
   rw[e]
   exact⟨rfl,h2⟩
theorem aK.hp (I:aK C N may s a w ow)(p:Nat→Bool):aK C N may (hpS p ow.rv s) a w ow∧Kp may w ow s.m w ow (PK p ow.rv s.m):=by
 have lU:∀b,ay ow s.m b→ay ow (PK p ow.rv s.m) b:=fun b h=>YO h
 have M:=I.mem
 refine⟨⟨⟨I.live.new,I.live.EU,fun g tb e=>lU g (I.live.ok g tb e)⟩,⟨?_,?_,fun i row e=> ?_,fun i bx e=> ?_,fun x y b h1 h2=>M.qp x y b (Io h1) (Io h2),fun x b h=>M.fH x b (Io h),fun i hi e=> ?_⟩,fun t=> ?_,I.size,I.defers⟩,Kp.look fun b _ h=>lU b h⟩
 ·show ow.rv.length=(RD p s.m.rows).length
  simp only[RD,List.length_mapIdx];exact M.lX
 ·show ow.bb.length=(s.m.boxes.map _).length
  simp only[List.length_map];exact M.jc
 ·rw [show (hpS p ow.rv s).m=PK p ow.rv s.m from rfl,MZ]at e
  split at e
  ·cases e
  ·obtain ⟨v,hv,R⟩:=M.rows i row e
   exact⟨v,hv,R.aW (iF.mono fun b _=>lU b) fun _ _ _=>rfl⟩
 ·rw [show (hpS p ow.rv s).m=PK p ow.rv s.m from rfl,RF]at e
  obtain⟨bx0,h1,rfl⟩:=Option.map_eq_some_iff.1 e
  obtain⟨g,hg,vs,hv,hF⟩:=M.boxes i bx0 h1
  exact⟨g,hg,vs,hv,F2.qE.2 (hF.imp fun l v h=>Et lU p h)⟩
 ·rw [show (hpS p ow.rv s).m=PK p ow.rv s.m from rfl,RF]at e
  have hi:i<(s.m.boxes.map (ain p ow.rv)).length:=hi
  simp only[List.length_map]at hi
  refine M.free i hi ?_
  cases h1:s.m.box? i with
  |none=>rfl
  |some bx=>rw[h1]at e;cases e
 ·have key:∀fr:List (Nat×SV),(lookup (fr.map fun q=>(q.1,Xo p ow.rv q.2)) t)=Xo p ow.rv (lookup fr t):=fun fr=>by
   induction fr with
   |nil=>rfl
   |cons q r ih=>
    obtain⟨t',v⟩:=q
    simp only[List.map_cons,lookup]
    cases Nat.beq t' t with
    |true=>rfl
    |false=>exact ih
  show aS w _ may _ _ (lookup (s.fr.map fun q=>(q.1,Xo p ow.rv q.2)) t) _
  rw[key]
  have h:aS w (ay ow s.m) may ow s.m (lookup s.fr t) (a.tmps.getD t undef):=I.fr t
  cases hl:lookup s.fr t with
  |one c=>
   rw[hl]at h
   cases c with
   |lf l=>exact Et lU p (h:aQ _ _ _ _ _ _)
   |agg ls=>obtain⟨vs,e,hF⟩:=h;exact⟨vs,e,F2.qE.2 (hF.imp fun l v h=>Et lU p h)⟩
  |box b o=>rw[hl]at h;exact h
  |kX b o g=>rw[hl]at h;exact h
  |_=>trivial
end
structure oP (e:TypeId) (w:World) (new:Nat→Prop) (ps:List (Value×List Int)):Prop where
 own:∀p∈ps,w.ownsRow 0 e 1 p.1 p.2.length (p.2.map (Value.int .u32))
 qp:∀(i j:Nat) (p q:Value×List Int) (b:Nat),ps[i]? =some p→ps[j]? =some q→p.1.ownBlock=some b→q.1.ownBlock=some b→i=j
 new:∀p∈ps,∀b,p.1.ownBlock=some b→new b
section
variable {e:TypeId} {P:Program} {C:ak} {N:Nat} {w w':World} {may:Nat→Prop} {ow aO:Ow} {m m':Mem} {s:S} {a:Act} {new new':Nat→Prop} {ps qs:List (Value×List Int)}
theorem oP.nil:oP e w new []:=⟨fun p h=>(by simp at h),fun i j p q b h=>(by simp at h),fun p h=>(by simp at h)⟩
theorem oP.lt (H:oP e w new ps):∀p∈ps,∀b,p.1.ownBlock=some b→b<w.heap.size:=fun p hp b e=>(World.ownsRow.lt (H.own p hp) b e).2
theorem oP.aW (H:oP e w new ps)(hb:∀b,b<w.heap.size→new b→w'.heap[b]? =w.heap[b]?)(hn:∀b,b<w.heap.size→new b→new' b):oP e w' new' ps:=
 ⟨fun p hp=>gZ (H.own p hp) fun g hg=>hb g (H.lt p hp g hg) (H.new p hp g hg),H.qp,fun p hp b e=>hn b (H.lt p hp b e) (H.new p hp b e)⟩
theorem oP.append (H:oP e w new ps)(G:oP e w new qs)(h:∀p∈ps,∀q∈qs,∀b,p.1.ownBlock=some b→q.1.ownBlock≠some b):oP e w new (ps++qs):=by
 refine⟨fun p hp=> ?_,fun i j p q b hi hj h1 h2=> ?_,fun p hp=> ?_⟩
 ·rcases List.mem_append.1 hp with hp|hp
  ·exact H.own p hp
  ·exact G.own p hp
 ·by_cases li:i<ps.length
  ·rw [List.getElem?_append_left li]at hi
   by_cases lj:j<ps.length
   ·rw [List.getElem?_append_left lj]at hj
    exact H.qp i j p q b hi hj h1 h2
   ·rw [List.getElem?_append_right (by omega)]at hj
    exact absurd h2 (h p (List.mem_of_getElem? hi) q (List.mem_of_getElem? hj) b h1)
  ·rw [List.getElem?_append_right (by omega)]at hi
   by_cases lj:j<ps.length
   ·rw [List.getElem?_append_left lj]at hj
    exact absurd h1 (h q (List.mem_of_getElem? hj) p (List.mem_of_getElem? hi) b h2)
   ·rw [List.getElem?_append_right (by omega)]at hj
    have:=G.qp _ _ p q b hi hj h1 h2
    omega
 ·rcases List.mem_append.1 hp with hp|hp
  ·exact H.new p hp
  ·exact G.new p hp
abbrev PL (e:TypeId)(xs:List Int):Row:=⟨e,.int .u32,true,true,xs⟩
abbrev yK (e:TypeId)(ls:List (List Int)):List (Option Row):=ls.map fun xs=>some (PL e xs)
def jm (rv:List Value)(ls:List (List Int)):List (Value×List Int):=ls.mapIdx fun j xs=>(rv.getD j dV,xs)
theorem Gw {rv:List Value}{ls:List (List Int)}{i:Nat}{p:Value×List Int}(h:(jm rv ls)[i]? =some p):∃xs,ls[i]? =some xs∧p=(rv.getD i dV,xs):=by
 simp only[jm,List.getElem?_mapIdx]at h
 obtain⟨xs,h1,h2⟩:=Option.map_eq_some_iff.1 h
 exact⟨xs,h1,h2.symm⟩
theorem aC.held {ls:List (List Int)}(M:aC w may ow ⟨yK e ls,[]⟩):oP e w may (jm ow.rv ls):=by
 have key:∀(i:Nat) (p:Value×List Int),(jm ow.rv ls)[i]? =some p→w.ownsRow 0 e 1 p.1 p.2.length (p.2.map (Value.int .u32))∧∀b,p.1.ownBlock=some b→eG ow ⟨yK e ls,[]⟩ (.row i)=some b:=fun i p h=>by
  obtain⟨xs,hx,rfl⟩:=Gw h
  have hr:(⟨yK e ls,[]⟩:Mem).row? i=some (PL e xs):=by
   show((ls.map fun xs=>some (PL e xs))[i]?).bind id=_
   rw[List.getElem?_map,hx];rfl
  obtain⟨v,cs,h1,h2,h3,h4⟩:=M.own hr rfl rfl
  obtain rfl:=lC h4
  have ev:ow.rv.getD i dV=v:=by rw[List.getD_eq_getElem?_getD,h1];rfl
  simp only[ev]
  exact⟨h3,fun b hb=>by rw[fF hr h1 rfl,jl h2];exact hb⟩
 refine⟨fun p hp=> ?_,fun i j p q b hi hj h1 h2=> ?_,fun p hp b h=> ?_⟩
 ·obtain ⟨i,hi,rfl⟩:=List.getElem_of_mem hp
  exact(key i _ (List.getElem?_eq_getElem hi)).1
 ·have:=M.qp _ _ b ((key i p hi).2 b h1) ((key j q hj).2 b h2)
  injection this
 ·obtain ⟨i,hi,rfl⟩:=List.getElem_of_mem hp
  exact(M.fH _ b ((key i _ (List.getElem?_eq_getElem hi)).2 b h)).1
end
def RG:SV→Bool
 | .undef=>true
 | .one _=>true
 | .box _ _=>true
 | .kX _ _ _=>true
 |_=>false
section
variable {C:ak} {N:Nat} {w w':World} {may may':Nat→Prop} {ow:Ow} {m:Mem} {s:S} {a a':Act}
theorem aK.cut (I:aK C N may s a w ow)(h:Below w.heap.size w w')(hf:∀t∈s.fr.map (·.1),a'.tmps.getD t undef=a.tmps.getD t undef)(hs:a'.tmps.size=a.tmps.size)(hd:a'.defers=a.defers)
  (hmp:∀i row,s.m.row? i=some row→row.mp? =none) (ND:∀q∈s.fr,RG q.2=true):aK C N (fun b=>may b∧(b<w.heap.size∨w'.heap.size≤b)) s a' w' ow:=by
 have M:=I.mem
 have st:iF w (ay ow s.m) w' (ay ow s.m):=fun b hb ho=>⟨ho,Nat.lt_of_lt_of_le hb h.size,h.block b hb⟩
 have H:∀fr,iF w (o7 (ay ow s.m) may fr) w' (o7 (ay ow s.m) (fun b=>may b∧(b<w.heap.size∨w'.heap.size≤b)) fr):=fun fr b hb ho=>⟨⟨ho.1,fun e=>⟨ho.2 e,.inl hb⟩⟩,Nat.lt_of_lt_of_le hb h.size,h.block b hb⟩
 have HL:∀{l:aT} {v:Value},aQ w (ay ow s.m) may ow l v→aQ w' (ay ow s.m) (fun b=>may b∧(b<w.heap.size∨w'.heap.size≤b)) ow l v:=fun {l v} hl=>by
  cases l with
  |val f k x=>exact Rd.aW (H f) (hl:Rd _ _ _ _ _)
  |own r=>exact hl
  |nil=>exact hl
 have HC:∀{c:lM} {v:Value},bG w (ay ow s.m) may ow c v→bG w' (ay ow s.m) (fun b=>may b∧(b<w.heap.size∨w'.heap.size≤b)) ow c v:=fun {c v} hc=>by
  cases c with
  |lf l=>exact HL hc
  |agg ls=>obtain⟨vs,e,hF⟩:=hc;exact⟨vs,e,hF.imp fun _ _ h=>HL h⟩
 have K:dZ may w ow s.m w' ow s.m:=dZ.sH h
 refine⟨⟨fun b hb=>⟨I.live.new b (Nat.le_trans h.size hb),.inr hb⟩,(I.live.aW K).EU,(I.live.aW K).ok⟩,⟨M.lX,M.jc,fun i row e=> ?_,fun i bx e=> ?_,M.qp,fun x b hb=> ?_,M.free⟩,fun t=> ?_,hs.trans I.size,hd.trans I.defers⟩
 ·obtain ⟨v,hv,R⟩:=M.rows i row e
  refine⟨v,hv,?_⟩
  rcases R with⟨h1,h2⟩|⟨g,xs,_,e2,_⟩
  ·refine .inl ⟨h1,?_⟩
   by_cases hw:row.rw=true
   ·rw [if_pos hw]at h2⊢
    obtain⟨cs,h3,h4⟩:=h2
    exact⟨cs,gZ h3 fun g hg=>h.block g (World.ownsRow.lt h3 g hg).2,h4.aW (H row.fr)⟩
   ·rw [if_neg hw]at h2⊢
    exact Rd.aW (k:= .sl row.e row.k) (H row.fr) h2
  ·rw [hmp i row e]at e2;cases e2
 ·obtain ⟨g,hg,vs,hv,hF⟩:=M.boxes i bx e
  have dX:g<w.heap.size:=(Array.getElem?_eq_some_iff.1 hv).1
  exact⟨g,hg,vs,(h.block g dX).trans hv,hF.imp fun _ _ h=>HL h⟩
 ·obtain ⟨h1,h2⟩:=M.fH x b hb
  exact⟨⟨h1,.inl h2⟩,Nat.lt_of_lt_of_le h2 h.size⟩
 ·by_cases ht:t∈s.fr.map (·.1)
  ·rw [hf t ht]
   have h0:aS w (ay ow s.m) may ow s.m (s.get t) (a.tmps.getD t undef):=I.fr t
   have hp:RG (s.get t)=true:=by
    rcases oz (fr:=s.fr) (t:=t)with e|e
    ·rw [show s.get t=lookup s.fr t from rfl,e];rfl
    ·exact ND _ e
   cases hl:s.get t with
   |one c=>rw[hl]at h0;exact HC h0
   |box b o=>rw[hl]at h0;exact h0
   |kX b o g=>rw[hl]at h0;exact h0
   |undef=>trivial
   |_=>rw[hl]at hp;cases hp
  ·have e:s.get t= .undef:=vk ht
   rw[e];trivial
end
def aio (n:Nat):SV→Bool
 | .undef=>true
 | .one _=>true
 | .box b _=>Nat.blt b n
 | .kX b _ _=>Nat.blt b n
 |_=>false
section
variable {C:ak} {N:Nat} {w:World} {may:Nat→Prop} {ow:Ow} {a:Act} {fr:List (Nat×SV)} {rows:List (Option Row)} {bs:List (Option pF)} {bx:pF}
theorem adC {n i:Nat}{x:Option Nat}(h:Nat.blt i n=true)(hl:n≤ow.bb.length)(e:ow.bb[i]? =some x):(ow.bb.take n)[i]? =some x:=by
 have:i<n:=Nat.le_of_ble_eq_true h
 rw[List.getElem?_take_of_lt this];exact e
theorem Kw {k:K}{xs:List k.T}{t:TypeId}{fz:Bool}{v:Value}(M:aC w may ow ⟨rows,bs++[some bx]⟩){x:Th}{b:Nat}
  (h:eG ⟨ow.rv++[v],ow.bb.take bs.length⟩ ⟨rows++[some ⟨t,k,fz,false,xs⟩],bs⟩ x=some b):eG ow ⟨rows,bs++[some bx]⟩ x=some b∧x≠.box bs.length:=by
 cases x with
 |row i=>
  refine⟨?_,by intro e;cases e⟩
  simp only[eG,Mem.row?]at h⊢
  have hrl:ow.rv.length=rows.length:=M.lX
  by_cases hi:i<rows.length
  ·rw [List.getElem?_append_left hi]at h
   rw[List.getElem?_append_left (by omega)]at h
   exact h
  ·rw [List.getElem?_append_right (by omega)]at h
   cases hd:i-rows.length with
   |zero=>rw[hd]at h;simp at h
   |succ j=>rw[hd]at h;simp at h
 |box i=>
  simp only[eG,Mem.box?]at h⊢
  by_cases hi:i<bs.length
  ·rw [List.getElem?_append_left hi]
   rw[List.getElem?_take_of_lt hi]at h
   exact⟨h,by intro e;injection e with e;omega⟩
  ·rw [List.getElem?_eq_none (by omega)]at h
   simp at h
theorem Eu (t:Nat)(v:SV):∀f:List (Nat×SV),t∉f.map (·.1)→lookup (f++[(t,v)]) t=v
 |[],_=>by simp[lookup]
 |(t',u)::f,h=>by
  simp only[List.map_cons,List.mem_cons,not_or]at h
  simp only[List.cons_append,lookup]
  cases hb:Nat.beq t' t with
  |true=>exact absurd (Nat.eq_of_beq_eq_true hb).symm h.1
  |false=>exact Eu t v f h.2
theorem Ip {t:Nat}{r:List (Nat×SV)}:∀{f:List (Nat×SV)},t∈f.map (·.1)→lookup (f++r) t=lookup f t
 |[],h=>by simp at h
 |(t',v)::f,h=>by
  simp only[List.cons_append,lookup]
  cases hb:Nat.beq t' t with
  |true=>rfl
  |false=>
   simp only[cond_false]
   refine Ip ?_
   simp only[List.map_cons,List.mem_cons]at h
   rcases h with h|h
   ·rw [h,Nat.beq_refl]at hb;cases hb
   ·exact h
theorem aK.ake {t:Nat}{k:K}{x:k.T}{g:Nat}{vs:List Value}(I:aK C N may ⟨fr++[(t,.box bs.length 0)],⟨rows,bs++[some bx]⟩⟩ a w ow)(vF:∀q∈fr,aio bs.length q.2=true)(ht:t∉fr.map (·.1))
  (hg:ow.bb[bs.length]? =some (some g)) (hc:w.heap[g]? =some (.cells vs.toArray bx.t (0,0))) (hx:Rd w (ay ow ⟨rows,bs++[some bx]⟩) k x vs):
  aK C N may ⟨fr++[(t,.Dt rows.length 0 0)],⟨rows++[some ⟨bx.t,k,false,false,[x]⟩],bs⟩⟩ a w ⟨ow.rv++[.slice (some ⟨g,0,none⟩) 1 1],ow.bb.take bs.length⟩∧
   ∀b,ay ow ⟨rows,bs++[some bx]⟩ b∨b=g→ay ⟨ow.rv++[.slice (some ⟨g,0,none⟩) 1 1],ow.bb.take bs.length⟩ ⟨rows++[some ⟨bx.t,k,false,false,[x]⟩],bs⟩ b:=by
 have M:=I.mem
 have hrl:ow.rv.length=rows.length:=M.lX
 have R_:ow.bb.length=(bs++[some bx]).length:=M.jc
 have R_:ow.bb.length=bs.length+1:=by rw[R_,List.length_append];rfl
 have kg:eG ow ⟨rows,bs++[some bx]⟩ (.box bs.length)=some g:=by
  simp only[eG,Mem.box?,List.getElem?_append_right (Nat.le_refl _),Nat.sub_self,List.getElem?_cons_zero,Option.bind_some,id,hg]
 have lU:∀b,ay ow ⟨rows,bs++[some bx]⟩ b∨b=g→ay ⟨ow.rv++[.slice (some ⟨g,0,none⟩) 1 1],ow.bb.take bs.length⟩ ⟨rows++[some ⟨bx.t,k,false,false,[x]⟩],bs⟩ b:=fun b h y hy=>by
  obtain⟨h1,h2⟩:=Kw M hy
  rcases h with h|rfl
  ·exact h y h1
  ·exact h2 (M.qp _ _ _ h1 kg)
 have dX:g<w.heap.size:=(Array.getElem?_eq_some_iff.1 hc).1
 have HL:∀{l:aT} {v:Value},aQ w (ay ow ⟨rows,bs++[some bx]⟩) may ow l v→aQ w (ay ⟨ow.rv++[.slice (some ⟨g,0,none⟩) 1 1],ow.bb.take bs.length⟩ ⟨rows++[some ⟨bx.t,k,false,false,[x]⟩],bs⟩) may ⟨ow.rv++[.slice (some ⟨g,0,none⟩) 1 1],ow.bb.take bs.length⟩ l v:=fun {l v} h=>by
  cases l with
  |val f k x=>exact Rd.mono (fun b h=>⟨lU b (.inl h.1),h.2⟩) (h:Rd _ _ _ _ _)
  |own r=>
   refine⟨?_,h.2⟩
   have h1:ow.rv[r]? =some v:=h.1
   show(ow.rv++[_])[r]? =some v
   rw[List.getElem?_append_left (List.getElem?_eq_some_iff.1 h1).1];exact h1
  |nil=>exact h
 refine⟨⟨⟨I.live.new,I.live.EU,fun g' tb e=>lU _ (.inl (I.live.ok g' tb e))⟩,⟨?_,?_,fun i row e=> ?_,fun i b e=> ?_,fun y z b h1 h2=>M.qp y z b (Kw M h1).1 (Kw M h2).1,fun y b h=>M.fH y b (Kw M h).1,fun i hi e=> ?_⟩,fun u=> ?_,I.size,I.defers⟩,lU⟩
 ·simp [hrl]
 ·show (ow.bb.take bs.length).length=bs.length
  rw[List.length_take];omega
 ·by_cases hi:i<rows.length
  ·have e':(⟨rows,bs++[some bx]⟩:Mem).row? i=some row:=by
    have e:((rows++[_])[i]?).bind id=some row:=e
    rw[List.getElem?_append_left hi]at e;exact e
   obtain⟨v,hv,R⟩:=M.rows i row e'
   refine⟨v,?_,R.aW (iF.mono fun b _ h=>lU b (.inl h)) fun _ _ _=>rfl⟩
   show(ow.rv++[_])[i]? =some v
   rw[List.getElem?_append_left (by omega)];exact hv
  ·have e:((rows++[some (⟨bx.t,k,false,false,[x]⟩:Row)])[i]?).bind id=some row:=e
   rw[List.getElem?_append_right (by omega)]at e
   cases hd:i-rows.length with
   |succ j=>rw[hd]at e;simp at e
   |zero=>
    rw[hd]at e
    obtain rfl:=Option.some.inj e
    refine⟨.slice (some ⟨g,0,none⟩) 1 1,?_,.inl ⟨⟨_,_,_,rfl⟩,?_⟩⟩
    ·show (ow.rv++[_])[i]? =_
     rw[List.getElem?_append_right (by omega),show i-ow.rv.length=0 by omega];rfl
    ·rw [if_neg (by simp)]
     refine⟨some ⟨g,0,none⟩,1,rfl,Nat.le_refl _,fun j y hj=> ?_⟩
     cases j with
     |succ j=>simp at hj
     |zero=>
      obtain rfl:x=y:=Option.some.inj hj
      refine⟨⟨g,0,none⟩,vs,rfl,dX,⟨lU g (.inr rfl),fun e=>by cases e⟩,Rd.mono (fun b h=>⟨lU b (.inl h),fun e=>by cases e⟩) hx,fun j u hj=> ?_⟩
      show w.cell? ((⟨g,0,none⟩:Addr).add (0*k.n+j))=some u
      rw[Nat.zero_mul,Nat.zero_add]
      have ha:((⟨g,0,none⟩:Addr).add j)=⟨g,j,none⟩:=by
       by_cases h0:j=0
       ·subst h0;rfl
       ·simp [Addr.add,h0]
      rw[ha]
      simp only[World.cell?,hc]
      simpa using hj
 ·have hi:i<bs.length:=by
   by_cases hi:i<bs.length
   ·exact hi
   ·have e:(bs[i]?).bind id=some b:=e
    rw[List.getElem?_eq_none (by omega)]at e;cases e
  have e':(⟨rows,bs++[some bx]⟩:Mem).box? i=some b:=by
   show((bs++[some bx])[i]?).bind id=some b
   rw[List.getElem?_append_left hi];exact e
  obtain⟨g',zA,us,hu,hF⟩:=M.boxes i b e'
  refine⟨g',?_,us,hu,hF.imp fun _ _ h=>HL h⟩
  show(ow.bb.take bs.length)[i]? =_
  rw[List.getElem?_take_of_lt hi];exact zA
 ·have hi:i<bs.length:=hi
  have e:(bs[i]?).bind id=none:=e
  show(ow.bb.take bs.length)[i]? =some none
  rw[List.getElem?_take_of_lt hi]
  refine M.free i (by show i<(bs++[some bx]).length;simp;omega) ?_
  show((bs++[some bx])[i]?).bind id=none
  rw[List.getElem?_append_left hi];exact e
 ·by_cases hu:u∈fr.map (·.1)
  ·have e1:lookup (fr++[(t,(.Dt rows.length 0 0:SV))]) u=lookup fr u:=Ip hu
   have e2:lookup (fr++[(t,(.box bs.length 0:SV))]) u=lookup fr u:=Ip hu
   have h0:aS w (ay ow ⟨rows,bs++[some bx]⟩) may ow ⟨rows,bs++[some bx]⟩ (lookup (fr++[(t,.box bs.length 0)]) u) (a.tmps.getD u undef):=I.fr u
   show aS w _ may _ _ (lookup (fr++[(t,.Dt rows.length 0 0)]) u) _
   rw[e2]at h0
   rw[e1]
   have hp:aio bs.length (lookup fr u)=true:=by
    rcases oz (fr:=fr) (t:=u)with e|e
    ·rw [e];rfl
    ·exact vF _ e
   have hle:bs.length≤ow.bb.length:=by omega
   cases hl:lookup fr u with
   |one c=>
    rw[hl]at h0
    cases c with
    |lf l=>exact HL (h0:aQ _ _ _ _ _ _)
    |agg ls=>obtain⟨us,e,hF⟩:=h0;exact⟨us,e,hF.imp fun _ _ h=>HL h⟩
   |box b o=>rw[hl]at h0 hp;obtain⟨g',h1,h2⟩:=h0;exact⟨g',adC hp hle h1,h2⟩
   |kX b o g'=>rw[hl]at h0 hp;exact⟨adC hp hle h0.1,h0.2⟩
   |undef=>trivial
   |_=>rw[hl]at hp;cases hp
  ·by_cases e:u=t
   ·subst e
    have h0:aS w (ay ow ⟨rows,bs++[some bx]⟩) may ow ⟨rows,bs++[some bx]⟩ (lookup (fr++[(u,.box bs.length 0)]) u) (a.tmps.getD u undef):=I.fr u
    rw[Eu u _ fr hu]at h0
    obtain⟨g',h1,h2⟩:=h0
    obtain rfl:g=g':=by rw[hg]at h1;exact Option.some.inj (Option.some.inj h1)
    show aS w _ may _ _ (lookup (fr++[(u,.Dt rows.length 0 0)]) u) _
    rw[Eu u _ fr hu]
    refine⟨by simp,fun row e=> ?_⟩
    have e:((rows++[some (⟨bx.t,k,false,false,[x]⟩:Row)])[rows.length]?).bind id=some row:=e
    rw[List.getElem?_append_right (Nat.le_refl _),Nat.sub_self]at e
    obtain rfl:=Option.some.inj e
    refine⟨by simp,g,1,1,?_,?_⟩
    ·show (ow.rv++[_])[rows.length]? =_
     rw[List.getElem?_append_right (by omega),show rows.length-ow.rv.length=0 by omega];rfl
    ·rw [h2,Nat.zero_mul,Nat.zero_add]
   ·have e1:lookup (fr++[(t,(.Dt rows.length 0 0:SV))]) u= .undef:=vk (by simp[hu];exact e)
    show aS w _ may _ _ (lookup (fr++[(t,.Dt rows.length 0 0)]) u) _
    rw[e1];trivial
end
def frL:aT→Bool
 | .val f _ _=>f
 |_=>true
def frV:SV→Bool
 | .undef=>true
 | .one (.lf l)=>frL l
 | .one (.agg ls)=>ls.all frL
 | .box _ _=>true
 | .kX _ _ _=>true
 |_=>false
section
variable {C:ak} {N:Nat} {w w':World} {may may':Nat→Prop} {ow:Ow} {m:Mem} {s:S} {a a':Act}
theorem aK.far (I:aK C N may s a w ow)(hs:w.heap.size≤w'.heap.size)(hb:∀b,b<w.heap.size→may b→w'.heap[b]? =w.heap[b]?)(hf:∀t∈s.fr.map (·.1),a'.tmps.getD t undef=a.tmps.getD t undef)(hz:a'.tmps.size=a.tmps.size)(hd:a'.defers=a.defers)
  (Dp:C.aJ=fun _=>none) (tH:∀i row,s.m.row? i=some row→row.fr=true∧row.mp? =none) (sO:∀i bx,s.m.box? i=some bx→bx.ls.all frL=true) (ND:∀q∈s.fr,frV q.2=true):aK C N may s a' w' ow:=by
 have M:=I.mem
 have H:iF w (o7 (ay ow s.m) may true) w' (o7 (ay ow s.m) may true):=fun b dX ho=>⟨ho,Nat.lt_of_lt_of_le dX hs,hb b dX (ho.2 rfl)⟩
 have HL:∀{l:aT} {v:Value},frL l=true→aQ w (ay ow s.m) may ow l v→aQ w' (ay ow s.m) may ow l v:=fun {l v} hf hl=>by
  cases l with
  |val f k x=>obtain rfl:f=true:=hf;exact Rd.aW H (hl:Rd _ _ _ _ _)
  |own r=>exact hl
  |nil=>exact hl
 have HF:∀{ls:List aT} {vs:List Value},ls.all frL=true→F2 (aQ w (ay ow s.m) may ow) ls vs→F2 (aQ w' (ay ow s.m) may ow) ls vs:=by
  intro ls
  induction ls with
  |nil=>intro vs _ h;obtain rfl:=h.jk;trivial
  |cons l r ih=>
   intro vs hf h
   rw[List.all_cons,Bool.and_eq_true]at hf
   cases vs with
   |nil=>exact h.elim
   |cons v vs=>exact⟨HL hf.1 h.1,ih hf.2 h.2⟩
 refine⟨⟨fun b hb=>I.live.new b (Nat.le_trans hs hb),(fun g tb e=>by rw[Dp]at e;cases e),(fun g tb e=>by rw[Dp]at e;cases e)⟩,⟨M.lX,M.jc,fun i row e=> ?_,fun i bx e=> ?_,M.qp,fun x b hb=> ?_,M.free⟩,fun t=> ?_,hz.trans I.size,hd.trans I.defers⟩
 ·obtain ⟨v,hv,R⟩:=M.rows i row e
  obtain⟨vF,hmp⟩:=tH i row e
  refine⟨v,hv,?_⟩
  rcases R with⟨h1,h2⟩|⟨g,xs,_,e2,_⟩
  ·refine .inl ⟨h1,?_⟩
   by_cases hw:row.rw=true
   ·rw [if_pos hw]at h2⊢
    obtain⟨cs,h3,h4⟩:=h2
    refine⟨cs,gZ h3 fun g hg=> ?_,by rw[vF]at h4⊢;exact h4.aW H⟩
    have hk:eG ow s.m (.row i)=some g:=by rw[fF e hv hw,jl h1];exact hg
    exact hb g (M.fH _ _ hk).2 (M.fH _ _ hk).1
   ·rw [if_neg hw]at h2⊢
    rw[vF]at h2⊢
    exact Rd.aW (k:= .sl row.e row.k) H h2
  ·rw [hmp]at e2;cases e2
 ·obtain ⟨g,hg,vs,hv,hF⟩:=M.boxes i bx e
  have hm:=M.fH _ _ (jf e hg)
  exact⟨g,hg,vs,(hb g hm.2 hm.1).trans hv,HF (sO i bx e) hF⟩
 ·obtain ⟨h1,h2⟩:=M.fH x b hb
  exact⟨h1,Nat.lt_of_lt_of_le h2 hs⟩
 ·by_cases ht:t∈s.fr.map (·.1)
  ·rw [hf t ht]
   have h0:aS w (ay ow s.m) may ow s.m (s.get t) (a.tmps.getD t undef):=I.fr t
   have hp:frV (s.get t)=true:=by
    rcases oz (fr:=s.fr) (t:=t)with e|e
    ·rw [show s.get t=lookup s.fr t from rfl,e];rfl
    ·exact ND _ e
   cases hl:s.get t with
   |one c=>
    rw[hl]at h0 hp
    cases c with
    |lf l=>exact HL hp (h0:aQ _ _ _ _ _ _)
    |agg ls=>obtain⟨vs,e,hF⟩:=h0;exact⟨vs,e,HF hp hF⟩
   |box b o=>rw[hl]at h0;exact h0
   |kX b o g=>rw[hl]at h0;exact h0
   |undef=>trivial
   |_=>rw[hl]at hp;cases hp
  ·have e:s.get t= .undef:=vk ht
   rw[e];trivial
end
structure Old (w0 w:World) (ow:Ow) (m:Mem):Prop where
 size:w0.heap.size≤w.heap.size
 at_:∀b,b<w0.heap.size→ay ow m b∧w.heap[b]? =w0.heap[b]?
 os:w.os=w0.os
 tape:w.tape=w0.tape
 output:w.output=w0.output
section
variable {w0 w w':World} {may:Nat→Prop} {ow aO:Ow} {m m':Mem}
theorem Old.kp (h:Old w0 w ow m)(K:Kp may w ow m w' aO m'):Old w0 w' aO m':=
 ⟨Nat.le_trans h.size K.size,fun b hb=>by
  obtain⟨h1,h2⟩:=h.at_ b hb
  obtain⟨k1,_,k3⟩:=K.stay b (Nat.lt_of_lt_of_le hb h.size) h1
  exact⟨k1,k3.trans h2⟩,K.os.trans h.os,K.tape.trans h.tape,K.output.trans h.output⟩
theorem Old.below (h:Old w0 w ow m):Below w0.heap.size w0 w:=⟨h.os,h.tape,h.output,h.size,fun b hb=>(h.at_ b hb).2⟩
theorem Old.next (h:Old w0 w ow m)(hs:w.heap.size≤w'.heap.size)(hb:∀b,b<w0.heap.size→w'.heap[b]? =w.heap[b]?)(h1:w'.os=w.os)(h2:w'.tape=w.tape)(h3:w'.output=w.output):Old w0 w' ow m:=
 ⟨Nat.le_trans h.size hs,fun b dX=>⟨(h.at_ b dX).1,(hb b dX).trans (h.at_ b dX).2⟩,h1.trans h.os,h2.trans h.tape,h3.trans h.output⟩
end
section
variable {C:ak} {N:Nat} {w:World} {may:Nat→Prop} {ow:Ow} {a:Act} {fr:List (Nat×SV)} {rows:List (Option Row)} {bs:List (Option pF)}
theorem aK.aip (I:aK C N may ⟨fr,⟨rows,bs⟩⟩ a w ow){j:Nat}{bx:pF}{ls:List aT}(hj:bs[j]? =some (some bx))(h:∀vs,F2 (aQ w (ay ow ⟨rows,bs⟩) may ow) bx.ls vs→F2 (aQ w (ay ow ⟨rows,bs⟩) may ow) ls vs):
  aK C N may ⟨fr,⟨rows,bs.set j (some ⟨bx.t,ls⟩)⟩⟩ a w ow∧ay ow ⟨rows,bs.set j (some ⟨bx.t,ls⟩)⟩=ay ow ⟨rows,bs⟩:=by
 have M:=I.mem
 have dX:j<bs.length:=(List.getElem?_eq_some_iff.1 hj).1
 have yN:∀i,(⟨rows,bs.set j (some ⟨bx.t,ls⟩)⟩:Mem).box? i=if i=j then some ⟨bx.t,ls⟩else(⟨rows,bs⟩:Mem).box? i:=fun i=>by
  have:=box?_set (m:=⟨rows,bs⟩) j i (some ⟨bx.t,ls⟩) rows
  simp only[dX,and_true]at this
  exact this
 have nY:∀x,eG ow ⟨rows,bs.set j (some ⟨bx.t,ls⟩)⟩ x=eG ow ⟨rows,bs⟩ x:=fun x=>by
  cases x with
  |row i=>rfl
  |box i=>
   simp only[eG,yN]
   by_cases e:i=j
   ·subst e
    have e1:(⟨rows,bs⟩:Mem).box? i=some bx:=by simp[Mem.box?,hj]
    simp[e1]
   ·simp [e]
 have lU:ay ow ⟨rows,bs.set j (some ⟨bx.t,ls⟩)⟩=ay ow ⟨rows,bs⟩:=by
  funext b
  simp only[ay,nY]
 refine⟨?_,lU⟩
 refine⟨⟨I.live.new,I.live.EU,fun g tb e=>by rw[lU];exact I.live.ok g tb e⟩,⟨M.lX,by simpa using M.jc,fun i row e=> ?_,fun i b e=> ?_,fun x y b h1 h2=>by rw[nY]at h1 h2;exact M.qp x y b h1 h2,fun x b h=>by rw[nY]at h;exact M.fH x b h,fun i hi e=> ?_⟩,fun t=> ?_,I.size,I.defers⟩
 ·rw [lU];exact M.rows i row e
 ·rw [lU]
  rw[yN]at e
  by_cases e':i=j
  ·rw [if_pos e']at e
   subst e'
   obtain rfl:=Option.some.inj e
   obtain⟨g,hg,vs,hv,hF⟩:=M.boxes i bx (by simp[Mem.box?,hj])
   exact⟨g,hg,vs,hv,h vs hF⟩
  ·rw [if_neg e']at e
   exact M.boxes i b e
 ·rw [yN]at e
  by_cases e':i=j
  ·rw [if_pos e']at e;cases e
  ·rw [if_neg e']at e
   exact M.free i (by simpa using hi) e
 ·have h0:=I.fr t
  rw[lU]
  show aS w _ may ow _ (lookup fr t) _
  have h0:aS w (ay ow ⟨rows,bs⟩) may ow ⟨rows,bs⟩ (lookup fr t) (a.tmps.getD t undef):=h0
  cases hl:lookup fr t<;>(rw [hl]at h0;exact h0)
theorem aK.take {row:Row}{v:Value}{cs:List Value}(I:aK C N may ⟨fr,⟨rows,bs⟩⟩ a w ow)(Dp:C.aJ=fun _=>none)(hw:row.rw=true)(hf:row.fr=true)(hs:∃A n c,v=Value.slice A n c)(dM:w.ownsRow 0 row.e row.k.n v row.xs.length cs)(lQ:∀ok,aY w ok row.k row.xs cs)
  (hn:∀b,v.ownBlock=some b→ay ow ⟨rows,bs⟩ b∧¬may b) (tH:∀i row,(⟨rows,bs⟩:Mem).row? i=some row→row.fr=true∧row.mp? =none) (sO:∀i bx,(⟨rows,bs⟩:Mem).box? i=some bx→bx.ls.all frL=true) (ND:∀q∈fr,frV q.2=true):
  aK C N (fun b=>may b∨v.ownBlock=some b) ⟨fr,⟨rows++[some row],bs⟩⟩ a w ⟨ow.rv++[v],ow.bb⟩∧∀b,ay ow ⟨rows,bs⟩ b→v.ownBlock≠some b→ay ⟨ow.rv++[v],ow.bb⟩ ⟨rows++[some row],bs⟩ b:=by
 have M:=I.mem
 have hrl:ow.rv.length=rows.length:=M.lX
 have hr:∀i,(⟨rows++[some row],bs⟩:Mem).row? i=if i<rows.length then(⟨rows,bs⟩:Mem).row? i else([some row][i-rows.length]?).bind id:=fun i=>row?Jj (m:=⟨rows,bs⟩) [some row] i bs
 have nY:∀x b,eG ⟨ow.rv++[v],ow.bb⟩ ⟨rows++[some row],bs⟩ x=some b→eG ow ⟨rows,bs⟩ x=some b∨(x= .row rows.length∧v.ownBlock=some b):=fun x b h=>by
  cases x with
  |box i=>exact .inl h
  |row i=>
   simp only[eG,hr]at h
   by_cases h1:i<rows.length
   ·left
    simp only[h1,if_true]at h
    simp only[eG]
    cases e:(⟨rows,bs⟩:Mem).row? i with
    |none=>rw[e]at h;cases h
    |some r=>
     rw[e]at h
     simp only at h⊢
     rwa[List.getElem?_append_left (by omega)]at h
   ·right
    simp only[h1,if_false]at h
    cases e:i-rows.length with
    |succ k=>rw[e]at h;simp at h
    |zero=>
     have e2:i=rows.length:=by omega
     subst e2
     rw[e]at h
     simp only[List.getElem?_cons_zero,Option.bind_some,id,hw,if_true]at h
     rw[List.getElem?_append_right (by omega),hrl,Nat.sub_self]at h
     simp only[List.getElem?_cons_zero,Option.bind_some]at h
     rw[jl hs]at h
     exact⟨rfl,h⟩
 have lU:∀b,ay ow ⟨rows,bs⟩ b→v.ownBlock≠some b→ay ⟨ow.rv++[v],ow.bb⟩ ⟨rows++[some row],bs⟩ b:=fun b h1 h2 x hx=>by
  rcases nY x b hx with h|⟨_,h⟩
  ·exact h1 x h
  ·exact h2 h
 have H:∀b,o7 (ay ow ⟨rows,bs⟩) may true b→o7 (ay ⟨ow.rv++[v],ow.bb⟩ ⟨rows++[some row],bs⟩) (fun b=>may b∨v.ownBlock=some b) true b:=fun b h=>
  ⟨lU b h.1 fun e=>(hn b e).2 (h.2 rfl),fun _=> .inl (h.2 rfl)⟩
 have Nr:∀(i:Nat) (u:Value),ow.rv[i]? =some u→(ow.rv++[v])[i]? =some u:=fun i u h=>by
  rw[List.getElem?_append_left (List.getElem?_eq_some_iff.1 h).1];exact h
 have HL:∀{l:aT} {u:Value},frL l=true→aQ w (ay ow ⟨rows,bs⟩) may ow l u→aQ w (ay ⟨ow.rv++[v],ow.bb⟩ ⟨rows++[some row],bs⟩) (fun b=>may b∨v.ownBlock=some b) ⟨ow.rv++[v],ow.bb⟩ l u:=fun {l u} hf hl=>by
  cases l with
  |val f k x=>obtain rfl:f=true:=hf;exact Rd.mono H (hl:Rd _ _ _ _ _)
  |own r=>exact⟨Nr _ _ hl.1,hl.2⟩
  |nil=>exact hl
 have HF:∀{ls:List aT} {vs:List Value},ls.all frL=true→F2 (aQ w (ay ow ⟨rows,bs⟩) may ow) ls vs→F2 (aQ w (ay ⟨ow.rv++[v],ow.bb⟩ ⟨rows++[some row],bs⟩) (fun b=>may b∨v.ownBlock=some b) ⟨ow.rv++[v],ow.bb⟩) ls vs:=by
  intro ls
  induction ls with
  |nil=>intro vs _ h;obtain rfl:=h.jk;trivial
  |cons l r ih=>
   intro vs hf h
   rw[List.all_cons,Bool.and_eq_true]at hf
   cases vs with
   |nil=>exact h.elim
   |cons u vs=>exact⟨HL hf.1 h.1,ih hf.2 h.2⟩
 refine⟨⟨⟨fun b hb=> .inl (I.live.new b hb),(fun g tb e=>by rw[Dp]at e;cases e),(fun g tb e=>by rw[Dp]at e;cases e)⟩,⟨by simp[hrl],M.jc,fun i r e=> ?_,fun i bx e=> ?_,fun x y b h1 h2=> ?_,fun x b h=> ?_,M.free⟩,fun t=> ?_,I.size,I.defers⟩,lU⟩
 ·rw [hr]at e
  by_cases h1:i<rows.length
  ·rw [if_pos h1]at e
   obtain⟨u,hu,R⟩:=M.rows i r e
   obtain⟨vF,hmp⟩:=tH i r e
   refine⟨u,Nr _ _ hu,?_⟩
   rcases R with⟨k1,k2⟩|⟨g,xs,_,e2,_⟩
   ·refine .inl ⟨k1,?_⟩
    by_cases hw:r.rw=true
    ·rw [if_pos hw]at k2⊢
     obtain⟨cs,k3,k4⟩:=k2
     exact⟨cs,k3,by rw[vF]at k4⊢;exact k4.aW (iF.mono fun b _ h=>H b h)⟩
    ·rw [if_neg hw]at k2⊢
     rw[vF]at k2⊢
     exact Rd.mono (k:= .sl r.e r.k) H k2
   ·rw [hmp]at e2;cases e2
  ·rw [if_neg h1]at e
   cases e3:i-rows.length with
   |succ k=>rw[e3]at e;simp at e
   |zero=>
    rw[e3]at e
    obtain rfl:row=r:=Option.some.inj e
    refine⟨v,?_,.inl ⟨hs,?_⟩⟩
    ·show (ow.rv++[v])[i]? =some v
     rw[List.getElem?_append_right (by omega),show i-ow.rv.length=0 by omega];rfl
    ·rw [if_pos hw]
     exact⟨cs,dM,lQ _⟩
 ·obtain ⟨g,hg,vs,hv,hF⟩:=M.boxes i bx e
  exact⟨g,hg,vs,hv,HF (sO i bx e) hF⟩
 ·rcases nY x b h1 with k1|⟨e1,k1⟩<;>rcases nY y b h2 with k2|⟨e2,k2⟩
  ·exact M.qp x y b k1 k2
  ·exact absurd k1 ((hn b k2).1 x)
  ·exact absurd k2 ((hn b k1).1 y)
  ·rw [e1,e2]
 ·rcases nY x b h with h|⟨_,h⟩
  ·obtain ⟨h1,h2⟩:=M.fH x b h;exact⟨.inl h1,h2⟩
  ·exact ⟨.inr h,(World.ownsRow.lt dM b h).2⟩
 ·show aS w _ _ _ _ (lookup fr t) _
  have h0:aS w (ay ow ⟨rows,bs⟩) may ow ⟨rows,bs⟩ (lookup fr t) (a.tmps.getD t undef):=I.fr t
  have hp:frV (lookup fr t)=true:=by
   rcases oz (fr:=fr) (t:=t)with e|e
   ·rw [e];rfl
   ·exact ND _ e
  cases hl:lookup fr t with
  |one c=>
   rw[hl]at h0 hp
   cases c with
   |lf l=>exact HL hp (h0:aQ _ _ _ _ _ _)
   |agg ls=>obtain⟨vs,e,hF⟩:=h0;exact⟨vs,e,HF hp hF⟩
  |box b o=>rw[hl]at h0;exact h0
  |kX b o g=>rw[hl]at h0;exact h0
  |undef=>trivial
  |_=>rw[hl]at hp;cases hp
end
def vw (P:Nat→Prop)(w:World)(ow:Ow)(m:Mem)(w':World)(aO:Ow)(m':Mem):Prop:=∀b,b<w.heap.size→ay ow m b→P b→ay aO m' b∧b<w'.heap.size∧w'.heap[b]? =w.heap[b]?
section
variable {P:Nat→Prop} {w w' w2:World} {ow aO gV:Ow} {m m' m2:Mem} {may:Nat→Prop}
theorem vw.of (K:Kp may w ow m w' aO m'):vw P w ow m w' aO m':=fun b h1 h2 _=>K.stay b h1 h2
theorem vw.trans (h:vw P w ow m w' aO m')(k:vw P w' aO m' w2 gV m2):vw P w ow m w2 gV m2:=fun b h1 h2 h3=>by
 obtain⟨a1,a2,a3⟩:=h b h1 h2 h3
 obtain⟨b1,b2,b3⟩:=k b a2 a1 h3
 exact⟨b1,b2,b3.trans a3⟩
theorem vw.kp (h:vw P w ow m w' aO m')(K:Kp may w' aO m' w2 gV m2):vw P w ow m w2 gV m2:=h.trans (vw.of K)
end
section
variable {C:ak} {N:Nat} {w:World} {may:Nat→Prop} {ow:Ow} {m:Mem} {s:S} {a:Act}
theorem aK.ang (I:aK C N may s a w ow)(Dp:C.aJ=fun _=>none)(p:Nat→Bool)(hmp:∀i row,s.m.row? i=some row→row.mp? =none):aK C N (fun b=>may b∧∀i,p i=true→eG ow s.m (.row i)≠some b) (hpS p ow.rv s) a w ow∧Kp may w ow s.m w ow (PK p ow.rv s.m):=by
 obtain⟨I',K'⟩:=I.hp p
 have M:=I.mem
 have M':=I'.mem
 refine⟨⟨⟨fun b hb=>⟨I.live.new b hb,fun i _ e=>by have:=(M.fH _ _ e).2;omega⟩,(fun g tb e=>by rw[Dp]at e;cases e),(fun g tb e=>by rw[Dp]at e;cases e)⟩,?_,?_,I.size,I.defers⟩,K'⟩
 ·have hl:∀{l:aT} {v:Value},aQ w (ay ow s.m) may ow l v→aQ w (ay ow (PK p ow.rv s.m)) (fun b=>may b∧∀i,p i=true→eG ow s.m (.row i)≠some b) ow (yJ p ow.rv l) v:=fun {l v} h=>by
   cases l with
   |val f k x=>exact Rd.mono (fun b h=>⟨YO h.1,fun e=>⟨h.2 e,fun i _=>h.1 _⟩⟩) (h:Rd _ _ _ _ _)
   |nil=>exact h
   |own r=>
    obtain⟨h1,h2⟩:=h
    simp only[yJ]
    cases p r with
    |false=>exact⟨h1,h2⟩
    |true=>
     show[v]=[ow.rv.getD r dV]∧_
     have e:ow.rv.getD r dV=v:=by rw[List.getD_eq_getElem?_getD,h1];rfl
     rw[e]
     exact⟨rfl,h2⟩
  refine⟨M'.lX,M'.jc,fun i row e=> ?_,fun i bx e=> ?_,M'.qp,fun x b h=> ?_,M'.free⟩
  ·have e:(PK p ow.rv s.m).row? i=some row:=e
   rw[MZ]at e
   split at e
   ·cases e
   ·obtain ⟨v,hv,R⟩:=M.rows i row e
    refine⟨v,hv,?_⟩
    rcases R with⟨h1,h2⟩|⟨g,xs,_,e2,_⟩
    ·refine .inl ⟨h1,?_⟩
     have H:∀fr b,o7 (ay ow s.m) may fr b→o7 (ay ow (PK p ow.rv s.m)) (fun b=>may b∧∀i,p i=true→eG ow s.m (.row i)≠some b) fr b:=fun fr b h=>⟨YO h.1,fun e=>⟨h.2 e,fun i _=>h.1 _⟩⟩
     by_cases hw:row.rw=true
     ·rw [if_pos hw]at h2⊢
      obtain⟨cs,h3,h4⟩:=h2
      exact⟨cs,h3,h4.aW (iF.mono fun b _ h=>H row.fr b h)⟩
     ·rw [if_neg hw]at h2⊢
      exact Rd.mono (k:= .sl row.e row.k) (H row.fr) h2
    ·rw [hmp i row e]at e2;cases e2
  ·have e:(PK p ow.rv s.m).box? i=some bx:=e
   rw[RF]at e
   obtain⟨bx0,h1,rfl⟩:=Option.map_eq_some_iff.1 e
   obtain⟨g,hg,vs,hv,hF⟩:=M.boxes i bx0 h1
   exact⟨g,hg,vs,hv,F2.qE.2 (hF.imp fun l v h=>hl h)⟩
  ·have h0:eG ow s.m x=some b:=Io h
   obtain⟨h1,h2⟩:=M.fH x b h0
   refine⟨⟨h1,fun i hi e=> ?_⟩,h2⟩
   have:=M.qp _ _ b e h0
   subst this
   have h:eG ow (PK p ow.rv s.m) (.row i)=some b:=h
   simp only[eG,MZ,hi,if_true]at h
   cases h
 ·have hl:∀{l:aT} {v:Value},aQ w (ay ow s.m) may ow l v→aQ w (ay ow (PK p ow.rv s.m)) (fun b=>may b∧∀i,p i=true→eG ow s.m (.row i)≠some b) ow (yJ p ow.rv l) v:=fun {l v} h=>by
   cases l with
   |val f k x=>exact Rd.mono (fun b h=>⟨YO h.1,fun e=>⟨h.2 e,fun i _=>h.1 _⟩⟩) (h:Rd _ _ _ _ _)
   |nil=>exact h
   |own r=>
    obtain⟨h1,h2⟩:=h
    simp only[yJ]
    cases p r with
    |false=>exact⟨h1,h2⟩
    |true=>
     show[v]=[ow.rv.getD r dV]∧_
     have e:ow.rv.getD r dV=v:=by rw[List.getD_eq_getElem?_getD,h1];rfl
     rw[e]
     exact⟨rfl,h2⟩
  intro t
  have key:∀fr:List (Nat×SV),(lookup (fr.map fun q=>(q.1,Xo p ow.rv q.2)) t)=Xo p ow.rv (lookup fr t):=fun fr=>by
   induction fr with
   |nil=>rfl
   |cons q r ih=>
    obtain⟨t',v⟩:=q
    simp only[List.map_cons,lookup]
    cases Nat.beq t' t with
    |true=>rfl
    |false=>exact ih
  show aS w _ _ _ _ (lookup (s.fr.map fun q=>(q.1,Xo p ow.rv q.2)) t) _
  rw[key]
  have h:aS w (ay ow s.m) may ow s.m (lookup s.fr t) (a.tmps.getD t undef):=I.fr t
  cases hq:lookup s.fr t with
  |one c=>
   rw[hq]at h
   cases c with
   |lf l=>exact hl (h:aQ _ _ _ _ _ _)
   |agg ls=>obtain⟨vs,e,hF⟩:=h;exact⟨vs,e,F2.qE.2 (hF.imp fun l v h=>hl h)⟩
  |box b o=>rw[hq]at h;exact h
  |kX b o g=>rw[hq]at h;exact h
  |_=>trivial
def qQ (rv:List Value)(k:Nat)(ls:List (List Int)):List (Value×List Int):=ls.mapIdx fun j xs=>(rv.getD (k+j) dV,xs)
theorem M_ {rv:List Value}{k:Nat}{ls:List (List Int)}{i:Nat}{p:Value×List Int}(h:(qQ rv k ls)[i]? =some p):∃xs,ls[i]? =some xs∧p=(rv.getD (k+i) dV,xs):=by
 simp only[qQ,List.getElem?_mapIdx]at h
 obtain⟨xs,h1,h2⟩:=Option.map_eq_some_iff.1 h
 exact⟨xs,h1,h2.symm⟩
theorem aC.adD {e:TypeId}{k:Nat}{ls:List (List Int)}(M:aC w may ow m)(hr:∀j xs,ls[j]? =some xs→m.row? (k+j)=some (PL e xs)):oP e w (fun b=>∃i,k≤i∧eG ow m (.row i)=some b) (qQ ow.rv k ls):=by
 have key:∀(i:Nat) (p:Value×List Int),(qQ ow.rv k ls)[i]? =some p→w.ownsRow 0 e 1 p.1 p.2.length (p.2.map (Value.int .u32))∧∀b,p.1.ownBlock=some b→eG ow m (.row (k+i))=some b:=fun i p h=>by
  obtain⟨xs,hx,rfl⟩:=M_ h
  have hr:=hr i xs hx
  obtain⟨v,cs,h1,h2,h3,h4⟩:=M.own hr rfl rfl
  obtain rfl:=lC h4
  have ev:ow.rv.getD (k+i) dV=v:=by rw[List.getD_eq_getElem?_getD,h1];rfl
  simp only[ev]
  exact⟨h3,fun b hb=>by rw[fF hr h1 rfl,jl h2];exact hb⟩
 refine⟨fun p hp=> ?_,fun i j p q b hi hj h1 h2=> ?_,fun p hp b h=> ?_⟩
 ·obtain ⟨i,hi,rfl⟩:=List.getElem_of_mem hp
  exact(key i _ (List.getElem?_eq_getElem hi)).1
 ·have:=M.qp _ _ b ((key i p hi).2 b h1) ((key j q hj).2 b h2)
  injection this
  omega
 ·obtain ⟨i,hi,rfl⟩:=List.getElem_of_mem hp
  exact⟨k+i,by omega,(key i _ (List.getElem?_eq_getElem hi)).2 b h⟩
end
end Go.Fx
