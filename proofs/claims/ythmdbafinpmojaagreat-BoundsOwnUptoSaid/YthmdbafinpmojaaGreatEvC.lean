import Derived.Test.YthmdbafinpmojaaGreatEvB
set_option linter.unusedVariables false
set_option linter.unusedSimpArgs false
namespace Go.Fx
open Go Go.RowKit
section
variable {R:Type} {P:Program} {T:dH} {C:ak} {w:World} {may:Nat→Prop} {ow:Ow} {r:R} {s:S} {a:Act}
theorem qg.ok {x:Sem Value}{m:Mem}(M:aC w may ow m){c:SV→Mem→Option R}(h:qg P w (ay ow m) may ow x (fun l=>c (.one (.lf l)) m) r):g_ P may w ow m (do pure (.value (←x))) c r:=by
 obtain⟨l,z,h1,h2,h3⟩:=h
 exact g_.quiet M h1 h3 h2
theorem wo {m:Mem}(M:aC w may ow m){sv:SV}{v:Value}{c:SV→Mem→Option R}(h:c sv m=some r)(hv:aS w (ay ow m) may ow m sv v):g_ P may w ow m (pure (.value v)) c r:=
 ⟨sv,m,v,w,ow,h,.inl (by simp),M,dZ.refl _ _ _ _,hv⟩
theorem pO.sv {ok:Nat→Prop}{m:Mem}:∀{h:Hd} {v:Value},pO ow h v→aS w ok may ow m h.sv v
 | .uK,_,h=>h
 | .box b,_,⟨g,e,h⟩=>⟨g,e,by rw[h,Addr.fO]⟩
theorem Zy {ok:Nat→Prop}{m:Mem}{sv:SV}{v:Value}(h:aS w ok may ow m sv v)(e:SG m sv=true):∃ad,v= .pointer (some ad):=by
 cases sv<;>simp[SG]at e
 case box b q=>obtain⟨g,_,h⟩:=h;exact⟨_,h⟩
 case ref ls=>obtain⟨ad,vs,h,_⟩:=h;exact⟨_,h⟩
 case Dt r i q=>
  obtain⟨_,h⟩:=h
  obtain⟨row,hr⟩:=Option.isSome_iff_exists.1 e
  obtain⟨_,g,n,c,_,h⟩:=h row hr
  exact⟨_,h⟩
theorem Qm {ok:Nat→Prop}:∀{ls ls':List aT} {us vs:List Value} {e:Bool},F2 (aQ w ok may ow) ls us→F2 (aQ w ok may ow) ls' vs→rQ ls ls'=some e→
  ∃xs ys:List Int,us=xs.map (Value.int .i64)∧vs=ys.map (Value.int .i64)∧e=(xs==ys)∧xs.length=ls.length∧ys.length=ls'.length:=by
 intro ls
 induction ls with
 |nil=>
  intro ls' us vs e h1 h2 h3
  cases ls' with
  |cons=>simp[rQ]at h3
  |nil=>
   obtain rfl:=h1.jk
   obtain rfl:=h2.jk
   obtain rfl:=Option.some.inj h3
   exact⟨[],[],rfl,rfl,rfl,rfl,rfl⟩
 |cons l ls ih=>
  intro ls' us vs e h1 h2 h3
  cases ls' with
  |nil=>cases l with
   |val fr k x=>cases k<;>first|(simp [rQ]at h3;done)|(rename_i q;cases q<;>simp[rQ]at h3)
   |nil=>simp[rQ]at h3
   |own r=>simp[rQ]at h3
  |cons l' ls'=>
   unfold rQ at h3
   split at h3
   ·rename_i e1 _;cases e1
   ·rename_i fr a r fr' b q e1 e2
    injection e1 with e3 e4
    injection e2 with e5 e6
    subst e3 e4 e5 e6
    obtain⟨e',h4,rfl⟩:=Option.map_eq_some_iff.1 h3
    cases us with
    |nil=>exact h1.elim
    |cons u us=>
     cases vs with
     |nil=>exact h2.elim
     |cons v vs=>
      obtain⟨xs,ys,rfl,rfl,rfl,k1,k2⟩:=ih h1.2 h2.2 h4
      have h5:u= .int .i64 a:=zF h1.1
      have h6:v= .int .i64 b:=zF h2.1
      refine⟨a::xs,b::ys,by rw[h5];rfl,by rw[h6];rfl,?_,congrArg (· +1) k1,congrArg (· +1) k2⟩
      rfl
   ·cases h3
theorem ai4 {t e:TypeId}(hu:P.underlying t=some (.pointer e)){p q:Option Addr}(h:p=none∨q=none):(Op.equal t (.pointer p) (.pointer q)).run P w= .ok (decide (p=q)) w:=by
 have:∀d,(Op.equalIn (d+1) t (.pointer p) (.pointer q)).run P w= .ok (decide (p=q)) w:=fun d=>by
  rw[Op.equalIn,Sem.run_bind,run_underlying hu,Result.andThen_ok]
  rcases h with rfl|rfl
  ·cases q<;>rfl
  ·cases p<;>rfl
 exact this 9999
theorem afD {m:Mem}{ok:Nat→Prop}(TK:aZ P T)(CK:ah P C){op:BinOp}{xt:TypeId}{x y:Operand}{sx sy:SV}{u v:Value}{z:SV}(hx:aS w ok may ow m sx u)(hy:aS w ok may ow m sy v)(h:ae8 C T xt op sx sy=some z):
  ∃zv,(do eqGuard op xt x y u v;binOp op xt u v:Sem Value).run P w= .ok zv w∧aS w ok may ow m z zv:=by
 have ptrs:∀(b:Bool) (p q:Option Addr),(p=none∨q=none)→b=decide (p=q)→KF T xt=true→KG op b=some z→u= .pointer p→v= .pointer q→∃zv,(do eqGuard op xt x y u v;binOp op xt u v:Sem Value).run P w= .ok zv w∧aS w ok may ow m z zv:=by
  rintro b p q hpq hb ht hr rfl rfl
  obtain⟨e,hu⟩:∃e,P.underlying xt=some (.pointer e):=by
   unfold KF at ht
   split at ht
   ·rename_i hT;exact(TK _ _ hT).desc
   ·cases ht
  have heq:=ai4 (w:=w) hu hpq
  rw[←hb]at heq
  cases op<;>simp only[KG]at hr<;>try (cases hr;done)
  ·obtain rfl:=Option.some.inj hr
   exact⟨.bool b,by simp[eqGuard,binOp,heq],rfl⟩
  ·obtain rfl:=Option.some.inj hr
   exact⟨.bool (!b),by simp[eqGuard,binOp,heq],rfl⟩
 unfold ae8 at h
 split at h
 ·obtain ⟨ht,h⟩:=aG h
  exact ptrs true none none (.inl rfl) rfl ht h hx hy
 ·obtain ⟨ht,h⟩:=aG h
  obtain⟨g,_,hg⟩:=hx
  exact ptrs false _ none (.inr rfl) rfl ht h hg hy
 ·obtain ⟨ht,h⟩:=aG h
  obtain⟨g,_,hg⟩:=hy
  exact ptrs false none _ (.inl rfl) rfl ht h hx hg
 ·split at h
  case h_2=>cases h
  rename_i ls ls' _ _ n e hn he
  obtain⟨hl,h⟩:=aG h
  simp only[Bool.and_eq_true]at hl
  obtain⟨us,rfl,h1⟩:=hx
  obtain⟨vs,rfl,h2⟩:=hy
  obtain⟨xs,ys,rfl,rfl,rfl,k1,k2⟩:=Qm h1 h2 he
  have hE:=CK.eqs xt n hn w op x y xs ys (k1.trans (Nat.eq_of_beq_eq_true hl.1)) (k2.trans (Nat.eq_of_beq_eq_true hl.2))
  cases op<;>simp only[KG]at h<;>try (cases h;done)
  ·obtain rfl:=Option.some.inj h
   exact⟨_,hE (.inl rfl),by simp[cb];rfl⟩
  ·obtain rfl:=Option.some.inj h
   exact⟨_,hE (.inr rfl),by simp[cb];rfl⟩
 ·cases h
theorem Zz {ok:Nat→Prop}{m:Mem}{sv:SV}{v:Value}{g:FuncId}(h:aS w ok may ow m sv v)(e:aaZ sv=some g):v= .func (.func g) #[] #[]:=by
 unfold aaZ at e
 split at e
 ·rcases mP e with⟨_,e⟩|⟨hb,e⟩
  ·cases e
  obtain rfl:=Option.some.inj e
  have h:[v]=[fnV _]:=h
  unfold fnV at h
  rw[hb]at h
  injection h
 ·cases e
theorem OE (TK:aZ P T)(CK:ah P C)(M:aC w may ow s.m)(hL:Live C may w ow s.m)(F:dw w (ay ow s.m) may ow s a){o:Oper}{c:SV→Mem→Option R}(h:evalOp C T s o c=some r):
  lS P may w ow s.m o a c r:=by
 obtain⟨dst,op,ty,pos,after,guard⟩:=o
 have hm:=hL.new
 cases op<;>simp only[evalOp]at h<;>try (cases h;done)
 case move x=>exact lS.jR (wo M h (dG F x)) rfl
 case assign x=>exact lS.jR (wo M h (dG F x)) rfl
 case pick q x y=>
  cases hq:(s.gJ q).bool? with
  |none=>simp[hq]at h
  |some b=>
   simp only[hq]at h
   have hv:=bool?nK (dG F q) hq
   cases b with
   |true=>exact lS.jR (x:=pure (.value (a.eval x))) (wo M h (dG F x)) (by simp[execOp,hv,asBool])
   |false=>exact lS.jR (x:=pure (.value (a.eval y))) (wo M h (dG F y)) (by simp[execOp,hv,asBool])
 case binOp op xt x y yt=>
  cases h1:(s.gJ x).leaf? with
  |none=>
   cases h2:(s.gJ y).leaf? with
   |some ly=>simp[h1,h2]at h
   |none=>
    simp only[h1,h2]at h
    cases hv:ae8 C T xt op (s.gJ x) (s.gJ y)with
    |none=>simp[hv]at h
    |some v=>
     simp only[hv]at h
     obtain⟨z,hz,hr⟩:=afD TK CK (dG F x) (dG F y) hv (x:=x) (y:=y)
     exact lS.jR (g_.quiet (x:=do eqGuard op xt x y (a.eval x) (a.eval y);binOp op xt (a.eval x) (a.eval y)) M h hz hr) rfl
  |some lx=>
   cases h2:(s.gJ y).leaf? with
   |none=>simp[h1,h2]at h
   |some ly=>
    simp only[h1,h2]at h
    have hx:=leaf?nK (dG F x) h1
    have hy:=leaf?nK (dG F y) h2
    obtain⟨⟨l,z,h3,h4,h5⟩,h6⟩:=afe TK hx hy h
    exact lS.jR (g_.quiet (x:=do eqGuard op xt x y (a.eval x) (a.eval y);binOp op xt (a.eval x) (a.eval y)) (sv:= .one (.lf l)) M h3 (by simp[h6,h5]) h4) rfl
 case unOp op xt x=>
  cases h1:(s.gJ x).leaf? with
  |none=>simp[h1]at h
  |some lx=>
   simp only[h1]at h
   exact lS.jR (qg.ok M (aiL (leaf?nK (dG F x) h1) h)) rfl
 case convert src dst x=>
  cases h1:(s.gJ x).leaf? with
  |none=>simp[h1]at h
  |some lx=>
   simp only[h1]at h
   exact lS.jR (abl TK M (leaf?nK (dG F x) h1) h) rfl
 case extract x i=>
  have hx:=dG F x
  split at h
  case h_3=>cases h
  ·rename_i cs he
   rw[he]at hx
   obtain⟨vs,hv,h2⟩:=hx
   split at h
   case h_2=>cases h
   rename_i v hi
   obtain⟨u,hu,hr⟩:=F2.get h2 hi
   refine lS.jR (g_.quiet (x:=Instr.extract (a.eval x) i) (v:=u) (sv:= .one v) M h ?_ hr) rfl
   simp[hv,Instr.extract,hu]
  ·rename_i hd cs he
   rw[he]at hx
   obtain⟨u,vs,hv,h1,h2⟩:=hx
   split at h
   ·refine lS.jR (g_.quiet (x:=Instr.extract (a.eval x) 0) (v:=u) (sv:=hd.sv) M h ?_ (pO.sv h1)) rfl
    simp[hv,Instr.extract]
   ·rename_i i
    split at h
    case h_2=>cases h
    rename_i v hi
    obtain⟨u',hu,hr⟩:=F2.get h2 hi
    refine lS.jR (g_.quiet (x:=Instr.extract (a.eval x) (i+1)) (v:=u') (sv:= .one v) M h ?_ hr) rfl
    simp[hv,Instr.extract,hu]
 case nilCheck x=>
  obtain⟨hp,h⟩:=aG h
  obtain⟨ad,he⟩:=Zy (dG F x) hp
  refine lS.jR (wo M h (dG F x)) ?_
  simp[execOp,he]
 case indexAddr t x i=>
  cases XQ:Xz C t x with
  |some tb=>
   simp only[XQ]at h
   cases hix:(s.gJ i).int? with
   |none=>simp[hix,Nw]at h
   |some ix=>
    simp only[hix,Nw]at h
    obtain⟨hb,h⟩:=aG h
    simp only[Bool.and_eq_true,decide_eq_true_eq]at hb
    obtain⟨ki,hi⟩:=int?nK (dG F i) hix
    obtain⟨g,rfl,hg,ht⟩:∃g,x= .global g∧C.aJ g=some tb∧tb.t=t:=by
     unfold Xz at XQ
     split at XQ
     ·rename_i g
      split at XQ
      ·rename_i tb' hg
       obtain⟨he,hs⟩:=aG XQ
       obtain rfl:=Option.some.inj hs
       exact⟨g,rfl,hg,Nat.eq_of_beq_eq_true he⟩
      ·cases XQ
     ·cases XQ
    subst ht
    obtain⟨e,hu,pY⟩:=CK.aJ g tb hg
    refine lS.jR (x:=do pure (.value (←Instr.indexAt tb.t (.pointer (some ⟨g,0,none⟩)) (.int ki ix)))) (g_.quiet (v:= .pointer (some ((⟨g,0,none⟩:Addr).add (ix.toNat*1)))) M h ?_ ?_) ?_
    ·simp [Instr.indexAt,asIntOf,run_underlying hu,Instr.sureAddr,hb.1,hb.2,pY]
    ·have uP:tb.xs[ix.toNat]? =some (List.getD tb.xs ix.toNat 0):=by
      have dX:ix.toNat<tb.xs.length:=by omega
      simp[List.getD,List.getElem?_eq_getElem dX]
     refine⟨_,[.int tb.k (List.getD tb.xs ix.toNat 0)],rfl,⟨rfl,trivial⟩,fun j u hu=> ?_⟩
     cases j with
     |zero=>
      simp at hu;subst hu
      refine⟨by rw[Addr.gU];exact hL.ok g tb hg,?_⟩
      have:=(hL.EU g tb hg).2 _ _ uP
      rw[Nat.mul_one,Addr.nT,Nat.add_zero]
      exact this
     |succ j=>simp at hu
    ·have hge:a.eval (.global g)= .pointer (some ⟨g,0,none⟩):=rfl
     simp[execOp,hi,hge]
  |none=>
  simp only[XQ]at h
  split at h
  case h_3=>cases h
  ·rename_i n lx ix h1 h2 h3
   obtain⟨ki,hi⟩:=int?nK (dG F i) h3
   refine lS.jR (VT (t:=t) (ki:=ki) TK M h1 (leaf?nK (dG F x) h2) h) ?_
   simp[execOp,hi]
  ·rename_i n ix h1 h2 h3
   obtain⟨ki,hi⟩:=int?nK (dG F i) h3
   cases hb:XA (s.gJ x)with
   |true=>
    simp only[hb,cond_true]at h
    refine lS.jR (Y_ (t:=t) (ki:=ki) TK M h1 (dG F x) h) ?_
    simp[execOp,hi]
   |false=>
    simp only[hb,cond_false]at h
    refine lS.jR (Za (t:=t) (ki:=ki) TK M h1 (dG F x) h) ?_
    simp[execOp,hi]
 case index t x i=>
  split at h
  case h_2=>cases h
  rename_i k ag by' fr xs ix h1 h2 h3
  obtain⟨ki,hi⟩:=int?nK (dG F i) h3
  have hx:=EM (leaf?nK (dG F x) h2)
  obtain⟨hb,h⟩:=aG h
  simp only[Bool.and_eq_true,decide_eq_true_eq]at hb
  refine lS.jR (abq (t:=t) (ki:=ki) M (TK _ _ h1).desc.1 hb.1 hb.2 h) ?_
  simp[execOp,hi,hx]
 case load t x=>exact lS.jR (aa8 TK M (dG F x) h) rfl
 case store t x v=>
  cases h1:(s.gJ v).cmp? with
  |none=>simp[h1]at h
  |some cv=>
   simp only[h1]at h
   exact lS.jR (Zc TK M (dG F x) (cmp?nK (dG F v) h1) h) rfl
 case makeSlice t n q=>
  split at h
  case h_2=>cases h
  rename_i e e' k ag by' iN iQ h1 h2 h3
  split at h
  case h_2=>cases h
  rename_i ei yO
  obtain⟨hb,h⟩:=aG h
  simp only[Bool.and_eq_true,decide_eq_true_eq,Nat.blt_eq]at hb
  have hz:=hb.2.2.2.2
  have hb:0≤iN∧iN≤iQ∧iQ.toNat*ei.bytes≤281474976710656∧0<ei.bytes:=⟨hb.1,hb.2.1,hb.2.2.1,hb.2.2.2.1⟩
  obtain⟨kn,hn⟩:=int?nK (dG F n) h2
  obtain⟨kq,hq⟩:=int?nK (dG F q) h3
  obtain⟨_,_,_,AY,_⟩:=(TK _ _ h1).desc
  injection AY with h5 h6
  subst h5
  refine lS.jR (aa9 TK M hm h1 yO hz (kn:=kn) (kq:=kq) hb.1 hb.2.1 hb.2.2.1 hb.2.2.2 h) ?_
  simp[execOp,hn,hq]
 case buildSlice t n ps=>
  split at h
  case h_2=>cases h
  rename_i e e' k ag by' h1
  split at h
  case h_2=>cases h
  rename_i cs sW
  obtain⟨_,_,_,AY,_⟩:=(TK _ _ h1).desc
  injection AY with h5 h6
  subst h5
  rcases mP h with⟨_,h⟩|⟨_,h⟩
  ·obtain ⟨hb,h⟩:=aG h
   simp only[Bool.and_eq_true,Nat.ble_eq,beq_iff_eq]at hb
   split at h
   case h_2=>cases h
   rename_i xs hp
   exact lS.jR (TB TK M hm F h1 sW hb.1.1 hb.1.2 hb.2 hp h) rfl
  obtain⟨hb,h⟩:=aG h
  simp only[Bool.and_eq_true,Nat.ble_eq,beq_iff_eq]at hb
  split at h
  case h_2=>cases h
  rename_i xs hp
  exact lS.jR (Nz TK M hm F h1 sW hb.1 hb.2 hp h) rfl
 case slice t x lo hi mx=>
  rcases mP h with⟨_,h⟩|⟨_,h⟩
  ·split at h
   case h_2=>cases h
   rename_i n l q hn h2 h3 h4
   have XR:=kP F h4
   have abM:mx.map a.eval=none:=by cases hq:mx.map a.eval with|none=>rfl|some=>rw[hq]at XR;exact XR.elim
   refine lS.jR (afl TK M hn (dG F x) (kP F h2) (kP F h3) h) ?_
   simp[execOp,abM]
  split at h
  ·rename_i fr xs l q h1 h2 h3 h4
   split at h
   case h_2=>cases h
   rename_i k ag by' hT
   have hx:=EM (leaf?nK (dG F x) h1)
   have XR:=kP F h4
   have abM:mx.map a.eval=none:=by cases hq:mx.map a.eval with|none=>rfl|some=>rw[hq]at XR;exact XR.elim
   refine lS.jR (Tz (t:=t) M (TK _ _ hT).desc.1 (kP F h2) (kP F h3) h) ?_
   simp[execOp,hx,abM]
  ·rename_i lx l q hns h1 h2 h3 h4
   split at h
   case h_2=>cases h
   rename_i n hn
   have XR:=kP F h4
   have abM:mx.map a.eval=none:=by cases hq:mx.map a.eval with|none=>rfl|some=>rw[hq]at XR;exact XR.elim
   refine lS.jR (Ze TK M hn (leaf?nK (dG F x) h1) (kP F h2) (kP F h3) h) ?_
   simp[execOp,abM]
  ·rename_i lx l q hns h1 h2 h3 h4
   split at h
   case h_2=>cases h
   rename_i n hn
   have JJ:=kP F h2
   have D5:=kP F h3
   have XR:=kP F h4
   have aqs:lo.map a.eval=none:=by cases hq:lo.map a.eval with|none=>rfl|some=>rw[hq]at JJ;exact JJ.elim
   cases hq:hi.map a.eval with
   |none=>rw[hq]at D5;exact D5.elim
   |some vh=>
    cases hq2:mx.map a.eval with
    |none=>rw[hq2]at XR;exact XR.elim
    |some vm=>
     rw[hq]at D5;rw[hq2]at XR
     refine lS.jR (VY (t:=t) TK M hn (leaf?nK (dG F x) h1) D5 XR h) ?_
     simp[execOp,aqs,hq,hq2]
  ·cases h
 case alloc t=>
  split at h
  case h_2=>cases h
  rename_i ti hT
  exact lS.jR (abb TK M hm hT h) rfl
 case box t x=>
  split at h
  case h_2=>cases h
  rename_i ti v hT hv
  obtain⟨hb,h⟩:=aG h
  exact lS.jR (afh M hm (cmp?nK (dG F x) hv) h) rfl
 case build t ps=>
  split at h
  case h_2=>cases h
  rename_i fs k hT
  split at h
  case h_2=>cases h
  rename_i cs sW
  split at h
  case h_2=>cases h
  rename_i ls Ez
  exact lS.jR (abf TK M F hT sW Ez h) rfl
 case fieldAddr t x f=>
  have hx:=dG F x
  cases hf:fieldAt T t f with
  |none=>simp[hf]at h
  |some q=>
   obtain⟨o,ft⟩:=q
   rw[hf]at h
   revert h hx
   generalize s.gJ x=sv
   intro hx h
   refine lS.jR (Qg TK M hx hf (c:=c) ?_) rfl
   cases sv<;>exact h
 case field t x f=>
  have hx:=dG F x
  split at h
  case h_2=>cases h
  rename_i o ft ls hf Ez
  split at h
  case h_2=>cases h
  rename_i ag n ht
  obtain⟨hb,h⟩:=aG h
  have hb:=Nat.eq_of_beq_eq_true hb
  split at h
  case h_2=>cases h
  rename_i v hv
  exact lS.jR (abe TK M hx hf Ez ht hv hb h) rfl
 case call q=>
  split at h
  ·rename_i g hg
   cases hX:C.x g (DT (q.args.toList.map s.gJ))with
   |some xg=>
    simp only[hX]at h
    exact abH CK M hL rfl F rfl hg hX h
   |none=>
   simp only[hX]at h
   cases hio:C.io g with
   |none=>
    simp only[hio]at h
    exact XL CK M hL (BA F q.args.toList) rfl hg rfl h
   |some ig=>
    simp only[hio]at h
    exact abu TK CK M hm rfl F rfl hg hio h
  ·rename_i t hg
   split at h
   case h_2=>cases h
   rename_i g hfn
   exact XL CK M hL (BA F q.args.toList) rfl hg (Zz (dG F (.tmp t)) hfn) h
  ·rename_i b hg
   obtain⟨hb,h⟩:=aG h
   have hb:=Nat.eq_of_beq_eq_true hb
   have wV:q.args.map a.eval=(q.args.toList.map a.eval).toArray:=by rw[←Array.toList_map]
   have hts:q.argTypes=q.argTypes.toList.toArray:=rfl
   have pY:q.argTypes.toList.length=q.args.toList.length:=by simpa using hb
   have KR:∀i,(s.gJ i).cmp? =none∨True:=fun _=> .inr trivial
   generalize XJ:q.args.toList.map s.gJ=xs at h
   have hF:F2 (aS w (ay ow s.m) may ow s.m) xs (q.args.toList.map a.eval):=by
    rw[←XJ]
    generalize q.args.toList=l
    induction l with
    |nil=>trivial
    |cons x l ih=>exact⟨dG F x,ih⟩
   have hlen:xs.length=q.argTypes.toList.length:=by rw[←XJ,List.length_map,pY]
   have hex:∀b',b=b'→execOp a.eval ⟨dst,.call q,ty,pos,after,guard⟩=(do let d←(pure {target:= .builtin b' q.argTypes ty (q.args.map fun| .const _=>true|_=>false),args:=(q.args.toList.map a.eval).toArray}:Sem Deferred);invoke d.target d.args):=by
    rintro _ rfl
    simp only[execOp,resolve,hg,wV]
    rfl
   generalize q.args.toList.map a.eval=vs at hF hex
   unfold jv at h
   split at h
   ·rename_i fr x0 hh
    split at h
    case h_2=>cases h
    rename_i k ag by' hT
    obtain⟨t,ht,hT⟩:=Option.bind_eq_some_iff.1 hT
    match vs,hF with
    |[v],hF=>
    have h7:aQ w (ay ow s.m) may ow (.val fr .str x0) v:=hF.1
    obtain rfl:=EM h7
    refine lS.jR (Zk (ty:=ty) (ts:=q.argTypes) M (TK _ _ hT).desc.1 (by simpa using ht) h) ?_
    rw[hex _ rfl]
    simp[invoke,builtin]
   ·rename_i l hns
    split at h
    case h_2=>cases h
    rename_i e k ag by' n hT hn
    obtain⟨t,ht,hT⟩:=Option.bind_eq_some_iff.1 hT
    match vs,hF with
    |[v],hF=>
    refine lS.jR (abr (ty:=ty) (ts:=q.argTypes) TK M hT (by simpa using ht) hF.1 hn h) ?_
    rw[hex _ rfl]
    simp[invoke,builtin]
   ·rename_i n j z
    split at h
    case h_2=>cases h
    rename_i e k ag by' hT
    obtain⟨t,ht,hT⟩:=Option.bind_eq_some_iff.1 hT
    match vs,hF with
    |[v],hF=>
    refine lS.jR (Zl (ty:=ty) (ts:=q.argTypes) TK M hT (by simpa using ht) hF.1 h) ?_
    rw[hex _ rfl]
    simp[invoke,builtin]
   ·rename_i l y
    match vs,hF with
    |[u,v],hF=>
    refine lS.jR (Zf (ty:=ty) (ts:=q.argTypes.toList) TK M hm hF.1 hF.2.1 (c:=c) ?_ hlen.symm) ?_
    ·unfold jv;exact h
    rw[hex _ rfl]
    simp[invoke,builtin]
   ·rename_i z y
    match vs,hF with
    |[u,v],hF=>
    refine lS.jR (afo (ty:=ty) (ts:=q.argTypes.toList) TK M hF.1 hF.2.1 (c:=c) ?_ hlen.symm) ?_
    ·unfold jv;exact h
    rw[hex _ rfl]
    simp[invoke,builtin]
   ·rename_i z oo nn gg y
    match vs,hF with
    |[u,v],hF=>
    refine lS.jR (V3 (ty:=ty) (ts:=q.argTypes.toList) TK M hF.1 hF.2.1 (c:=c) ?_ hlen.symm) ?_
    ·unfold jv;exact h
    rw[hex _ rfl]
    simp[invoke,builtin]
   ·cases h
  ·cases h
end
section
variable {R:Type} {P:Program} {T:dH} {C:ak} {w w':World} {may:Nat→Prop} {ow aO:Ow} {r:R} {s:S} {a:Act}
theorem lookup_cons (t t':Nat)(v:SV)(fr:List (Nat×SV)):lookup ((t,v)::fr) t'=if t=t' then v else lookup fr t':=by
 simp only[lookup]
 by_cases h:t=t'
 ·subst h;simp
 ·rw [if_neg h,show Nat.beq t t'=false from by cases hb:Nat.beq t t' with|false=>rfl|true=>exact absurd (Nat.eq_of_beq_eq_true hb) h];rfl
theorem JO (s:S)(d:Option Nat)(v:SV)(m:Mem)(t:Nat):(s.put d v m).get t=if d=some t then v else s.get t:=by
 cases d with
 |none=>simp[S.put,S.get]
 |some d=>simp only[S.put,S.get,lookup_cons,Option.some.injEq]
theorem Fa (s:S)(d:Option Nat)(v:SV)(m:Mem):(s.put d v m).m=m:=by cases d<;>rfl
theorem nV (s:S)(x:Operand)(b:Bool):(s.refine x b).m=s.m:=by cases x<;>rfl
theorem zN (s:S)(d:Nat)(b:Bool)(t:Nat):(s.refine (.tmp d) b).get t=if d=t then cb b else s.get t:=by
 simp only[S.refine,S.get,lookup_cons]
theorem dw.refine {m:Mem}(F:dw w (ay ow s.m) may ow s a){x:Operand}{b:Bool}(h:(s.gJ x).bool? =some b):dw w (ay ow s.m) may ow (s.refine x b) a:=by
 cases x with
 |tmp d=>
  intro t
  rw[nV,zN]
  split
  ·rename_i e;subst e
   have:=bool?nK (F d) (by rw[←SS];exact h)
   rw[this]
   exact rfl
  ·exact F t
 |_=>exact F
theorem dw.put {m':Mem}(F:dw w (ay ow s.m) may ow s a)(K:dZ may w ow s.m w' aO m'){d:Option Nat}{N:Nat}(hd:Iz N d=true)(hN:a.tmps.size=N){v:SV}{u:Value}(hv:aS w' (ay aO m') may aO m' v u):
  dw w' (ay aO m') may aO (s.put d v m') (a.put d u):=by
 intro t
 rw[JO,Fa]
 cases d with
 |none=>simpa[Act.put]using aS.aW K (F t)
 |some d=>
  simp only[Option.some.injEq]
  simp only[Iz,Nat.blt_eq]at hd
  split
  ·rename_i e;subst e
   simpa[Act.put,Array.getElem?_setIfInBounds,show d<a.tmps.size by omega]using hv
  ·rename_i e
   have:=aS.aW K (F t)
   simpa[Act.put,Array.getElem?_setIfInBounds_ne e]using this
theorem Fb (a:Act)(d:Option Tmp)(u:Value):(a.put d u).tmps.size=a.tmps.size:=by cases d<;>simp[Act.put]
theorem xW (a:Act)(d:Option Tmp)(u:Value):(a.put d u).defers=a.defers:=by cases d<;>rfl
theorem TN {m:Mem}{x:SV}{v:Value}(h:aS w (ay ow m) may ow m x v)(hx:isVoid x=true):v=undef:=by
 cases x with
 |JF cs=>
  cases cs with
  |nil=>
   obtain⟨vs,rfl,h⟩:=h
   rw[F2.jk h];rfl
  |cons _ _=>cases hx
 |_=>cases hx
theorem wW {m:Mem}{ok:Nat→Prop}:aS w ok may ow m (.JF []) undef:=⟨[],rfl,trivial⟩
theorem Qn {ops:Array Oper}{g d:Nat}(F:dw w (ay ow s.m) may ow s a)(hd:(ops.toList[g]?).bind (·.dst)=some d)(hb:isVoid (s.get d)=true):yielded ops a.tmps g=none:=by
 have h1:=TN (F d) hb
 have hd':(ops[g]?).bind (·.dst)=some d:=by simpa using hd
 cases h:a.tmps[d]? with
 |none=>simp[yielded,hd',h]
 |some v=>
  have:v=undef:=by simpa[h]using h1
  subst this
  simp[yielded,hd',h,undef]
theorem TP {ops:Array Oper}{g d:Nat}{b:Bool}(F:dw w (ay ow s.m) may ow s a)(hd:(ops.toList[g]?).bind (·.dst)=some d)(hb:(s.get d).bool? =some b):yielded ops a.tmps g=some b:=by
 have h1:=bool?nK (F d) hb
 have hd':(ops[g]?).bind (·.dst)=some d:=by simpa using hd
 have:a.tmps[d]? =some (.bool b):=by
  cases h:a.tmps[d]? with
  |none=>simp[h,undef]at h1
  |some v=>simpa[h]using h1
 simp[yielded,hd',this]
def Wp (P:Program)(may:Nat→Prop)(w:World)(ow:Ow)(s:S)(ops:Array Oper)(o:Oper)(a:Act)(c:S→Bool→SV→Mem→Option R)(r:R):Prop:=
 ∃s' wt sv m',s'.m=s.m∧dw w (ay ow s.m) may ow s' a∧c s' wt sv m'=some r∧
  ((wt=true∧Region.wanted o (yielded ops a.tmps)=true∧∀(K:Act→World→Prop) (Q:Exit→Act→World→Prop),
   (∀v w' aO,aC w' may aO m'→dZ may w ow s.m w' aO m'→aS w' (ay aO m') may aO m' sv v→K (a.put o.dst v) w')→o.wp P a w K Q)∨
  (wt=false∧Region.wanted o (yielded ops a.tmps)=false∧m'=s.m∧sv= .JF []))
theorem Fe (TK:aZ P T)(CK:ah P C)(M:aC w may ow s.m)(hL:Live C may w ow s.m)(F:dw w (ay ow s.m) may ow s a){ops:Array Oper}{o:Oper}{c:S→Bool→SV→Mem→Option R}
  (h:EH C T ops.toList o s c=some r):Wp P may w ow s ops o a c r:=by
 unfold EH at h
 have yes:∀s':S,s'.m=s.m→dw w (ay ow s.m) may ow s' a→Region.wanted o (yielded ops a.tmps)=true→evalOp C T s' o (fun v m=>c s' true v m)=some r→Wp P may w ow s ops o a c r:=by
  intro s' e F' hw h
  obtain⟨sv,m',h1,h2⟩:=OE (s:=s') TK CK (by rw[e];exact M) (by rw[e];exact hL) (by rw[e];exact F') h
  exact⟨s',true,sv,m',e,F',h1,.inl ⟨rfl,hw,fun K Q hK=>h2 K Q fun v w' aO h3 h4 h5=>hK v w' aO h3 (by rw[←e];exact h4) h5⟩⟩
 split at h
 ·rename_i hg
  exact yes s rfl F (by simp[Region.wanted,hg]) h
 ·rename_i g want hg
  split at h
  case h_1=>cases h
  rename_i d hd
  cases ZA:isVoid (s.get d)with
  |true=>
   rw[ZA]at h
   exact⟨s,false,.JF [],s.m,rfl,F,h,.inr ⟨rfl,by simp[Region.wanted,hg,Qn F hd ZA],rfl,rfl⟩⟩
  |false=>
  rw[ZA]at h
  simp only[cond_false]at h
  split at h
  case h_1=>cases h
  rename_i b hb
  have hy:=TP F hd hb
  have hF:∀b',b=b'→dw w (ay ow s.m) may ow (s.refine (.tmp d) b') a:=by
   rintro _ rfl
   exact dw.refine (m:=s.m) F (x:= .tmp d) ((SS s d).trans hb)
  have no:∀b',b=b'→want= !b'→c (s.refine (.tmp d) b') false (.JF []) (s.refine (.tmp d) b').m=some r→Wp P may w ow s ops o a c r:=by
   intro b' e hw h
   exact⟨_,false,.JF [],_,nV _ _ _,hF b' e,h,.inr ⟨rfl,by simp[Region.wanted,hg,hy,e,hw],nV _ _ _,rfl⟩⟩
  cases b with
  |true=>
   cases want with
   |true=>exact yes _ (nV _ _ _) (hF true rfl) (by simp[Region.wanted,hg,hy]) h
   |false=>exact no true rfl rfl h
  |false=>
   cases want with
   |true=>exact no false rfl rfl h
   |false=>exact yes _ (nV _ _ _) (hF false rfl) (by simp[Region.wanted,hg,hy]) h
structure At (P:Program) (N:Nat) (may:Nat→Prop) (w0:World) (BH:Ow) (m0:Mem) (a0:Act) (s:S) (a:Act) (w:World) (ow:Ow):Prop where
 mem:aC w may ow s.m
 fr:dw w (ay ow s.m) may ow s a
 aW:dZ may w0 BH m0 w ow s.m
 size:a.tmps.size=N
 defers:a.defers=a0.defers
theorem At.refl {N:Nat}{a:Act}(M:aC w may ow s.m)(F:dw w (ay ow s.m) may ow s a)(hN:a.tmps.size=N):At P N may w ow s.m a s a w ow:=⟨M,F,dZ.refl _ _ _ _,hN,rfl⟩
theorem At.trans {N:Nat}{s1 s2:S}{a a1 a2:Act}{w w1 w2:World}{ow jZ gV:Ow}{m:Mem}(h:At P N may w ow m a s1 a1 w1 jZ)(k:At P N may w1 jZ s1.m a1 s2 a2 w2 gV):At P N may w ow m a s2 a2 w2 gV:=
 ⟨k.mem,k.fr,h.aW.trans k.aW,k.size,k.defers.trans h.defers⟩
theorem He {ops:Array Oper}{k:Nat}{o:Oper}(h:ops[k]? =some o){Q:Exit→Act→World→Prop}{l:List Nat}{a:Act}{w:World}:
  wpOps P ops Q (k::l) a w=(if Region.wanted o (yielded ops a.tmps)then o.wp P a w (wpOps P ops Q l) Q∨(o.asks P a w∧LetsOut Q)else wpOps P ops Q l (a.put o.dst undef) w):=by
 simp[wpOps,h]
theorem At.step {N:Nat}(hN:a.tmps.size=N){s':S}(e:s'.m=s.m)(F':dw w (ay ow s.m) may ow s' a){m':Mem}(M':aC w' may aO m')(K':dZ may w ow s.m w' aO m'){d:Option Nat}(hd:Iz N d=true){sv:SV}{v:Value}
  (hv:aS w' (ay aO m') may aO m' sv v):At P N may w ow s.m a (s'.put d sv m') (a.put d v) w' aO:=by
 refine⟨by rw[Fa];exact M',?_,by rw[Fa];exact K',by rw[Fb];exact hN,xW _ _ _⟩
 have:=dw.put (s:=s') (w:=w) (ow:=ow) (a:=a) (m':=m') (d:=d) (v:=sv) (u:=v) (by rw[e];exact F') (by rw[e];exact K') hd hN hv
 rw[Fa];exact this
theorem Lh (TK:aZ P T)(CK:ah P C){ops:Array Oper}{N:Nat}{c:S→Option R}{Q:Exit→Act→World→Prop}:∀(l:List Oper) (k:Nat) (s:S) (a:Act) (w:World) (ow:Ow),(∀j,l[j]? =ops[k+j]?)→Live C may w ow s.m→
  aC w may ow s.m→dw w (ay ow s.m) may ow s a→a.tmps.size=N→nN C T N ops.toList l s c=some r→
  (∀s' a' w' aO,c s'=some r→At P N may w ow s.m a s' a' w' aO→Q .normal a' w')→wpOps P ops Q (List.range' k l.length) a w
 |[],k,s,a,w,ow,hl,hm,M,F,hN,h,hQ=>hQ s a w ow h (At.refl M F hN)
 |o::l,k,s,a,w,ow,hl,hm,M,F,hN,h,hQ=>by
  obtain⟨hd,h⟩:=aG h
  have h0:ops[k]? =some o:=by simpa using(hl 0).symm
  have VL:∀j,l[j]? =ops[k+1+j]? :=fun j=>by have:=hl (j+1);simpa[Nat.add_assoc,Nat.add_comm 1 j]using this
  obtain⟨s',wt,sv,m',e,F',h1,h2⟩:=Fe TK CK M hm F h
  rw[List.length_cons,List.range'_succ,He h0]
  have key:∀v w' aO,aC w' may aO m'→dZ may w ow s.m w' aO m'→aS w' (ay aO m') may aO m' sv v→wpOps P ops Q (List.range' (k+1) l.length) (a.put o.dst v) w':=by
   intro v w' aO M' K' hv
   have A:=At.step (P:=P) hN e F' M' K' hd hv
   exact Lh TK CK l (k+1) _ _ w' aO VL (by rw[Fa];exact hm.aW K') A.mem A.fr A.size h1 fun s2 a2 w2 gV h3 A2=>hQ s2 a2 w2 gV h3 (A.trans A2)
  rcases h2 with⟨_,hw,h2⟩|⟨_,hw,rfl,rfl⟩
  ·rw [if_pos hw]
   exact .inl (h2 _ _ key)
  ·rw [if_neg (by simp[hw])]
   exact key undef w ow M (dZ.refl _ _ _ _) wW
theorem OG (TK:aZ P T)(CK:ah P C){id:Nat}{ops:Array Oper}{N:Nat}{c:S→Option R}{Q:Exit→Act→World→Prop}(hm:Live C may w ow s.m)(M:aC w may ow s.m)(F:dw w (ay ow s.m) may ow s a)(hN:a.tmps.size=N)
  (h:nN C T N ops.toList ops.toList s c=some r) (hQ:∀s' a' w' aO,c s'=some r→At P N may w ow s.m a s' a' w' aO→Q .normal a' w'):(Code.region id ops false).wp P Q a w:=by
 refine wp_region ?_
 rw[List.range_eq_range']
 have:=Lh TK CK (Q:=Q) ops.toList 0 s a w ow (by simp) hm M F hN h hQ
 simpa using this
end
section
variable {P:Program} {T:dH} {C:ak} {w:World} {may:Nat→Prop} {ow:Ow} {s:S} {a:Act} {m:Mem}
theorem abP (M:aC w may ow m){x:LS}{l:aT}{p:aT×Mem}(h:coL m x l=some p):
  ∃aO,aC w may aO p.2∧dZ may w ow m w aO p.2∧p.2.boxes=m.boxes∧∀v,aQ w (ay ow m) may ow l v→aQ w (ay aO p.2) may aO p.1 v:=by
 cases x with
 |v fr=>
  cases l with
  |val fr' k y=>
   obtain⟨hb,h⟩:=aG h
   obtain rfl:=Option.some.inj h
   refine⟨ow,M,dZ.refl _ _ _ _,rfl,fun v hv=>Rd.up (f:=fr') hv fun e=> ?_⟩
   subst e;simpa using hb
  |nil=>
   obtain rfl:=Option.some.inj h
   exact⟨ow,M,dZ.refl _ _ _ _,rfl,fun v hv=>hv⟩
  |own r=>
   simp only[coL]at h
   cases hr:m.row? r with
   |none=>simp[hr]at h
   |some row=>
    simp only[hr]at h
    obtain⟨hb,h⟩:=aG h
    obtain rfl:=Option.some.inj h
    obtain⟨M1,K1⟩:=M.freeze (.own r)
    refine⟨ow,M1,K1,rfl,fun v hv=> ?_⟩
    obtain⟨v1,JK,RR⟩:=M1.sl r {row with rw:=false} (by rw[row?vT,if_pos rfl,hr];rfl) hv.1 hv.2
    obtain rfl:v=v1:=Option.some.inj (hv.1.symm.trans JK)
    have:=RR.2
    simp only[Bool.false_eq_true,if_false]at this
    refine Rd.up (f:=row.fr) this fun e=> ?_
    subst e;simpa using hb
 |z e k fr=>
  cases l with
  |val fr' k' y=>
   obtain⟨hb,h⟩:=aG h
   obtain rfl:=Option.some.inj h
   refine⟨ow,M,dZ.refl _ _ _ _,rfl,fun v hv=>Rd.up (f:=fr') hv fun e=> ?_⟩
   subst e;simpa using hb
  |nil=>
   obtain rfl:=Option.some.inj h
   refine⟨ow,M,dZ.refl _ _ _ _,rfl,fun v hv=> ?_⟩
   obtain rfl:v= .slice none 0 0:=hv
   exact⟨none,0,rfl,Nat.zero_le _,fun i x hx=>by simp at hx⟩
  |own r=>
   simp only[coL]at h
   cases hr:m.row? r with
   |none=>simp[hr]at h
   |some row=>
    simp only[hr]at h
    obtain⟨hb,h⟩:=aG h
    obtain rfl:=Option.some.inj h
    obtain⟨M1,K1⟩:=M.freeze (.own r)
    refine⟨ow,M1,K1,rfl,fun v hv=> ?_⟩
    obtain⟨v1,JK,RR⟩:=M1.sl r {row with rw:=false} (by rw[row?vT,if_pos rfl,hr];rfl) hv.1 hv.2
    obtain rfl:v=v1:=Option.some.inj (hv.1.symm.trans JK)
    have:=RR.2
    simp only[Bool.false_eq_true,if_false]at this
    refine Rd.up (f:=row.fr) this fun e=> ?_
    subst e;simpa using hb
 |o e k fr=>
  cases l with
  |val fr' k' y=>simp[coL]at h
  |nil=>
   obtain rfl:=Option.some.inj h
   obtain⟨M1,K1⟩:=M.add (w':=w) ⟨e,k,fr,true,[]⟩ (.slice none 0 0) (Nat.le_refl _) rfl rfl rfl (fun _ _=>rfl) rfl [] (World.ownsRow_nil w 0 _ _) rfl (fun b hb=>by simp[Value.ownBlock]at hb)
   refine⟨_,M1,K1,rfl,fun v hv=> ?_⟩
   obtain rfl:=hv
   refine⟨?_,_,_,_,rfl⟩
   show(ow.rv++[_])[m.rows.length]? =_
   rw[←M.lX];simp
  |own r=>
   simp only[coL]at h
   cases hr:m.row? r with
   |none=>simp[hr]at h
   |some row=>
    simp only[hr]at h
    obtain⟨hb,h⟩:=aG h
    obtain rfl:=Option.some.inj h
    simp only[Bool.and_eq_true,Bool.or_eq_true,Bool.not_eq_true']at hb
    obtain⟨M1,K1⟩:=M.weaken (m':=⟨m.rows.set r (some {row with fr:=fr}),m.boxes⟩) rfl (by simp) fun i row' hi=>by
     rw[row?_set]at hi
     split at hi
     ·rename_i hc
      obtain rfl:=Option.some.inj hi
      refine⟨row,by rw[hc.1];exact hr,rfl,⟨rfl,rfl⟩,fun h=>h,fun e=> ?_⟩
      simp only at e
      rcases hb.2 with h1|h1
      ·exact h1
      ·rw [e]at h1;cases h1
     ·exact ⟨row',hi,rfl,⟨rfl,rfl⟩,fun h=>h,fun h=>h⟩
    exact⟨ow,M1,K1,rfl,fun v hv=>aQ.aW K1.stay K1.rv hv⟩
theorem JQ:∀{xs:List LS} {ls:List aT} {m:Mem} {ow:Ow} {p:List aT×Mem},aC w may ow m→PY m xs ls=some p→
  ∃aO,aC w may aO p.2∧dZ may w ow m w aO p.2∧p.2.boxes=m.boxes∧∀vs,F2 (aQ w (ay ow m) may ow) ls vs→F2 (aQ w (ay aO p.2) may aO) p.1 vs
 |[],[],m,ow,p,M,h=>by
  obtain rfl:=Option.some.inj h
  exact⟨ow,M,dZ.refl _ _ _ _,rfl,fun vs h=>h⟩
 |[],_::_,m,ow,p,M,h=>by simp[PY]at h
 |_::_,[],m,ow,p,M,h=>by simp[PY]at h
 |x::xs,l::ls,m,ow,p,M,h=>by
  simp only[PY]at h
  cases h1:coL m x l with
  |none=>simp[h1]at h
  |some q=>
   simp only[h1]at h
   cases h2:PY q.2 xs ls with
   |none=>simp[h2]at h
   |some z=>
    simp only[h2]at h
    obtain rfl:=Option.some.inj h
    obtain⟨jZ,M1,K1,b1,r1⟩:=abP M h1
    obtain⟨gV,M2,K2,b2,r2⟩:=JQ M1 h2
    refine⟨gV,M2,K1.trans K2,b2.trans b1,fun vs hv=> ?_⟩
    match vs,hv with
    |v::vs,hv=>exact⟨aQ.aW K2.stay K2.rv (r1 v hv.1),r2 vs (hv.2.imp fun _ _ h=>aQ.aW K1.stay K1.rv h)⟩
theorem ai5 (M:aC w may ow m){x:CS}{sv:SV}{p:SV×Mem}(h:coV m x sv=some p):
  ∃aO,aC w may aO p.2∧dZ may w ow m w aO p.2∧∀v,aS w (ay ow m) may ow m sv v→aS w (ay aO p.2) may aO p.2 p.1 v:=by
 unfold coV at h
 split at h
 ·split at h
  case h_2=>cases h
  rename_i q hq
  obtain rfl:=Option.some.inj h
  obtain⟨jZ,M1,K1,_,r1⟩:=abP M hq
  exact⟨jZ,M1,K1,fun v hv=>r1 v hv⟩
 ·split at h
  case h_2=>cases h
  rename_i q hq
  obtain rfl:=Option.some.inj h
  obtain⟨jZ,M1,K1,_,r1⟩:=JQ M hq
  exact⟨jZ,M1,K1,fun v ⟨vs,e,hv⟩=>⟨vs,e,r1 vs hv⟩⟩
 ·rename_i t xs b
  split at h
  case h_2=>cases h
  rename_i bx yN
  split at h
  case h_2=>cases h
  rename_i q hq
  obtain⟨ht,h⟩:=aG h
  have ht:=Nat.eq_of_beq_eq_true ht
  obtain rfl:=Option.some.inj h
  obtain⟨jZ,M1,K1,b1,r1⟩:=JQ M hq
  obtain⟨g,hg,vs,hc,hF⟩:=M.boxes b bx yN
  have Qo:q.2.box? b=some bx:=by unfold Mem.box?;rw[b1];exact yN
  obtain⟨M2,K2⟩:=M1.KL (w':=w) b bx ⟨t,q.1⟩ g Qo (K1.bb _ _ hg) ht rfl rfl rfl rfl (fun _ _ _=>rfl) vs (by rw[ht];exact hc) (r1 vs hF)
  exact⟨jZ,M2,K1.trans K2,fun v hv=>aS.aW (K1.trans K2) hv⟩
 ·rename_i fr r o n g
  cases hr:m.row? r with
  |none=>simp[hr]at h
  |some row=>
   simp only[hr]at h
   obtain⟨hb,h⟩:=aG h
   obtain rfl:=Option.some.inj h
   simp only[Bool.and_eq_true,Bool.or_eq_true,Bool.not_eq_true']at hb
   obtain⟨M1,K1⟩:=M.weaken (m':=⟨m.rows.set r (some {row with fr:=fr}),m.boxes⟩) rfl (by simp) fun i row' hi=>by
    rw[row?_set]at hi
    split at hi
    ·rename_i hc
     obtain rfl:=Option.some.inj hi
     refine⟨row,by rw[hc.1];exact hr,rfl,⟨rfl,rfl⟩,fun h=>h,fun e=> ?_⟩
     simp only at e
     rcases hb.2 with h1|h1
     ·exact h1
     ·rw [e]at h1;cases h1
    ·exact ⟨row',hi,rfl,⟨rfl,rfl⟩,fun h=>h,fun h=>h⟩
   exact⟨ow,M1,K1,fun v hv=>aS.aW K1 hv⟩
 ·rename_i t xs b o g0
  split at h
  case h_2=>cases h
  rename_i bx yN
  split at h
  case h_2=>cases h
  rename_i q hq
  obtain⟨ht,h⟩:=aG h
  have ht:=Nat.eq_of_beq_eq_true ht
  obtain rfl:=Option.some.inj h
  obtain⟨jZ,M1,K1,b1,r1⟩:=JQ M hq
  obtain⟨g,hg,vs,hc,hF⟩:=M.boxes b bx yN
  have Qo:q.2.box? b=some bx:=by unfold Mem.box?;rw[b1];exact yN
  obtain⟨M2,K2⟩:=M1.KL (w':=w) b bx ⟨t,q.1⟩ g Qo (K1.bb _ _ hg) ht rfl rfl rfl rfl (fun _ _ _=>rfl) vs (by rw[ht];exact hc) (r1 vs hF)
  exact⟨jZ,M2,K1.trans K2,fun v hv=>aS.aW (K1.trans K2) hv⟩
 ·obtain rfl:=Option.some.inj h
  exact⟨ow,M,dZ.refl _ _ _ _,fun v hv=>hv⟩
 ·cases h
theorem XT:∀{sh:List (Nat×CS)} {m:Mem} {ow:Ow} {p:List (Nat×SV)×Mem},aC w may ow m→(∀t,aS w (ay ow m) may ow m (s.get t) (a.tmps.getD t undef))→aa2 s sh m=some p→
  ∃aO,aC w may aO p.2∧dZ may w ow m w aO p.2∧∀q∈p.1,aS w (ay aO p.2) may aO p.2 q.2 (a.tmps.getD q.1 undef)
 |[],m,ow,p,M,F,h=>by
  obtain rfl:=Option.some.inj h
  exact⟨ow,M,dZ.refl _ _ _ _,fun q hq=>by simp at hq⟩
 |(t,x)::sh,m,ow,p,M,F,h=>by
  simp only[aa2]at h
  cases h1:coV m x (s.get t)with
  |none=>simp[h1]at h
  |some q=>
   simp only[h1]at h
   cases h2:aa2 s sh q.2 with
   |none=>simp[h2]at h
   |some z=>
    simp only[h2]at h
    obtain rfl:=Option.some.inj h
    obtain⟨jZ,M1,K1,r1⟩:=ai5 M h1
    obtain⟨gV,M2,K2,r2⟩:=XT M1 (fun t=>aS.aW K1 (F t)) h2
    refine⟨gV,M2,K1.trans K2,fun y hy=> ?_⟩
    rcases List.mem_cons.1 hy with rfl|hy
    ·exact aS.aW K2 (r1 _ (F t))
    ·exact r2 y hy
theorem tJ:∀{x i:Nat} {l:List Nat},SK x l=some i→l[i]? =some x
 |x,i,[],h=>by simp[SK]at h
 |x,i,y::r,h=>by
  simp only[SK]at h
  rcases mP h with⟨h1,h2⟩|⟨h1,h2⟩
  ·obtain rfl:=Option.some.inj h2
   simp[Nat.eq_of_beq_eq_true h1]
  ·obtain ⟨j,hj,rfl⟩:=Option.map_eq_some_iff.1 h2
   simpa using tJ hj
theorem Hg:∀{l:List Nat} {i j x:Nat},kU l=true→l[i]? =some x→l[j]? =some x→i=j
 |[],i,j,x,h,hi,hj=>by simp at hi
 |y::r,i,j,x,h,hi,hj=>by
  simp only[kU,Bool.and_eq_true,Bool.not_eq_true',List.any_eq_false]at h
  have no:∀k,r[k]? =some y→False:=fun k hk=>h.1 y (List.mem_of_getElem? hk) (Nat.beq_refl y)
  cases i with
  |zero=>
   cases j with
   |zero=>rfl
   |succ j=>simp at hi hj;subst hi;exact(no _ hj).elim
  |succ i=>
   cases j with
   |zero=>simp at hi hj;subst hj;exact(no _ hi).elim
   |succ j=>simp at hi hj;rw[Hg h.2 hi hj]
theorem zO {α β:Type}{f:α→Option β}{l:List α}{ys:List β}(h:iV (l.map f)=some ys):∀{i:Nat} {y:β},ys[i]? =some y→∃x,l[i]? =some x∧f x=some y:=by
 intro i y hy
 have h1:=kN h
 have h2:(ys.map some)[i]? =some (some y):=by simp[hy]
 rw[←h1,List.getElem?_map]at h2
 cases hx:l[i]? with
 |none=>simp[hx]at h2
 |some x=>simp[hx]at h2;exact⟨x,rfl,h2⟩
theorem CP {α β:Type}{f:α→Option β}{l:List α}{ys:List β}(h:iV (l.map f)=some ys):ys.length=l.length:=by
 have:=congrArg List.length (kN h)
 simpa using this.symm
def Ow.pick (o:Ow)(rs bs:List Nat):Ow:=⟨rs.map fun r=>o.rv.getD r undef,bs.map fun b=>o.bb.getD b none⟩
theorem Fg {rs bs:List Nat}{i r:Nat}{v:Value}(h:rs[i]? =some r)(hv:ow.rv[r]? =some v):(ow.pick rs bs).rv[i]? =some v:=by
 simp[Ow.pick,h,hv]
theorem JR {rs bs:List Nat}{i b g:Nat}(h:bs[i]? =some b)(hv:ow.bb[b]? =some (some g)):(ow.pick rs bs).bb[i]? =some (some g):=by
 simp[Ow.pick,h,hv]
theorem TQ {ok ok':Nat→Prop}{rs bs:List Nat}(H:∀b,ok b→ok' b){l l':aT}{v:Value}(e:VK rs l=some l')(h:aQ w ok may ow l v):aQ w ok' may (ow.pick rs bs) l' v:=by
 cases l with
 |val fr k x=>obtain rfl:=Option.some.inj e;exact Rd.mono (o7.mono H) h
 |nil=>obtain rfl:=Option.some.inj e;exact h
 |own r=>
  obtain⟨i,hi,rfl⟩:=Option.map_eq_some_iff.1 e
  exact⟨Fg (tJ hi) h.1,h.2⟩
theorem Hl {ok ok':Nat→Prop}{rs bs:List Nat}(H:∀b,ok b→ok' b):∀{ls ls':List aT} {vs:List Value},iV (ls.map (VK rs))=some ls'→F2 (aQ w ok may ow) ls vs→F2 (aQ w ok' may (ow.pick rs bs)) ls' vs
 |[],ls',vs,e,h=>by
  obtain rfl:=Option.some.inj e
  obtain rfl:=h.jk
  trivial
 |l::ls,ls',vs,e,h=>by
  simp only[List.map_cons]at e
  cases h1:VK rs l with
  |none=>rw[h1]at e;simp[iV]at e
  |some l1=>
   rw[h1]at e
   simp only[iV]at e
   obtain⟨q,hq,rfl⟩:=Option.map_eq_some_iff.1 e
   match vs,h with
   |v::vs,h=>exact⟨TQ H h1 h.1,Hl H hq h.2⟩
theorem abQ {ok ok':Nat→Prop}{rs bs:List Nat}(H:∀b,ok b→ok' b){m':Mem}(Hr:∀i r,rs[i]? =some r→i<m'.rows.length∧∀row,m'.row? i=some row→m.row? r=some row){sv sv':SV}{v:Value}(e:aiD rs bs sv=some sv')(h:aS w ok may ow m sv v):aS w ok' may (ow.pick rs bs) m' sv' v:=by
 unfold aiD at e
 split at e
 ·rename_i c
  obtain⟨c',hc,rfl⟩:=Option.map_eq_some_iff.1 e
  cases c with
  |lf l=>
   obtain⟨l',hl,rfl⟩:=Option.map_eq_some_iff.1 hc
   exact TQ H hl h
  |agg ls=>
   obtain⟨ls',hl,rfl⟩:=Option.map_eq_some_iff.1 hc
   obtain⟨vs,e,h⟩:=h
   exact⟨vs,e,Hl H hl h⟩
 ·rename_i b o
  obtain⟨i,hi,rfl⟩:=Option.map_eq_some_iff.1 e
  obtain⟨g,hg,h⟩:=h
  exact⟨g,JR (tJ hi) hg,h⟩
 ·rename_i b o g
  obtain⟨i,hi,rfl⟩:=Option.map_eq_some_iff.1 e
  exact⟨JR (tJ hi) h.1,h.2⟩
 ·obtain rfl:=Option.some.inj e
  exact h
 ·rename_i r o n g
  obtain⟨i,hi,rfl⟩:=Option.map_eq_some_iff.1 e
  obtain⟨_,⟨A,L,C,hs⟩,h⟩:=h
  obtain⟨h1,h2⟩:=Hr i r (tJ hi)
  refine⟨h1,⟨A,L,C,Fg (tJ hi) hs⟩,fun row tH=> ?_⟩
  obtain⟨h3,h4,h5⟩:=h row (h2 row tH)
  refine⟨h3,h4,fun hn=> ?_⟩
  obtain⟨γ,L,C,c,h6,h7⟩:=h5 hn
  exact⟨γ,L,C,c,Fg (tJ hi) h6,h7⟩
 ·cases e
theorem oz:∀{fr:List (Nat×SV)} {t:Nat},lookup fr t= .undef∨(t,lookup fr t)∈fr
 |[],t=> .inl rfl
 |(t',v)::r,t=>by
  rw[lookup_cons]
  by_cases h:t'=t
  ·subst h;simp
  ·simp only[if_neg h]
   rcases oz (fr:=r) (t:=t)with h1|h1
   ·exact .inl h1
   ·exact .inr (List.mem_cons_of_mem _ h1)
theorem alM (M:aC w may ow m){fr:List (Nat×SV)}{s':S}(F:∀q∈fr,aS w (ay ow m) may ow m q.2 (a.tmps.getD q.1 undef))(h:gc fr m=some s'):
  ∃aO,aC w may aO s'.m∧dw w (ay aO s'.m) may aO s' a∧∀b,ay ow m b→ay aO s'.m b:=by
 unfold gc at h
 simp only at h
 generalize aa3 fr=bs at h
 split at h
 case h_1=>cases h
 rename_i bx yN
 generalize (List.foldl (fun l b=>XE l b.ls) (List.foldl (fun l x=>XE l x.2.leaves) [] fr) bx)=rs at h
 obtain⟨hd,h⟩:=aG h
 simp only[Bool.and_eq_true]at hd
 split at h
 case h_2=>cases h
 rename_i rows fr' bx' TS vF alN
 obtain rfl:=Option.some.inj h
 have tH:∀i row,(⟨rows.map some,bx'.map some⟩:Mem).row? i=some row→∃r,rs[i]? =some r∧m.row? r=some row:=by
  intro i row e
  have e:rows[i]? =some row:=by
   cases hq:rows[i]? <;>simp[Mem.row?,hq]at e⊢;exact e
  exact zO TS e
 have sO:∀i b',(⟨rows.map some,bx'.map some⟩:Mem).box? i=some b'→∃b q,bs[i]? =some b∧m.box? b=some q∧b'.t=q.t∧iV (q.ls.map (VK rs))=some b'.ls:=by
  intro i b' e
  have e:bx'[i]? =some b':=by
   cases hq:bx'[i]? <;>simp[Mem.box?,hq]at e⊢;exact e
  obtain⟨q,hq,h1⟩:=zO alN e
  obtain⟨ls,Ez,rfl⟩:=Option.map_eq_some_iff.1 h1
  obtain⟨b,hb,h2⟩:=zO yN hq
  exact⟨b,q,hb,h2,rfl,Ez⟩
 have jX:∀x b,eG (ow.pick rs bs) ⟨rows.map some,bx'.map some⟩ x=some b→
   (∃i r,x= .row i∧rs[i]? =some r∧eG ow m (.row r)=some b)∨(∃i q,x= .box i∧bs[i]? =some q∧eG ow m (.box q)=some b):=by
  intro x b hx
  cases x with
  |row i=>
   unfold eG at hx
   simp only at hx
   split at hx
   ·rename_i row hr
    obtain⟨r,h1,h2⟩:=tH i row hr
    split at hx
    ·rename_i hw
     refine .inl ⟨i,r,rfl,h1,?_⟩
     obtain⟨v,hv,_⟩:=M.rows r row h2
     rw[fF h2 hv hw]
     rw[Fg h1 hv]at hx
     exact hx
    ·cases hx
   ·cases hx
  |box i=>
   unfold eG at hx
   simp only at hx
   split at hx
   ·rename_i b' AZ
    obtain⟨q,bq,h1,h2,_⟩:=sO i b' AZ
    refine .inr ⟨i,q,rfl,h1,?_⟩
    obtain⟨g,hg,_⟩:=M.boxes q bq h2
    rw[jf h2 hg]
    rw[JR h1 hg]at hx
    exact hx
   ·cases hx
 have lU:∀b,ay ow m b→ay (ow.pick rs bs) ⟨rows.map some,bx'.map some⟩ b:=by
  intro b hb x hx
  rcases jX x b hx with⟨i,r,_,_,h1⟩|⟨i,r,_,_,h1⟩
  ·exact hb _ h1
  ·exact hb _ h1
 refine⟨ow.pick rs bs,⟨?_,?_,fun i row e=> ?_,fun i b' e=> ?_,fun x y b h1 k1=> ?_,fun x b h1=> ?_,fun i hi e=>by simp only[List.length_map]at hi;simp[Mem.box?,hi]at e⟩,fun t=> ?_,lU⟩
 ·simp [Ow.pick,CP TS]
 ·simp [Ow.pick,CP alN,CP yN]
 ·obtain ⟨r,h1,h2⟩:=tH i row e
  obtain⟨v,hv,RR⟩:=M.rows r row h2
  exact⟨v,Fg h1 hv,RR.aW (iF.mono fun b _ hb=>lU b hb) fun _ _ _=>rfl⟩
 ·obtain ⟨b,q,h1,h2,ht,Ez⟩:=sO i b' e
  obtain⟨g,hg,vs,hc,hF⟩:=M.boxes b q h2
  exact⟨g,JR h1 hg,vs,by rw[ht];exact hc,Hl lU Ez hF⟩
 ·rcases jX x b h1 with⟨i,r,rfl,h2,h3⟩|⟨i,r,rfl,h2,h3⟩<;>rcases jX y b k1 with⟨j,q,rfl,k2,k3⟩|⟨j,q,rfl,k2,k3⟩
  ·have:=M.qp _ _ b h3 k3
   injection this with this
   subst this
   rw[Hg hd.1 h2 k2]
  ·cases M.qp _ _ b h3 k3
  ·cases M.qp _ _ b h3 k3
  ·have:=M.qp _ _ b h3 k3
   injection this with this
   subst this
   rw[Hg hd.2 h2 k2]
 ·rcases jX x b h1 with⟨i,r,rfl,h2,h3⟩|⟨i,r,rfl,h2,h3⟩<;>exact M.fH _ _ h3
 ·show aS _ _ _ _ _ (lookup fr' t) _
  rcases oz (fr:=fr') (t:=t)with h1|h1
  ·rw [h1];trivial
  ·obtain ⟨i,hi⟩:=List.getElem?_of_mem h1
   obtain⟨q,hq,h2⟩:=zO vF hi
   obtain⟨v,hv,h3⟩:=Option.map_eq_some_iff.1 h2
   injection h3 with h4 h5
   subst h4
   rw[←h5]
   refine abQ lU (fun j r hj=>⟨?_,fun row Dl=> ?_⟩) hv (F q (List.mem_of_getElem? hq))
   ·have h6:=(List.getElem?_eq_some_iff.1 hj).1
    have h7:=CP TS
    simp;omega
   ·obtain ⟨r',h6,h7⟩:=tH j row Dl
    obtain rfl:=Option.some.inj (h6.symm.trans hj)
    exact h7
theorem TT (M:aC w may ow s.m)(F:dw w (ay ow s.m) may ow s a){sh:List (Nat×CS)}{s':S}(h:dS sh s=some s'):∃aO,aC w may aO s'.m∧dw w (ay aO s'.m) may aO s' a∧∀b,b<w.heap.size→ay ow s.m b→ay aO s'.m b:=by
 unfold dS at h
 split at h
 case h_2=>cases h
 rename_i p hp
 obtain⟨jZ,M1,K1,r1⟩:=XT M F hp
 obtain⟨gV,M2,F2,h2⟩:=alM M1 r1 h
 exact⟨gV,M2,F2,fun b hb h=>h2 b (K1.stay b hb h).1⟩
end
section
variable {R:Type}
theorem bY {α β:Type}(b:Bool)(x y:Option α)(f:α→Option β):(bif b then x else y).bind f=bif b then x.bind f else y.bind f:=by cases b<;>rfl
theorem Wq (op:BinOp)(k:IntKind)(a b:Int)(c:aT→Option R):KA op k a b c=(KA op k a b some).bind c:=by
 cases op<;>simp[KA,bY]
theorem Ws (op:BinOp)(a b:ByteArray)(c:aT→Option R):GU op a b c=(GU op a b some).bind c:=by
 cases op<;>simp[GU,bY]
theorem TU (op:BinOp)(a b:Bool)(c:aT→Option R):Cj op a b c=(Cj op a b some).bind c:=by
 cases op<;>simp[Cj,bY]
theorem TV (op:BinOp)(k:IntKind)(a:Int)(k':IntKind)(b:Int)(c:aT→Option R):Ci op k a k' b c=(Ci op k a k' b some).bind c:=by
 cases op<;>simp only[Ci,bY]<;>first|rfl|(split<;>first|exact Wq _ _ _ _ _|rfl)
theorem Fh (T:dH)(xt:TypeId)(op:BinOp)(x y:aT)(c:aT→Option R):Y4 T xt op x y c=(Y4 T xt op x y some).bind c:=by
 unfold Y4
 split
 ·exact TV _ _ _ _ _ _
 ·split
  ·exact TU _ _ _ _
  ·rfl
 ·exact Ws _ _ _ _
 ·rfl
theorem JU (op:UnOp)(x:aT)(c:aT→Option R):unE op x c=(unE op x some).bind c:=by
 unfold unE
 split<;>rfl
theorem CQ (T:dH)(m:Mem)(src dst:TypeId)(x:aT)(c:aT→Option R):Ba T m src dst x c=(Ba T m src dst x some).bind c:=by
 unfold Ba
 split
 ·rfl
 ·split
  ·split<;>rfl
  ·rfl
 ·rfl
theorem xX (m:Mem)(n:Nat)(x:aT)(i:Int)(c:SV→Option R):rJ m n x i c=(rJ m n x i some).bind c:=by
 unfold rJ
 split
 ·simp only[bY];rfl
 ·split
  ·simp only[bY];rfl
  ·rfl
 ·rfl
theorem CU (T:dH)(m:Mem)(t:TypeId)(x:SV)(c:SV→Option R):Du T m t x c=(Du T m t x some).bind c:=by
 unfold Du
 split
 ·rfl
 ·simp only[]
  split
  ·rfl
  ·rw [bY]
   split<;>rfl
theorem Lj (T:dH)(m:Mem)(t:TypeId)(x:SV)(v:lM)(c:Mem→Option R):ny T m t x v c=(ny T m t x v some).bind c:=by
 unfold ny
 split
 ·rfl
 ·rw [bY]
  split
  ·simp only[]
   split
   ·rw [bY]
    split<;>rfl
   ·rfl
  ·split
   ·rw [bY];rfl
   ·rfl
  ·rfl
theorem OH (C:ak)(m:Mem)(g:FuncId)(xs:List SV)(c:SV→Mem→Option R):wL C m g xs c=(wL C m g xs fun v m=>some (v,m)).bind fun p=>c p.1 p.2:=by
 unfold wL
 split
 ·simp only[]
  rw[bY]
  split
  ·rfl
  ·rename_i x _
   cases(_:kH).fn x with
   |none=>rfl
   |some y=>
    simp only[Option.bind_some]
    split<;>rfl
 ·rfl
theorem Wu (m:Mem)(n:Nat)(x:aT)(lo hi:Option Int)(c:SV→Mem→Option R):qw m n x lo hi c=(qw m n x lo hi fun v m=>some (v,m)).bind fun p=>c p.1 p.2:=by
 unfold qw
 split
 ·rw [bY]
  cases lo<;>cases hi<;>simp only[EF,bY]<;>rfl
 ·split
  ·rfl
  ·rw [bY]
   rename_i row _
   cases hw:row.rw<;>cases lo<;>cases hi<;>simp only[EF,bY,newRow]<;>rfl
 ·rfl
theorem TW (m:Mem)(n:Nat)(x:aT)(h q:Int)(c:SV→Mem→Option R):mV m n x h q c=(mV m n x h q fun v m=>some (v,m)).bind fun p=>c p.1 p.2:=by
 unfold mV
 split
 ·simp only[bY];rfl
 ·rfl
theorem Qq (m:Mem)(s:ByteArray)(lo hi:Option Int)(c:SV→Mem→Option R):qC m s lo hi c=(qC m s lo hi fun v m=>some (v,m)).bind fun p=>c p.1 p.2:=by
 unfold qC
 simp only[bY];rfl
theorem Qr (T:dH)(m:Mem)(b:Builtin)(ts:List TypeId)(xs:List SV)(c:SV→Mem→Option R):jv T m b ts xs c=(jv T m b ts xs fun v m=>some (v,m)).bind fun p=>c p.1 p.2:=by
 unfold jv
 split
 ·split<;>rfl
 ·split<;>rfl
 ·split<;>rfl
 ·simp only[bY]
  congr 1
  split
  ·split
   ·split
    ·simp only[bY];rfl
    ·split
     ·split
      ·simp only[bY];rfl
      ·rfl
     ·rfl
    ·rfl
   ·rfl
  ·rfl
 ·simp only[]
  split
  ·split
   ·simp only[bY];rfl
   ·rfl
  ·rfl
 ·simp only[]
  split
  ·split
   ·simp only[bY];rfl
   ·rfl
  ·rfl
 ·rfl
theorem zQ (n:Nat)(x:SV)(i:Int)(c:SV→Option R):GV n x i c=(GV n x i some).bind c:=by
 unfold GV
 split
 ·simp only[bY];rfl
 ·rfl
theorem zS (m:Mem)(n:Nat)(x:SV)(i:Int)(c:SV→Option R):zB m n x i c=(zB m n x i some).bind c:=by
 unfold zB
 split
 ·split
  ·simp only[bY];rfl
  ·rfl
 ·rfl
theorem abR (m:Mem)(n:Nat)(x:SV)(lo hi:Option Int)(c:SV→Mem→Option R):Ny m n x lo hi c=(Ny m n x lo hi fun v m=>some (v,m)).bind fun p=>c p.1 p.2:=by
 unfold Ny
 split
 ·split
  ·simp only[bY];rfl
  ·rfl
 ·rfl
theorem Wv (m:Mem)(gg:KC)(xs:List SV)(c:SV→Mem→Option R):vC m gg xs c=(vC m gg xs fun v m=>some (v,m)).bind fun p=>c p.1 p.2:=by
 unfold vC
 split
 ·rfl
 ·split
  ·split
   ·rfl
   ·split
    ·rfl
    ·rw [bY]
     split
     ·rfl
     ·rename_i zs _ _ x _
      cases(gg.fn zs x)with
      |none=>rfl
      |some y=>
       simp only[Option.bind_some]
       split<;>rfl
  ·rfl
theorem Wx (T:dH)(m:Mem)(e:TypeId)(n b:Nat)(xs:List SV)(c:SV→Mem→Option R):wM T m e n b xs c=(wM T m e n b xs fun v m=>some (v,m)).bind fun p=>c p.1 p.2:=by
 unfold wM
 split
 ·split
  ·split
   ·rw [bY];rfl
   ·rfl
  ·rfl
 ·rfl
theorem Wy (m:Mem)(ig:Bc)(xs:List SV)(c:SV→Mem→Option R):tC m ig xs c=(tC m ig xs fun v m=>some (v,m)).bind fun p=>c p.1 p.2:=by
 unfold tC
 split
 ·rfl
 ·split
  ·simp only[]
   split
   ·rfl
   ·split
    ·rfl
    ·rw [bY]
     split
     ·rfl
     ·rename_i zs _ _ x _
      cases(ig.fn zs _ _ x)with
      |none=>rfl
      |some y=>
       simp only[Option.bind_some]
       split
       ·rw [bY];rfl
       ·rfl
  ·rfl
theorem ZB (T:dH)(m:Mem)(q:Oth)(xs:List SV)(c:SV→Mem→Option R):KD T m q xs c=(KD T m q xs fun v m=>some (v,m)).bind fun p=>c p.1 p.2:=by
 cases q with
 |io ig=>exact Wy _ _ _ _
 |gv gg=>exact Wv _ _ _ _
 |cl e n b=>exact Wx _ _ _ _ _ _ _
theorem ZC (m:Mem)(xg:rP)(vs:List SV)(c:SV→Mem→Option R):Bg m xg vs c=(Bg m xg vs fun v m=>some (v,m)).bind fun p=>c p.1 p.2:=by
 unfold Bg
 split
 ·rfl
 ·simp only[]
  split
  ·rfl
  ·rw [bY]
   split
   ·rfl
   ·rename_i p _ _ x _
    cases xg.fn p.2.2 x with
    |none=>rfl
    |some y=>
     simp only[Option.bind_some,EG]
     split<;>rfl
theorem abS (tb:PW){m:Mem}(i:Option Int)(c:SV→Mem→Option R):Nw tb i (fun v=>c v m)=(Nw tb i fun v=>some (v,m)).bind fun p=>c p.1 p.2:=by
 unfold Nw
 split
 ·simp only[bY];rfl
 ·rfl
theorem Ll (C:ak)(T:dH)(s:S)(o:Oper)(c:SV→Mem→Option R):evalOp C T s o c=(evalOp C T s o fun v m=>some (v,m)).bind fun p=>c p.1 p.2:=by
 obtain⟨dst,op,ty,pos,after,guard⟩:=o
 cases op<;>simp only[evalOp]<;>try rfl
 case pick q a b=>
  split
  ·simp only[bY];rfl
  ·rfl
 case binOp op xt x y yt=>
  split
  ·rw [Fh];conv=>rhs;rw[Fh]
   rw[Option.bind_assoc];rfl
  ·split<;>rfl
  ·rfl
 case unOp op xt x=>
  split
  ·rw [JU];conv=>rhs;rw[JU]
   rw[Option.bind_assoc];rfl
  ·rfl
 case convert src dst x=>
  split
  ·rw [CQ];conv=>rhs;rw[CQ]
   rw[Option.bind_assoc];rfl
  ·rfl
 case extract x i=>
  split
  ·split<;>rfl
  ·split
   ·rfl
   ·split<;>rfl
  ·rfl
 case nilCheck x=>rw[bY];rfl
 case indexAddr t x i=>
  split
  ·exact abS _ _ _
  split
  ·rw [xX];conv=>rhs;rw[xX]
   rw[Option.bind_assoc];rfl
  ·cases XA (s.gJ x)with
   |true=>
    simp only[cond_true]
    rw[zQ];conv=>rhs;rw[zQ]
    rw[Option.bind_assoc];rfl
   |false=>
    simp only[cond_false]
    rw[zS];conv=>rhs;rw[zS]
    rw[Option.bind_assoc];rfl
  ·rfl
 case index t x i=>
  split
  ·simp only[bY];rfl
  ·rfl
 case load t x=>
  rw[CU];conv=>rhs;rw[CU]
  rw[Option.bind_assoc];rfl
 case store t x v=>
  split
  ·rw [Lj];conv=>rhs;rw[Lj]
   rw[Option.bind_assoc];rfl
  ·rfl
 case makeSlice t n q=>
  split
  ·split
   ·simp only[bY];rfl
   ·rfl
  ·rfl
 case buildSlice t n ps=>
  split
  ·split
   ·simp only[bY]
    congr 1
    ·congr 1
     split<;>rfl
    ·congr 1
     split<;>rfl
   ·rfl
  ·rfl
 case slice t x lo hi mx=>
  rw[bY]
  congr 1
  ·split
   ·exact abR _ _ _ _ _ _
   ·rfl
  split
  ·split
   ·exact Qq _ _ _ _ _
   ·rfl
  ·split
   ·exact Wu _ _ _ _ _ _
   ·rfl
  ·split
   ·exact TW _ _ _ _ _ _
   ·rfl
  ·rfl
 case alloc t=>split<;>rfl
 case box t x=>
  split
  ·simp only[bY];rfl
  ·rfl
 case build t ps=>
  split
  ·split
   ·split<;>rfl
   ·rfl
  ·rfl
 case fieldAddr t x f=>
  split
  ·split<;>rfl
  ·split<;>rfl
  ·rfl
  ·rfl
 case field t x f=>
  split
  ·split
   ·simp only[bY]
    congr 1
    split<;>rfl
   ·rfl
  ·rfl
 case call q=>
  split
  ·split
   ·exact ZC _ _ _ _
   ·split
    ·exact OH _ _ _ _ _
    ·exact ZB _ _ _ _ _
  ·split
   ·exact OH _ _ _ _ _
   ·rfl
  ·rw [bY,Qr];rfl
  ·rfl
theorem WA (C:ak)(T:dH){s s':S}{o:Oper}(hm:s'.m=s.m)(h:∀x∈o.op.operands,s'.gJ x=s.gJ x)(c:SV→Mem→Option R):evalOp C T s' o c=evalOp C T s o c:=by
 obtain⟨dst,op,ty,pos,after,guard⟩:=o
 have jm:∀{β:Type} (f:Nat→SV→β) (ps:Array (Nat×Operand)),(∀x∈(ps.toList.map (·.2)).toArray,s'.gJ x=s.gJ x)→ps.toList.map (fun p=>f p.1 (s'.gJ p.2))=ps.toList.map (fun p=>f p.1 (s.gJ p.2)):=fun f ps hp=>
  List.map_congr_left fun p hp'=>by rw[hp p.2 (by simpa using⟨p.1,by simpa using hp'⟩)]
 cases op<;>simp only[Op.operands]at h<;>simp only[evalOp,hm]<;>try rfl
 case build t ps=>rw[jm (fun i v=>v.cmp?.map fun v=>(i,v)) ps h]
 case buildSlice t n ps=>rw[jm (fun i v=>v.cmp?) ps h]
 case call q=>
  have hq:q.args.toList.map s'.gJ=q.args.toList.map s.gJ:=List.map_congr_left fun x hx=>h x (by simp[Call.operands];exact .inr (by simpa using hx))
  rw[hq]
  cases hc:q.callee with
  |value f=>
   cases f with
   |tmp t=>
    have ht:s'.gJ (.tmp t)=s.gJ (.tmp t):=h (.tmp t) (by simp[Call.operands,hc])
    simp only[ht]
   |_=>rfl
  |_=>rfl
 case slice t x lo hi mx=>
  have ho:∀y:Option Operand,(∀z,y=some z→s'.gJ z=s.gJ z)→o_ s' y=o_ s y:=fun y hy=>by cases y with|none=>rfl|some z=>simp[o_,hy z rfl]
  rw[ho lo (fun z e=>h z (by simp[e])),ho hi (fun z e=>h z (by simp[e])),ho mx (fun z e=>h z (by simp[e])),h x (by simp)]
 all_goals (simp_all;done)
end
def mk (v:SV)(m:Mem):Option (SV×Mem):=some (v,m)
def og (ids:List Nat)(m m':Mem):Prop:=(∀i,2*i∈ids→m'.row? i=m.row? i)∧(∀i,2*i+1∈ids→m'.box? i=m.box? i)
theorem og.sub {x y:List Nat}{m m':Mem}(h:og y m m')(hs:∀i∈x,i∈y):og x m m':=⟨fun i hi=>h.1 i (hs _ hi),fun i hi=>h.2 i (hs _ hi)⟩
section
variable {T:dH} {C:ak} {m m2:Mem}
theorem ku {k:K}{l:aT}(h:og (lV [l]) m m2):bP m2 k l=bP m k l:=by
 cases l with
 |own r=>simp only[bP];rw[h.1 r (by simp[lV])]
 |_=>rfl
theorem Lm {l:aT}{ls:List aT}(hl:l∈ls):∀i∈lV [l],i∈lV ls:=by
 intro i hi
 cases l with
 |own r=>
  simp[lV]at hi;subst hi
  exact List.mem_filterMap.2 ⟨.own r,hl,rfl⟩
 |_=>simp[lV]at hi
theorem uU:∀{k:K} {ls:List aT},og (lV ls) m m2→bM m2 k ls=bM m k ls
 | .prod a b,ls,h=>by
  simp only[bM]
  have h1:∀l':List aT,(∀l∈l',l∈ls)→og (lV l') m m2:=fun l' hs=>h.sub fun i hi=>by
   obtain⟨l,hl,he⟩:=List.mem_filterMap.1 hi
   exact List.mem_filterMap.2 ⟨l,hs l hl,he⟩
  rw[uU (h1 _ fun l hl=>List.mem_of_mem_take hl),uU (h1 _ fun l hl=>List.mem_of_mem_drop hl)]
 | .unit,ls,h=>rfl
 | .int q,ls,h=>by
  match ls with
  |[]=>rfl
  |[l]=>exact ku h
  |_::_::_=>rfl
 | .bool,ls,h=>by
  match ls with
  |[]=>rfl
  |[l]=>exact ku h
  |_::_::_=>rfl
 | .str,ls,h=>by
  match ls with
  |[]=>rfl
  |[l]=>exact ku h
  |_::_::_=>rfl
 | .raw,ls,h=>by
  match ls with
  |[]=>rfl
  |[l]=>exact ku h
  |_::_::_=>rfl
 | .hd,ls,h=>by
  match ls with
  |[]=>rfl
  |[l]=>exact ku h
  |_::_::_=>rfl
 | .Ce _,ls,h=>by
  match ls with
  |[]=>rfl
  |[l]=>exact ku h
  |_::_::_=>rfl
 | .sl _ _,ls,h=>by
  match ls with
  |[]=>rfl
  |[l]=>exact ku h
  |_::_::_=>rfl
theorem wX:∀{ps:List (Bool×K)} {cs:List lM},og (cs.flatMap fun c=>lV c.leaves) m m2→bQ m2 ps cs=bQ m ps cs
 |[],[],_=>rfl
 |[],_::_,_=>rfl
 |_::_,[],_=>rfl
 |p::ps,c::cs,h=>by
  simp only[bQ]
  rw[uU (h.sub fun i hi=>by simp[hi]),wX (h.sub fun i hi=>by simp only[List.flatMap_cons,List.mem_append];exact .inr hi)]
theorem Hq {own fr:Bool}:∀{rs:List (Bool×K)} (y:eH rs) (n n':Nat),rs.all (fun p=>p.2.flat)=true→jh own fr n rs y=jh own fr n' rs y∧∀q,jh own fr n rs y=some q→q.2=[]
 |[],y,n,n',h=>⟨rfl,fun q hq=>by simp[jh]at hq;subst hq;rfl⟩
 |p::rs,y,n,n',h=>by
  simp only[List.all_cons,Bool.and_eq_true]at h
  have flat:∀(k:K) (x:k.T) (n:Nat),k.flat=true→aN n (bf true k x)=(bf true k x,[]):=by
   intro k
   induction k with
   |prod a b iha ihb=>
    intro x n hf
    simp only[K.flat,Bool.and_eq_true]at hf
    have app:∀(x y:List aT) (n:Nat),(∀n,aN n x=(x,[]))→(∀n,aN n y=(y,[]))→aN n (x++y)=(x++y,[]):=by
     intro x y n hx hy
     induction x generalizing n with
     |nil=>exact hy n
     |cons l x ih=>
      have h1:=hx n
      match l with
      | .val fr (.sl e k) xs=>simp[aN]at h1
      | .val fr (.int q) xs=>
       have h2:∀n,aN n x=(x,[]):=fun n=>by have:=hx n;simp only[aN]at this;injection this with e1 e2;exact Prod.ext (by injection e1) e2
       simp only[List.cons_append,aN,ih n h2]
      | .val fr .raw xs=>
       have h2:∀n,aN n x=(x,[]):=fun n=>by have:=hx n;simp only[aN]at this;injection this with e1 e2;exact Prod.ext (by injection e1) e2
       simp only[List.cons_append,aN,ih n h2]
      | .val fr .hd xs=>
       have h2:∀n,aN n x=(x,[]):=fun n=>by have:=hx n;simp only[aN]at this;injection this with e1 e2;exact Prod.ext (by injection e1) e2
       simp only[List.cons_append,aN,ih n h2]
      | .val fr (.Ce g) xs=>
       have h2:∀n,aN n x=(x,[]):=fun n=>by have:=hx n;simp only[aN]at this;injection this with e1 e2;exact Prod.ext (by injection e1) e2
       simp only[List.cons_append,aN,ih n h2]
      | .val fr .bool xs=>
       have h2:∀n,aN n x=(x,[]):=fun n=>by have:=hx n;simp only[aN]at this;injection this with e1 e2;exact Prod.ext (by injection e1) e2
       simp only[List.cons_append,aN,ih n h2]
      | .val fr .str xs=>
       have h2:∀n,aN n x=(x,[]):=fun n=>by have:=hx n;simp only[aN]at this;injection this with e1 e2;exact Prod.ext (by injection e1) e2
       simp only[List.cons_append,aN,ih n h2]
      | .val fr .unit xs=>
       have h2:∀n,aN n x=(x,[]):=fun n=>by have:=hx n;simp only[aN]at this;injection this with e1 e2;exact Prod.ext (by injection e1) e2
       simp only[List.cons_append,aN,ih n h2]
      | .val fr (.prod a b) xs=>
       have h2:∀n,aN n x=(x,[]):=fun n=>by have:=hx n;simp only[aN]at this;injection this with e1 e2;exact Prod.ext (by injection e1) e2
       simp only[List.cons_append,aN,ih n h2]
      | .nil=>
       have h2:∀n,aN n x=(x,[]):=fun n=>by have:=hx n;simp only[aN]at this;injection this with e1 e2;exact Prod.ext (by injection e1) e2
       simp only[List.cons_append,aN,ih n h2]
      | .own q=>
       have h2:∀n,aN n x=(x,[]):=fun n=>by have:=hx n;simp only[aN]at this;injection this with e1 e2;exact Prod.ext (by injection e1) e2
       simp only[List.cons_append,aN,ih n h2]
    exact app _ _ n (fun n=>iha _ n hf.1) (fun n=>ihb _ n hf.2)
   |sl e k ih=>intro x n hf;simp[K.flat]at hf
   |_=>intro x n _;rfl
  have key:∀n,(if own then aN n (bf true p.2 y.1)else(bf fr p.2 y.1,[]))=((if own then bf true p.2 y.1 else bf fr p.2 y.1),[]):=by
   intro n
   cases own with
   |true=>exact flat _ _ _ h.1
   |false=>rfl
  simp only[jh,key]
  obtain⟨h1,h2⟩:=Hq (own:=own) (fr:=fr) y.2 n n' h.2
  simp only[List.length_nil,Nat.add_zero]
  rw[←h1]
  refine⟨rfl,fun q hq=> ?_⟩
  cases hm:GL p.1 (if own=true then bf true p.2 y.1 else bf fr p.2 y.1)with
  |none=>simp[hm]at hq
  |some c=>
   cases ht:jh own fr n rs y.2 with
   |none=>simp[hm,ht]at hq
   |some z=>
    simp only[hm,ht]at hq
    obtain rfl:=Option.some.inj hq
    simpa using h2 z ht
theorem NK {n:Nat}{x:aT}{i:Int}{R:Type}{c:SV→Option R}(h:og (lV [x]) m m2):rJ m2 n x i c=rJ m n x i c:=by
 cases x with
 |own r=>simp only[rJ];rw[h.1 r (by simp[lV])]
 |val fr k xs=>cases k<;>rfl
 |nil=>rfl
theorem part?_sub {x:SV}{q o len:Nat}(h:x.part? =some (q,o,len)):x.owns=[2*q]:=by
 cases x<;>simp[SV.part?]at h
 obtain⟨rfl,rfl,rfl⟩:=h
 rfl
theorem Qs {n:Nat}{x:SV}{i:Int}{R:Type}{c:SV→Option R}(h:og x.owns m m2):zB m2 n x i c=zB m n x i c:=by
 unfold zB
 split
 ·rename_i q o len hp
  rw[h.1 q (by rw[part?_sub hp];simp)]
 ·rfl
theorem TY {src dst:TypeId}{x:aT}{R:Type}{c:aT→Option R}(h:og (lV [x]) m m2):Ba T m2 src dst x c=Ba T m src dst x c:=by
 cases x with
 |own r=>
  have e:=h.1 r (by simp[lV])
  unfold Ba
  split<;>first|rfl|(rename_i h1 h2 h3;cases h3;done)|(rename_i h1 h2 h3;cases h3;rw[e])|(simp_all;done)
 |val fr k xs=>unfold Ba;split<;>first|rfl|(rename_i h1 h2;cases h2)|(split<;>first|rfl|simp_all)
 |nil=>unfold Ba;split<;>first|rfl|simp_all
theorem Dw {x:aT}(h:og (lV [x]) m m2):rH m2 x=rH m x:=by
 cases x with
 |own r=>simp only[rH];rw[h.1 r (by simp[lV])]
 |val fr k xs=>cases k<;>rfl
 |nil=>rfl
theorem T_ {t:TypeId}{x:SV}{R:Type}{c:SV→Option R}(h:og x.owns m m2):Du T m2 t x c=Du T m t x c:=by
 cases x with
 |Dt r i o=>simp only[Du];rw[h.1 r (by simp[SV.owns])]
 |box b o=>simp only[Du];rw[h.2 b (by simp[SV.owns])]
 |_=>rfl
theorem leaf?Dx {v:SV}{l:aT}(h:v.leaf? =some l):v.owns=lV [l]:=by
 unfold SV.leaf? at h
 split at h
 ·obtain rfl:=Option.some.inj h;rfl
 ·cases h
theorem cmp?Dx {v:SV}{c:lM}(h:v.cmp? =some c):v.owns=lV c.leaves:=by
 unfold SV.cmp? at h
 split at h
 ·obtain rfl:=Option.some.inj h;rfl
 ·cases h
theorem Fj (s:S)(m2:Mem)(x:Operand):(⟨s.fr,m2⟩:S).gJ x=s.gJ x:=by cases x<;>rfl
theorem OI {α:Type}{n:Nat}{take drop:Nat→α→α}{x:α}{lo hi:Option Int}{g:α→SV}{m0 m':Mem}{sv:SV}(h:EF n take drop x lo hi (fun y=>mk (g y) m0)=some (sv,m')):
  m'=m0∧∀m2,EF n take drop x lo hi (fun y=>mk (g y) m2)=some (sv,m2):=by
 have one:∀{v:SV},mk v m0=some (sv,m')→m'=m0∧∀m2,mk v m2=some (sv,m2):=by
  intro v h
  simp only[mk,Option.some.injEq,Prod.mk.injEq]at h
  exact⟨h.2.symm,fun m2=>by simp only[mk,h.1]⟩
 cases lo<;>cases hi<;>simp only[EF]at h⊢
 ·exact one h
 all_goals
  obtain⟨hb,h⟩:=aG h
  rw[hb]
  exact one h
theorem OJ {s:S}:∀{l:List Operand} {cs:List lM},iV ((l.map s.gJ).map SV.cmp?)=some cs→(l.flatMap fun x=>(s.gJ x).owns)=cs.flatMap fun c=>lV c.leaves:=by
 intro l cs h
 have h1:=kN h
 clear h
 induction l generalizing cs with
 |nil=>cases cs with
  |nil=>rfl
  |cons=>simp at h1
 |cons a l ih=>cases cs with
  |nil=>simp at h1
  |cons c cs=>
   simp only[List.map_cons,List.cons.injEq]at h1
   simp only[List.flatMap_cons]
   rw[cmp?Dx h1.1,ih h1.2]
theorem Lp {n:Nat}{x:SV}{lo hi:Option Int}{sv:SV}{m':Mem}(h:Ny m n x lo hi mk=some (sv,m')):m'=m∧∀m2,og x.owns m m2→Ny m2 n x lo hi mk=some (sv,m2):=by
 unfold Ny at h
 split at h
 case h_2=>cases h
 rename_i r hl
 cases hr:m.row? r with
 |none=>simp[hr]at h
 |some row=>
  simp only[hr]at h
  obtain⟨hb,h⟩:=aG h
  simp only[mk,Option.some.injEq,Prod.mk.injEq]at h
  refine⟨h.2.symm,fun m2 ha=> ?_⟩
  unfold Ny
  rw[hl]
  simp only[ha.1 r (by rw[leaf?Dx hl];simp[lV]),hr,hb,cond_true,mk,h.1]
theorem ZE {ls:List aT}(h:Ol ls=true):lV ls=[]:=by
 refine List.filterMap_eq_nil_iff.2 fun l hl=> ?_
 have:=List.all_eq_true.1 h l hl
 cases l<;>first|rfl|simp at this
theorem BI {k:K}:∀{cs:List lM},og (lV (aB cs)) m m2→ji m2 k cs=ji m k cs
 |[],_=>rfl
 |c::cs,h=>by
  have e:lV (aB (c::cs))=lV c.leaves++lV (aB cs):=by simp[aB,lV,List.filterMap_append]
  rw[e]at h
  simp only[ji]
  rw[uU (h.sub fun i hi=>List.mem_append_left _ hi),BI (h.sub fun i hi=>List.mem_append_right _ hi)]
theorem Fp {l:aT}(h:og (lV [l]) m m2):fK m2 l=fK m l:=by
 cases l with
 |own r=>simp only[fK];rw[h.1 r (by simp[lV])]
 |_=>rfl
theorem xY {s:S}{o:Oper}(hw:isW C s o=false){sv:SV}{m':Mem}(h:evalOp C T s o mk=some (sv,m')):
  m'=s.m∧∀m2,og (zC s o) s.m m2→evalOp C T ⟨s.fr,m2⟩ o mk=some (sv,m2):=by
 obtain⟨dst,op,ty,pos,after,guard⟩:=o
 have bnd:∀{α:Type} {F:Option α} {g:α→SV},(F.bind fun l=>mk (g l) s.m)=some (sv,m')→m'=s.m∧∀m2,(F.bind fun l=>mk (g l) m2)=some (sv,m2):=by
  intro α F g h
  cases F with
  |none=>simp at h
  |some l=>
   simp only[Option.bind_some,mk,Option.some.injEq,Prod.mk.injEq]at h
   exact⟨h.2.symm,fun m2=>by simp only[Option.bind_some,mk,h.1]⟩
 have one:∀{v:SV},mk v s.m=some (sv,m')→m'=s.m∧∀m2,mk v m2=some (sv,m2):=by
  intro v h
  simp only[mk,Option.some.injEq,Prod.mk.injEq]at h
  exact⟨h.2.symm,fun m2=>by simp only[mk,h.1]⟩
 cases op<;>simp only[isW]at hw<;>try (cases hw;done)
 all_goals simp only[evalOp,zC,Fj]at h⊢
 all_goals try (cases h;done)
 case move x=>exact⟨(one h).1,fun m2 _=>(one h).2 m2⟩
 case assign x=>exact⟨(one h).1,fun m2 _=>(one h).2 m2⟩
 case pick q a b=>
  cases hq:(s.gJ q).bool? with
  |none=>simp[hq]at h
  |some b'=>
   simp only[hq]at h⊢
   cases b'<;>exact⟨(one h).1,fun m2 _=>(one h).2 m2⟩
 case binOp op xt x y yt=>
  split at h
  ·rename_i lx ly h1 h2
   try simp only[h1,h2]
   rw[Fh]at h
   exact⟨(bnd h).1,fun m2 _=>by rw[Fh];exact(bnd h).2 m2⟩
  ·rename_i h1 h2
   try simp only[h1,h2]
   split at h
   ·rename_i v hv
    try simp only[hv]
    exact⟨(one h).1,fun m2 _=>(one h).2 m2⟩
   ·cases h
  ·cases h
 case nilCheck x=>
  obtain⟨hp,h⟩:=aG h
  refine⟨(one h).1,fun m2 ha=> ?_⟩
  have hp2:SG m2 (s.gJ x)=true:=by
   revert ha hp
   generalize s.gJ x=sv
   intro hp ha
   cases sv<;>simp only[SG]at hp⊢<;>try (cases hp;done)
   rename_i r i q
   rw[ha.1 r (by simp[SV.owns])];exact hp
  simp only[hp2,cond_true]
  exact(one h).2 m2
 case unOp op xt x=>
  split at h
  ·rename_i lx h1
   try simp only[h1]
   rw[JU]at h
   exact⟨(bnd h).1,fun m2 _=>by rw[JU];exact(bnd h).2 m2⟩
  ·cases h
 case convert src dst x=>
  split at h
  ·rename_i lx h1
   try simp only[h1]
   rw[CQ]at h
   exact⟨(bnd h).1,fun m2 ha=>by rw[TY (m:=s.m) (by rw[←leaf?Dx h1];exact ha),CQ];exact(bnd h).2 m2⟩
  ·cases h
 case extract x i=>
  split at h
  ·rename_i cs h1
   split at h
   ·rename_i v h2
    try simp only[h1,h2]
    exact⟨(one h).1,fun m2 _=>(one h).2 m2⟩
   ·cases h
  ·rename_i hd cs h1
   try simp only[h1]
   split at h
   ·exact ⟨(one h).1,fun m2 _=>(one h).2 m2⟩
   ·split at h
    ·rename_i v h2
     try simp only[h2]
     exact⟨(one h).1,fun m2 _=>(one h).2 m2⟩
    ·cases h
  ·cases h
 case indexAddr t x i=>
  cases XQ:Xz C t x with
  |some tb=>
   simp only[XQ]at h
   have e:Nw tb (s.gJ i).int? (fun v=>mk v s.m)=some (sv,m'):=h
   cases hi:(s.gJ i).int? with
   |none=>rw[hi]at e;simp[Nw]at e
   |some ix=>
    rw[hi]at e
    unfold Nw at e
    simp only at e
    obtain⟨hb,e⟩:=aG e
    refine⟨(one e).1,fun m2 _=> ?_⟩
    simp only[Nw,hb,cond_true]
    exact(one e).2 m2
  |none=>
  simp only[XQ]at h
  simp only[]
  split at h
  ·rename_i n lx ix h1 h2 h3
   try simp only[h1,h2,h3]
   rw[xX]at h
   exact⟨(bnd (g:=id) h).1,fun m2 ha=>by rw[NK (m:=s.m) (by rw[←leaf?Dx h2];exact ha),xX];exact(bnd (g:=id) h).2 m2⟩
  ·rename_i n ix h1 h2 h3
   try simp only[h1,h2,h3]
   cases hb:XA (s.gJ x)with
   |true=>
    simp only[hb,cond_true]at h⊢
    rw[zQ]at h
    exact⟨(bnd (g:=id) h).1,fun m2 ha=>by rw[zQ];exact(bnd (g:=id) h).2 m2⟩
   |false=>
   simp only[hb,cond_false]at h⊢
   rw[zS]at h
   exact⟨(bnd (g:=id) h).1,fun m2 ha=>by rw[Qs (m:=s.m) ha,zS];exact(bnd (g:=id) h).2 m2⟩
  ·cases h
 case index t x i=>
  split at h
  ·rename_i k ag by' fr xs ix h1 h2 h3
   try simp only[h1,h2,h3]
   obtain⟨hb,h⟩:=aG h
   rw[hb]
   exact⟨(one h).1,fun m2 _=>(one h).2 m2⟩
  ·cases h
 case buildSlice t n ps=>
  have hw:KE C dst=true:=by simpa using hw
  split at h
  case h_2=>cases h
  rename_i e e' k ag by' hT
  split at h
  case h_2=>cases h
  rename_i cs sW
  rw[hw]at h
  simp only[cond_true]at h
  obtain⟨hb,h⟩:=aG h
  split at h
  case h_2=>cases h
  rename_i xs hp
  refine⟨(one h).1,fun m2 _=> ?_⟩
  have Vu:Ol (aB cs)=true:=(Bool.and_eq_true _ _▸hb).2
  have ha:og (lV (aB cs)) s.m m2:=by rw[ZE Vu];exact⟨fun i hi=>by simp at hi,fun i hi=>by simp at hi⟩
  have hf:(aB cs).all (fK m2)=(aB cs).all (fK s.m):=by
   refine Bool.eq_iff_iff.2 ?_
   simp only[List.all_eq_true]
   exact⟨fun h l hl=>by rw[←Fp (m:=s.m) (m2:=m2) (ha.sub (Lm hl))];exact h l hl,fun h l hl=>by rw[Fp (m:=s.m) (m2:=m2) (ha.sub (Lm hl))];exact h l hl⟩
  simp only[hT,sW,hw,cond_true,hb,BI ha,hp,hf]
  exact(one h).2 m2
 case load t x=>
  rw[CU]at h
  exact⟨(bnd (g:=id) h).1,fun m2 ha=>by rw[T_ (m:=s.m) ha,CU];exact(bnd (g:=id) h).2 m2⟩
 case slice t x lo hi mx=>
  have ho:∀(m2:Mem) (y:Option Operand),o_ ⟨s.fr,m2⟩ y=o_ s y:=fun m2 y=>by cases y with|none=>rfl|some z=>simp[o_,Fj]
  simp only[ho]
  rcases mP h with⟨hs,h⟩|⟨hs,h⟩
  ·rw [hs]
   simp only[cond_true]
   split at h
   case h_2=>cases h
   rename_i n l q hn h2 h3 h4
   try simp only[hn,h2,h3,h4]
   exact⟨(Lp h).1,fun m2 ha=>(Lp h).2 m2 ha⟩
  rw[hs]at hw⊢
  simp only[cond_false]at hw⊢
  split at h
  ·rename_i fr xs l q h1 h2 h3 h4
   try simp only[h1,h2,h3,h4]
   split at h
   case h_2=>cases h
   rename_i k ag by' hT
   try simp only[hT]
   unfold qC at h⊢
   simp only at h⊢
   obtain⟨hb,h⟩:=aG h
   rw[hb]
   exact⟨(one h).1,fun m2 _=>(one h).2 m2⟩
  ·rename_i lx l q hns h1 h2 h3 h4
   rw[h1]at hw
   split at h
   case h_2=>cases h
   rename_i n hn
   try simp only[h2,h3,h4]
   cases lx with
   |own r=>simp at hw
   |nil=>simp[qw]at h
   |val fr k xs=>
    cases k<;>simp only[qw]at h<;>try (cases h;done)
    obtain⟨hb,h⟩:=aG h
    try simp only[h1,hn,qw,hb,cond_true]
    exact⟨(OI h).1,fun m2 _=>(OI h).2 m2⟩
  ·rename_i lx l q h1 h2 h3 h4
   split at h
   case h_2=>cases h
   rename_i n hn
   try simp only[h2,h3,h4]
   cases lx with
   |own r=>simp[mV]at h
   |nil=>simp[mV]at h
   |val fr k xs=>
    cases k<;>simp only[mV]at h<;>try (cases h;done)
    obtain⟨hb,h⟩:=aG h
    obtain⟨Qa,h⟩:=aG h
    try simp only[h1,hn,mV,hb,Qa,cond_true]
    exact⟨(one h).1,fun m2 _=>(one h).2 m2⟩
  ·cases h
 case build t ps=>
  split at h
  ·rename_i fs k hT
   split at h
   ·rename_i cs h1
    split at h
    ·rename_i ls h2
     try simp only[hT,h1,h2]
     exact⟨(one h).1,fun m2 _=>(one h).2 m2⟩
    ·cases h
   ·cases h
  ·cases h
 case fieldAddr t x f=>
  split at h
  ·rename_i o ft ls h1 h2
   split at h
   ·rename_i ag n h3
    try simp only[h1,h2,h3]
    exact⟨(one h).1,fun m2 _=>(one h).2 m2⟩
   ·cases h
  ·rename_i o ft r i o' h1 h2
   split at h
   ·rename_i row h3
    try simp only[h1,h2]
    refine⟨(one h).1,fun m2 ha=> ?_⟩
    rw[ha.1 r (by simp[SV.owns]),h3]
    exact(one h).2 m2
   ·cases h
  ·rename_i o ft b o' h1 h2
   try simp only[h1,h2]
   exact⟨(one h).1,fun m2 _=>(one h).2 m2⟩
  ·cases h
 case field t x f=>
  split at h
  ·rename_i o ft ls h1 h2
   split at h
   ·rename_i ag n h3
    obtain⟨hb,h⟩:=aG h
    split at h
    ·rename_i v h4
     try simp only[h1,h2,h3,hb,cond_true,h4]
     exact⟨(one h).1,fun m2 _=>(one h).2 m2⟩
    ·cases h
   ·cases h
  ·cases h
 case call q=>
  have hq:∀m2:Mem,q.args.toList.map (⟨s.fr,m2⟩:S).gJ=q.args.toList.map s.gJ:=fun m2=>List.map_congr_left fun x _=>Fj s m2 x
  simp only[hq]
  split at h
  ·rename_i g hg
   rw[hg]at hw
   simp only[Bool.or_eq_false_iff]at hw
   obtain⟨hX,hio,hw⟩:=hw
   have hX:C.x g (DT (q.args.toList.map s.gJ))=none:=by simpa using hX
   have hio:C.io g=none:=by simpa using hio
   simp only[hX,hio]at h
   simp only[hg,hX,hio]
   cases hC:C g with
   |none=>rw[hC]at hw;simp at hw
   |some sg=>
    rw[hC]at hw
    simp only[Bool.not_eq_eq_eq_not,Bool.not_false,XB,Bool.and_eq_true,Bool.not_eq_true']at hw
    unfold wL at h⊢
    rw[hC]at h⊢
    cases sW:iV ((q.args.toList.map s.gJ).map SV.cmp?)with
    |none=>rw[sW]at h;cases h
    |some cs=>
     rw[sW]at h
     have hw1:sg.md.isShared=false:=by simpa using hw.1
     simp only[hw1,Bool.false_eq_true,if_false,Bool.not_false,Bool.true_or]at h⊢
     obtain⟨hb,h⟩:=aG h
     try simp only[hg,hb,cond_true]
     cases hx:bQ s.m sg.ps cs with
     |none=>simp[hx]at h
     |some x=>
      try simp only[hx]at h
      obtain⟨y,hy,h⟩:=Option.bind_eq_some_iff.1 h
      cases ht:jh sg.md.vI true s.m.rows.length sg.rs y with
      |none=>simp[ht]at h
      |some z=>
       try simp only[ht]at h
       have hz:=(Hq (own:=sg.md.vI) (fr:=true) y s.m.rows.length s.m.rows.length hw.2).2 z ht
       rw[hz]at h
       simp only[List.append_nil]at h
       have h':mk (Dj z.1) s.m=some (sv,m'):=h
       refine⟨(one h').1,fun m2 ha=> ?_⟩
       have dM:(q.args.toList.flatMap fun x=>(s.gJ x).owns)=cs.flatMap fun c=>lV c.leaves:=OJ sW
       rw[wX (m:=s.m) (by rw[←dM];exact ha),hx]
       simp only[hy,Option.bind_some]
       rw[←(Hq (own:=sg.md.vI) (fr:=true) y s.m.rows.length m2.rows.length hw.2).1,ht]
       simp only[hz,List.append_nil]
       exact(one h').2 m2
  ·rename_i t hg
   rw[hg]at hw
   cases hw
  ·rename_i b hg
   rw[hg]at hw
   cases b<;>simp at hw
   obtain⟨hb,h⟩:=aG h
   try simp only[hg,hb,cond_true]
   unfold jv at h⊢
   split at h
   ·rename_i fr xs _ heq
    try simp only[heq]
    split at h
    ·rename_i k ag by' hT
     try simp only[hT]
     exact⟨(one h).1,fun m2 _=>(one h).2 m2⟩
    ·cases h
   ·rename_i l hns _ heq
    split at h
    ·rename_i e k ag by' n hT hn
     refine⟨(one h).1,fun m2 ha=> ?_⟩
     have hl:rH m2 l=rH s.m l:=Dw (ha.sub fun i hi=>by
      have hex:∃x∈q.args.toList,s.gJ x= .one (.lf l):=by
       have:SV.one (.lf l)∈q.args.toList.map s.gJ:=by rw[heq];simp
       simpa using this
      obtain⟨x,Qc,hx2⟩:=hex
      exact List.mem_flatMap.2 ⟨x,Qc,by rw[hx2];exact hi⟩)
     simp only[hl,hT,hn]
     exact(one h).2 m2
    ·cases h
   ·rename_i n j z _ heq
    try simp only[heq]
    split at h
    ·rename_i e k ag by' hT
     try simp only[hT]
     exact⟨(one h).1,fun m2 _=>(one h).2 m2⟩
    ·cases h
   ·simp_all
   ·simp_all
   ·simp_all
   ·cases h
  ·cases h
end
section
variable {T:dH} {C:ak} {m m2:Mem}
structure Leaves (ids:List Nat) (m m':Mem):Prop where
 rows:∀i,i<m.rows.length→2*i∉ids→m'.row? i=m.row? i
 boxes:∀i,i<m.boxes.length→2*i+1∉ids→m'.box? i=m.box? i
 lr:m.rows.length≤m'.rows.length
 lb:m.boxes.length≤m'.boxes.length
theorem Leaves.refl (ids:List Nat)(m:Mem):Leaves ids m m:=⟨fun _ _ _=>rfl,fun _ _ _=>rfl,Nat.le_refl _,Nat.le_refl _⟩
theorem Leaves.trans {x:List Nat}{m m1 m2:Mem}(h:Leaves x m m1)(k:Leaves x m1 m2):Leaves x m m2:=
 ⟨fun i hi hn=>(k.rows i (Nat.lt_of_lt_of_le hi h.lr) hn).trans (h.rows i hi hn),fun i hi hn=>(k.boxes i (Nat.lt_of_lt_of_le hi h.lb) hn).trans (h.boxes i hi hn),Nat.le_trans h.lr k.lr,Nat.le_trans h.lb k.lb⟩
theorem Leaves.mono {x y:List Nat}{m m':Mem}(h:Leaves x m m')(hs:∀i∈x,i∈y):Leaves y m m':=
 ⟨fun i hi hn=>h.rows i hi fun hx=>hn (hs _ hx),fun i hi hn=>h.boxes i hi fun hx=>hn (hs _ hx),h.lr,h.lb⟩
theorem Leaves.freeze (l:aT):Leaves (lV [l]) m (m.freeze l):=by
 cases l with
 |own r=>
  refine⟨fun i hi hn=> ?_,fun _ _ _=>rfl,by simp[Mem.freeze],Nat.le_refl _⟩
  rw[row?vT,if_neg]
  intro e;subst e;simp[lV]at hn
 |_=>exact Leaves.refl _ _
theorem Leaves.aI:∀(ls:List aT) (m:Mem),Leaves (lV ls) m (m.aI ls)
 |[],m=>Leaves.refl _ _
 |l::ls,m=>by
  have h1:Leaves (lV (l::ls)) m (m.freeze l):=(Leaves.freeze l).mono fun i hi=>Lm (by simp) i hi
  have h2:Leaves (lV (l::ls)) (m.freeze l) ((m.freeze l).aI ls):=(Leaves.aI ls (m.freeze l)).mono fun i hi=>by
   obtain⟨l',hl,he⟩:=List.mem_filterMap.1 hi
   exact List.mem_filterMap.2 ⟨l',by simp[hl],he⟩
  exact h1.trans h2
theorem Leaves.set (r:Nat)(x:Option Row):Leaves [2*r] m ⟨m.rows.set r x,m.boxes⟩:=
 ⟨fun i hi hn=>by rw[row?_set,if_neg];rintro⟨rfl,_⟩;simp at hn,fun _ _ _=>rfl,by simp,Nat.le_refl _⟩
theorem Leaves.ai6 (b:Nat)(x:Option pF):Leaves [2*b+1] m ⟨m.rows,m.boxes.set b x⟩:=
 ⟨fun _ _ _=>rfl,fun i hi hn=>by rw[box?_set,if_neg];rintro⟨rfl,_⟩;simp at hn,Nat.le_refl _,by simp⟩
theorem Leaves.add (l:List (Option Row)):Leaves [] m ⟨m.rows++l,m.boxes⟩:=
 ⟨fun i hi _=>by rw[row?Jj,if_pos hi],fun _ _ _=>rfl,by simp,Nat.le_refl _⟩
theorem Leaves.P9 (l:List (Option pF)):Leaves [] m ⟨m.rows,m.boxes++l⟩:=
 ⟨fun _ _ _=>rfl,fun i hi _=>by rw[box?Jj,if_pos hi],Nat.le_refl _,by simp⟩
theorem Leaves.newRow {row:Row}{sv:SV}{m':Mem}(h:newRow m row Go.Fx.mk=some (sv,m')):Leaves [] m m':=by
 simp only[Go.Fx.newRow,Go.Fx.mk,Option.some.injEq,Prod.mk.injEq]at h
 rw[←h.2];exact Leaves.add _
theorem uF (cs:List lM):lV (aB cs)=cs.flatMap fun c=>lV c.leaves:=by
 induction cs with
 |nil=>rfl
 |cons c cs ih=>simp only[aB,List.flatMap_cons,lV,List.filterMap_append]at ih⊢;rw[ih]
theorem Leaves.uG {x:List Nat}{m m':Mem}(h:Leaves [] m m'):Leaves x m m':=h.mono fun i hi=>by simp at hi
theorem OL (m:Mem)(v:SV):∀i∈v.owns,i∈v.deep m:=by
 intro i hi
 cases v with
 |box b o=>simp[SV.owns]at hi;subst hi;exact List.mem_cons_self
 |_=>exact hi
theorem WB {r:Nat}{ls:List aT}(h:r∈nC ls):2*r∈lV ls:=by
 obtain⟨l,hl,he⟩:=List.mem_filterMap.1 h
 cases l<;>simp at he
 subst he
 exact List.mem_filterMap.2 ⟨_,hl,rfl⟩
theorem ZF:∀{qh:List SV} {cs:List lM},iV (qh.map SV.cmp?)=some cs→∀i∈lV (aB cs),i∈qh.flatMap SV.owns:=by
 intro qh cs h i hi
 rw[uF]at hi
 have h1:=kN h
 clear h
 induction qh generalizing cs with
 |nil=>cases cs with
  |nil=>exact hi
  |cons=>simp at h1
 |cons v qh ih=>cases cs with
  |nil=>simp at h1
  |cons c cs=>
   simp only[List.map_cons,List.cons.injEq]at h1
   simp only[List.flatMap_cons,List.mem_append]at hi⊢
   rcases hi with hi|hi
   ·exact .inl (by rw[cmp?Dx h1.1];exact hi)
   ·exact .inr (ih hi h1.2)
theorem ZG (gy:Option Bf)(gK:Bool)(qh:List SV):∀v∈aaY gy gK qh,v∈qh:=by
 intro v hv
 cases gy<;>cases gK<;>first|exact hv|exact List.mem_of_mem_drop hv
theorem Ht {gy:Option Bf}{gK:Bool}{qh:List SV}{p:Option Nat×List aT×rO gy}(h:VG m gy gK qh=some p):
  (p.1=none∧p.2.1=[])∨∃b o bx,p.1=some b∧SV.box b o∈qh∧m.box? b=some bx∧∀l∈p.2.1,l∈bx.ls:=by
 cases gy with
 |none=>
  left
  cases gK with
  |false=>simp only[VG]at h;obtain rfl:=Option.some.inj h;exact⟨rfl,rfl⟩
  |true=>
   cases qh with
   |nil=>cases h
   |cons sv tl=>
    cases sv<;>try (cases h;done)
    rename_i hh
    cases hh<;>try (cases h;done)
    obtain rfl:=Option.some.inj h;exact⟨rfl,rfl⟩
 |some rc=>
  right
  cases qh with
  |nil=>cases gK<;>cases h
  |cons sv tl=>
  cases sv<;>try (cases gK<;>cases h;done)
  rename_i b o
  have h:(match m.box? b with
  |some bx=>bif (Nat.beq o rc.pre&&Nat.beq bx.t rc.t)&&Nat.beq bx.ls.length (rc.pre+rc.k.n+rc.post)then(match bM m rc.k ((bx.ls.drop rc.pre).take rc.k.n)with
   |some x=>some (some b,(bx.ls.drop rc.pre).take rc.k.n,x)
   |none=>none)else none
  |none=>none)=some p:=h
  cases hb:m.box? b with
  |none=>simp[hb]at h
  |some bx=>
   simp only[hb]at h
   obtain⟨_,h2⟩:=aG h
   split at h2
   ·obtain rfl:=Option.some.inj h2
    exact⟨b,o,bx,rfl,List.mem_cons_self,hb,fun l hl=>List.mem_of_mem_drop (List.mem_of_mem_take hl)⟩
   ·cases h2
theorem Leaves.drop {m:Mem}(rs:List Nat){ids:List Nat}(h:∀r∈rs,2*r∈ids):Leaves ids m (jw m rs):=by
 refine⟨fun i hi hn=> ?_,fun _ _ _=>rfl,by rw[vZ];exact Nat.le_refl _,Nat.le_refl _⟩
 rw[EY,if_neg]
 intro hr
 exact hn (h i hr)
theorem Qu {xg:rP}{qh:List SV}{sv:SV}{m':Mem}(h:Bg m xg qh mk=some (sv,m')):Leaves (qh.flatMap fun v=>v.deep m) m m':=by
 have hD:∀i∈qh.flatMap SV.owns,i∈qh.flatMap fun v=>v.deep m:=by
  intro i hi
  obtain⟨v,hv,he⟩:=List.mem_flatMap.1 hi
  exact List.mem_flatMap.2 ⟨v,hv,OL m v i he⟩
 unfold Bg at h
 split at h
 case h_1=>cases h
 rename_i cs sW
 simp only at h
 have hL:∀i∈lV (aB cs),i∈qh.flatMap fun v=>v.deep m:=fun i hi=>hD i (by
  obtain⟨v,hv,he⟩:=List.mem_flatMap.1 (ZF sW i hi)
  exact List.mem_flatMap.2 ⟨v,ZG _ _ _ v hv,he⟩)
 have h1:Leaves (qh.flatMap fun v=>v.deep m) m (bif xg.mO then m else m.aI (aB cs)):=by
  cases xg.mO with
  |true=>exact Leaves.refl _ _
  |false=>exact(Leaves.aI _ _).mono hL
 have Qo:(bif xg.mO then m else m.aI (aB cs)).boxes=m.boxes:=by
  cases xg.mO with
  |true=>rfl
  |false=>
   have:∀(ls:List aT) (m:Mem),(m.aI ls).boxes=m.boxes:=by
    intro ls
    induction ls with
    |nil=>intro m;rfl
    |cons l ls ih=>intro m;show((m.freeze l).aI ls).boxes=_;rw[ih];cases l<;>rfl
   exact this _ _
 generalize (bif xg.mO then m else m.aI (aB cs))=m1 at h h1 Qo
 split at h
 case h_1=>cases h
 rename_i p hp
 obtain⟨_,h⟩:=aG h
 split at h
 ·cases h
 ·obtain ⟨y,_,h⟩:=Option.bind_eq_some_iff.1 h
  rw[EG]at h
  split at h
  case h_2=>cases h
  rename_i bs q3 hbs _
  simp only[mk,Option.some.injEq,Prod.mk.injEq]at h
  obtain⟨_,rfl⟩:=h
  have hg:∀r∈nC (p.2.1++bif xg.mO then aB cs else[]),2*r∈qh.flatMap fun v=>v.deep m:=by
   intro r hr
   have hr:=WB hr
   simp only[lV,List.filterMap_append,List.mem_append]at hr
   rcases hr with hr|hr
   ·rcases Ht hp with⟨_,h2⟩|⟨b,o,bx,_,h3,h4,h5⟩
    ·rw [h2]at hr;simp at hr
    ·refine List.mem_flatMap.2 ⟨.box b o,h3,?_⟩
     have h6:m.box? b=some bx:=by rw[←h4];unfold Mem.box?;rw[Qo]
     simp only[SV.deep,h6]
     refine List.mem_cons_of_mem _ ?_
     obtain⟨l,hl,he⟩:=List.mem_filterMap.1 hr
     exact List.mem_filterMap.2 ⟨l,h5 l hl,he⟩
   ·cases hpo:xg.mO with
    |true=>rw[hpo]at hr;exact hL _ hr
    |false=>rw[hpo]at hr;simp at hr
  have h2:Leaves (qh.flatMap fun v=>v.deep m) m1 (jw m1 (nC (p.2.1++bif xg.mO then aB cs else[]))):=Leaves.drop _ hg
  refine h1.trans ⟨fun i hi hn=> ?_,fun i hi hn=> ?_,?_,?_⟩
  ·exact ((row?Jj (m:=jw m1 _) _ i m1.boxes).trans (if_pos (by rw[vZ];exact hi))).trans (h2.rows i hi hn)
  ·have hxb:∀(gy:Option Bf) (po:Option Nat) (q:List aT),xR m1 gy po q=some bs→bs.length=m1.boxes.length∧∀j,po≠some j→bs[j]? =m1.boxes[j]? :=by
    intro gy po q h
    cases gy with
    |none=>cases po with
     |none=>obtain rfl:=Option.some.inj h;exact⟨rfl,fun _ _=>rfl⟩
     |some=>cases h
    |some rc=>cases po with
     |none=>cases h
     |some b=>
      simp only[xR]at h
      split at h
      ·obtain rfl:=Option.some.inj h
       exact⟨by simp,fun j hj=>List.getElem?_set_ne (fun e=>hj (by rw[e]))⟩
      ·cases h
   obtain⟨hl,hj⟩:=hxb _ _ _ hbs
   show((bs++_)[i]?).bind id=_
   rw[List.getElem?_append_left (by rw[hl];exact hi),hj i ?_]
   ·rfl
   ·intro e
    rcases Ht hp with⟨h3,_⟩|⟨b,o,bx,h3,h4,_⟩
    ·rw [h3]at e;cases e
    ·rw [h3]at e
     obtain rfl:=Option.some.inj e
     exact hn (List.mem_flatMap.2 ⟨_,h4,List.mem_cons_self⟩)
  ·simp [vZ]
  ·have hxb:∀(gy:Option Bf) (po:Option Nat) (q:List aT),xR m1 gy po q=some bs→bs.length=m1.boxes.length:=by
    intro gy po q h
    cases gy with
    |none=>cases po with
     |none=>obtain rfl:=Option.some.inj h;rfl
     |some=>cases h
    |some rc=>cases po with
     |none=>cases h
     |some b=>
      simp only[xR]at h
      split at h
      ·obtain rfl:=Option.some.inj h;simp
      ·cases h
   show _≤(bs++_).length
   rw[List.length_append,hxb _ _ _ hbs];omega
theorem Lr:∀{qh:List SV} {cs:List lM},iV (qh.map SV.cmp?)=some cs→qh.flatMap SV.owns=lV (aB cs):=by
 intro qh cs h
 rw[uF]
 have h1:=kN h
 clear h
 induction qh generalizing cs with
 |nil=>cases cs with
  |nil=>rfl
  |cons=>simp at h1
 |cons v qh ih=>cases cs with
  |nil=>simp at h1
  |cons c cs=>
   simp only[List.map_cons,List.cons.injEq]at h1
   simp only[List.flatMap_cons]
   rw[cmp?Dx h1.1,ih h1.2]
theorem Qv {m0:Mem}{qh:List SV}{g:FuncId}{sv:SV}{m':Mem}(h:wL C m0 g qh mk=some (sv,m')):Leaves (qh.flatMap SV.owns) m0 m':=by
 unfold wL at h
 split at h
 case h_2=>cases h
 rename_i sg cs hC sW
 simp only at h
 obtain⟨_,h⟩:=aG h
 split at h
 ·cases h
 ·obtain ⟨y,hy,h⟩:=Option.bind_eq_some_iff.1 h
  split at h
  ·cases h
  ·simp only[mk,Option.some.injEq,Prod.mk.injEq]at h
   rw[←h.2,Lr sW]
   refine Leaves.trans (m1:=if sg.md.isShared=true then m0.aI (aB cs)else m0) ?_ (Leaves.add _).uG
   split
   ·exact Leaves.aI _ _
   ·exact Leaves.refl _ _
theorem NM {gg:KC}{qh:List SV}{sv:SV}{m':Mem}(h:vC m gg qh mk=some (sv,m')):Leaves (qh.flatMap SV.owns) m m':=by
 cases qh with
 |nil=>simp[vC]at h
 |cons z l=>
  simp only[vC]at h
  split at h
  case h_2=>cases h
  rename_i r cs hp sW
  split at h
  ·cases h
  ·split at h
   ·cases h
   ·obtain ⟨_,h⟩:=aG h
    split at h
    ·cases h
    ·obtain ⟨y,hy,h⟩:=Option.bind_eq_some_iff.1 h
     split at h
     ·simp only[mk,Option.some.injEq,Prod.mk.injEq]at h
      rw[←h.2]
      simp only[List.flatMap_cons,leaf?Dx hp]
      exact((Leaves.set (m:=m) r none).mono fun i hi=>List.mem_append_left _ hi).trans (Leaves.add _).uG
     ·cases h
theorem NP {T:dH}{e:TypeId}{n b:Nat}{qh:List SV}{sv:SV}{m':Mem}(h:wM T m e n b qh mk=some (sv,m')):Leaves (qh.flatMap SV.owns) m m':=by
 unfold wM at h
 split at h
 case h_2=>cases h
 split at h
 case h_2=>cases h
 split at h
 case h_2=>cases h
 obtain⟨_,h⟩:=aG h
 exact(Leaves.newRow h).uG
theorem NQ {ig:Bc}{qh:List SV}{sv:SV}{m':Mem}(h:tC m ig qh mk=some (sv,m')):Leaves (qh.flatMap SV.owns) m m':=by
 have one:∀{v:SV} {m1:Mem},mk v m1=some (sv,m')→m'=m1:=by
  intro v m1 h
  simp only[mk,Option.some.injEq,Prod.mk.injEq]at h
  exact h.2.symm
 cases qh with
 |nil=>simp[tC]at h
 |cons z l=>
  simp only[tC]at h
  split at h
  case h_2=>cases h
  rename_i r0 off len cs hp sW
  try simp only at h
  split at h
  ·cases h
  ·split at h
   ·cases h
   ·obtain ⟨_,h⟩:=aG h
    split at h
    ·cases h
    ·obtain ⟨y,hy,h⟩:=Option.bind_eq_some_iff.1 h
     split at h
     ·obtain ⟨_,h⟩:=aG h
      rw[one h]
      simp only[List.flatMap_cons]
      rw[Lr sW,part?_sub hp]
      exact((Leaves.aI _ _).mono fun i hi=>List.mem_append_right _ hi).trans ((Leaves.set (m:=m.aI (aB cs)) r0 _).mono fun i hi=>List.mem_append_left _ hi)
     ·cases h
theorem Qw {T:dH}{q:Oth}{qh:List SV}{sv:SV}{m':Mem}(h:KD T m q qh mk=some (sv,m')):Leaves (qh.flatMap SV.owns) m m':=by
 cases q with
 |io ig=>exact NQ h
 |gv gg=>exact NM h
 |cl e n b=>exact NP h
theorem Qx {s:S}{o:Oper}{sv:SV}{m':Mem}(h:evalOp C T s o mk=some (sv,m')):Leaves (uO s o) s.m m':=by
 cases hw:isW C s o with
 |false=>rw[(xY hw h).1];exact Leaves.refl _ _
 |true=>
  obtain⟨dst,op,ty,pos,after,guard⟩:=o
  have one:∀{v:SV} {m1:Mem},mk v m1=some (sv,m')→m'=m1:=by
   intro v m1 h
   simp only[mk,Option.some.injEq,Prod.mk.injEq]at h
   exact h.2.symm
  cases op<;>simp only[isW]at hw<;>try (cases hw;done)
  all_goals simp only[evalOp,uO]at h⊢
  case store t x v=>
   cases hv:(s.gJ v).cmp? with
   |none=>simp[hv]at h
   |some cv=>
    simp only[hv]at h
    unfold ny at h
    split at h
    case h_1=>cases h
    rename_i ag n ht
    obtain⟨_,h⟩:=aG h
    split at h
    ·rename_i r i o' hx
     simp only at h
     split at h
     ·obtain ⟨_,h⟩:=aG h
      split at h
      ·have e:=one (v:= .undef) h
       subst e
       have h1:Leaves ((s.gJ x).owns++(s.gJ v).owns) s.m (s.m.aI cv.leaves):=(Leaves.aI _ _).mono fun i hi=>by rw[cmp?Dx hv];exact List.mem_append_right _ hi
       refine h1.trans ((Leaves.set (m:=s.m.aI cv.leaves) r _).mono fun i hi=> ?_)
       simp at hi;subst hi
       exact List.mem_append_left _ (by try (rw [hx]);simp[SV.owns])
      ·cases h
     ·cases h
    ·rename_i b o' hx
     split at h
     ·obtain ⟨_,h⟩:=aG h
      have e:=one (v:= .undef) h
      subst e
      refine(Leaves.ai6 b _).mono fun i hi=> ?_
      simp at hi;subst hi
      exact List.mem_append_left _ (by try (rw [hx]);simp[SV.owns])
     ·cases h
    ·cases h
  case makeSlice t n q=>
   split at h
   case h_2=>cases h
   split at h
   case h_2=>cases h
   obtain⟨_,h⟩:=aG h
   exact(Leaves.newRow h).uG
  case buildSlice t n ps=>
   split at h
   case h_2=>cases h
   split at h
   case h_2=>cases h
   rename_i cs sW
   try simp only at h
   rcases mP h with⟨hs,h⟩|⟨hs,h⟩
   ·rw [hs]at hw;cases hw
   obtain⟨_,h⟩:=aG h
   split at h
   case h_2=>cases h
   have E_:(ps.toList.flatMap fun p=>(s.gJ p.2).owns)=lV (aB cs):=by
    have h2:iV (((ps.toList.map (·.2)).map s.gJ).map SV.cmp?)=some cs:=by rw[List.map_map,List.map_map];exact sW
    rw[uF,←OJ h2]
    simp[List.flatMap_map]
   rw[E_]
   exact(Leaves.aI _ _).trans (Leaves.newRow h).uG
  case slice t x lo hi mx=>
   cases hsb:KE C dst with
   |true=>rw[hsb]at hw;cases hw
   |false=>
   rw[hsb]at hw h
   simp only[cond_false]at hw h
   split at h
   ·rename_i fr xs l q h1 h2 h3 h4
    rw[h1]at hw;cases hw
   ·rename_i lx l q hns h1 h2 h3 h4
    split at h
    case h_2=>cases h
    rw[leaf?Dx h1]
    cases lx with
    |val fr k xs=>rw[h1]at hw;cases hw
    |nil=>simp[qw]at h
    |own r=>
     unfold qw at h
     simp only at h
     split at h
     ·cases h
     ·rename_i row hr
      obtain⟨_,h⟩:=aG h
      have cut:∀{n:Nat} {lo hi:Option Int} {g:List row.k.T→SV×Mem→Prop} {c:List row.k.T→Option (SV×Mem)} {p:SV×Mem},EF n List.take List.drop row.xs lo hi c=some p→∃y,c y=some p:=by
       intro n lo hi g c p h
       obtain⟨_,_,_,_,_,_,h⟩:=CJ h
       exact⟨_,h⟩
      split at h
      ·obtain ⟨y,h⟩:=cut (g:=fun _ _=>True) h
       exact(Leaves.set (m:=s.m) r none).trans (Leaves.newRow h).uG
      ·obtain ⟨y,h⟩:=cut (g:=fun _ _=>True) h
       rw[one h]
       exact Leaves.freeze (.own r)
   ·rename_i lx l q h1 h2 h3 h4
    split at h
    case h_2=>cases h
    cases lx with
    |val fr k xs=>rw[h1]at hw;cases hw
    |nil=>simp[mV]at h
    |own r=>simp[mV]at h
   ·cases h
  case alloc t=>
   split at h
   case h_2=>cases h
   rw[one h];exact Leaves.P9 _ |>.uG
  case box t x=>
   split at h
   case h_2=>cases h
   obtain⟨_,h⟩:=aG h
   rw[one h];exact Leaves.P9 _ |>.uG
  case call q=>
   have hD:∀i∈q.args.toList.flatMap fun x=>(s.gJ x).owns,i∈q.args.toList.flatMap fun x=>(s.gJ x).deep s.m:=by
    intro i hi
    obtain⟨v,hv,he⟩:=List.mem_flatMap.1 hi
    exact List.mem_flatMap.2 ⟨v,hv,OL s.m _ i he⟩
   have hM:(q.args.toList.map s.gJ).flatMap SV.owns=q.args.toList.flatMap fun x=>(s.gJ x).owns:=by rw[List.flatMap_map]
   have OM:∀{g:FuncId},wL C s.m g (q.args.toList.map s.gJ) mk=some (sv,m')→Leaves (q.args.toList.flatMap fun x=>(s.gJ x).owns) s.m m':=fun h=>hM▸Qv h
   split at h
   ·rename_i g hg
    cases hX:C.x g (DT (q.args.toList.map s.gJ))with
    |some xg=>
     simp only[hX]at h
     have:=Qu h
     simpa[List.flatMap_map]using this
    |none=>
    simp only[hX]at h
    refine Leaves.mono ?_ hD
    cases hio:C.io g with
    |some ig=>
     simp only[hio]at h
     rw[←hM]
     exact Qw h
    |none=>
     simp only[hio]at h
     exact OM h
   ·split at h
    ·exact (OM h).mono hD
    ·cases h
   ·rename_i b hg
    refine Leaves.mono ?_ hD
    obtain⟨_,h⟩:=aG h
    generalize XJ:q.args.toList.map s.gJ=xs at h
    have E_:∀l,SV.one (.lf l)∈xs→∀i∈lV [l],i∈q.args.toList.flatMap fun x=>(s.gJ x).owns:=by
     intro l hl i hi
     rw[←XJ]at hl
     obtain⟨x,Qc,hx2⟩:=List.mem_map.1 hl
     exact List.mem_flatMap.2 ⟨x,Qc,by rw[hx2];exact hi⟩
    unfold jv at h
    split at h
    ·split at h
     ·rw [one h];exact Leaves.refl _ _
     ·cases h
    ·split at h
     ·rw [one h];exact Leaves.refl _ _
     ·cases h
    ·split at h
     ·rw [one h];exact Leaves.refl _ _
     ·cases h
    ·rename_i l y _
     try simp only at h
     obtain⟨_,h⟩:=aG h
     have hy:Leaves (q.args.toList.flatMap fun x=>(s.gJ x).owns) s.m (s.m.freeze y):=(Leaves.freeze y).mono (E_ y (by simp))
     split at h
     ·split at h
      ·split at h
       ·obtain ⟨_,h⟩:=aG h
        exact hy.trans (Leaves.newRow h).uG
       ·rename_i r _
        split at h
        ·split at h
         ·obtain ⟨_,h⟩:=aG h
          refine(hy.trans ((Leaves.set (m:=s.m.freeze y) r none).mono (E_ (.own r) (by simp)))).trans (Leaves.newRow h).uG
         ·cases h
        ·cases h
       ·cases h
      ·cases h
     ·cases h
    ·rename_i r y _
     try simp only at h
     have hy:Leaves (q.args.toList.flatMap fun x=>(s.gJ x).owns) s.m (s.m.freeze y):=(Leaves.freeze y).mono (E_ y (by simp))
     split at h
     ·split at h
      ·obtain ⟨_,h⟩:=aG h
       rw[one h]
       exact hy.trans ((Leaves.set (m:=s.m.freeze y) r _).mono (E_ (.own r) (by simp)))
      ·cases h
     ·cases h
    ·rename_i r oo nn gg y _
     try simp only at h
     have hy:Leaves (q.args.toList.flatMap fun x=>(s.gJ x).owns) s.m (s.m.freeze y):=(Leaves.freeze y).mono (E_ y (by simp))
     split at h
     ·split at h
      ·obtain ⟨_,h⟩:=aG h
       rw[one h]
       refine hy.trans ((Leaves.set (m:=s.m.freeze y) r _).mono fun i hi=> ?_)
       have hl:SV.sub r oo nn gg∈q.args.toList.map s.gJ:=by rw[XJ];simp
       obtain⟨x,Qc,hx2⟩:=List.mem_map.1 hl
       exact List.mem_flatMap.2 ⟨x,Qc,by rw[hx2];exact hi⟩
      ·cases h
     ·cases h
    ·cases h
   ·cases h
def wb (m:Mem)(bs:List (Option pF)):Mem:=⟨m.rows,bs⟩
def zT (bs:List (Option pF)):Option (SV×Mem)→Option (SV×Mem):=Option.map fun p=>(p.1,wb p.2 bs)
section
variable {bs:List (Option pF)}
theorem qj (b:Bool)(x y:Option (SV×Mem)):zT bs (bif b then x else y)=bif b then zT bs x else zT bs y:=by cases b<;>rfl
theorem yV (l:aT):(wb m bs).freeze l=wb (m.freeze l) bs:=by cases l<;>rfl
theorem ql:∀(ls:List aT) (m:Mem),(wb m bs).aI ls=wb (m.aI ls) bs
 |[],m=>rfl
 |l::ls,m=>by
  show((wb m bs).freeze l).aI ls=_
  rw[yV,ql ls (m.freeze l)];rfl
theorem Fq (ls:List aT):og (lV ls) m (wb m bs):=⟨fun _ _=>rfl,fun i hi=>by
 obtain⟨l,_,he⟩:=List.mem_filterMap.1 hi
 cases l<;>simp at he
 omega⟩
theorem uV {ps:List (Bool×K)}{cs:List lM}:bQ (wb m bs) ps cs=bQ m ps cs:=wX (by rw[←uF];exact Fq _)
theorem Fv {k:K}{ls:List aT}:bM (wb m bs) k ls=bM m k ls:=uU (Fq _)
theorem BJ {k:K}:∀{cs:List lM},ji (wb m bs) k cs=ji m k cs
 |[]=>rfl
 |c::cs=>by simp only[ji,Fv,BJ (cs:=cs)]
theorem xZ {k:K}{l:aT}:bP (wb m bs) k l=bP m k l:=ku (Fq _)
theorem WC {l:aT}:rH (wb m bs) l=rH m l:=Dw (Fq _)
theorem CV:fK (wb m bs)=fK m:=by funext l;cases l<;>rfl
theorem Fz {l:aT}:qB (wb m bs) l=qB m l:=by cases l<;>rfl
theorem row?_wb{i:Nat}:(wb m bs).row? i=m.row? i:=rfl
theorem Ua {g:FuncId}{xs:List SV}:wL C (wb m bs) g xs mk=zT bs (wL C m g xs mk):=by
 unfold wL
 split
 ·rename_i sg cs h1 h2
  have e:(if sg.md.isShared=true then(wb m bs).aI (aB cs)else wb m bs)=wb (if sg.md.isShared=true then m.aI (aB cs)else m) bs:=by
   split
   ·exact ql _ _
   ·rfl
  simp only[e,uV,CV]
  generalize (if sg.md.isShared=true then m.aI (aB cs)else m)=m1
  cases kG sg.ps cs with
  |false=>rfl
  |true=>
   simp only[cond_true]
   split
   ·rfl
   ·rename_i x _
    cases sg.fn x with
    |none=>rfl
    |some y=>
     simp only[Option.bind_some]
     generalize (!sg.md.isShared||_)=fr
     show(match jh sg.md.vI fr m1.rows.length sg.rs y with|none=>none|some q=>mk (Dj q.1) ⟨m1.rows++q.2,bs⟩)=zT bs (match jh sg.md.vI fr m1.rows.length sg.rs y with|none=>none|some q=>mk (Dj q.1) ⟨m1.rows++q.2,m1.boxes⟩)
     cases jh sg.md.vI fr m1.rows.length sg.rs y<;>rfl
 ·rfl
theorem ZH {gg:KC}{xs:List SV}:vC (wb m bs) gg xs mk=zT bs (vC m gg xs mk):=by
 unfold vC
 split
 ·rfl
 ·split
  ·simp only[row?_wb,uV]
   split
   ·rfl
   ·split
    ·rfl
    ·rename_i zs _
     generalize ((_&&_)&&(kG gg.ps _&&_))=bb
     cases bb with
     |false=>rfl
     |true=>
      simp only[cond_true]
      split
      ·rfl
      ·rename_i x _
       cases gg.fn zs x with
       |none=>rfl
       |some y=>
        simp only[Option.bind_some]
        split<;>rfl
  ·rfl
theorem ZI {T:dH}{e:TypeId}{n b:Nat}{xs:List SV}:wM T (wb m bs) e n b xs mk=zT bs (wM T m e n b xs mk):=by
 unfold wM
 split
 ·split
  ·simp only[xZ,Fz]
   split
   ·rw [qj];rfl
   ·rfl
  ·rfl
 ·rfl
theorem ZJ {ig:Bc}{xs:List SV}:tC (wb m bs) ig xs mk=zT bs (tC m ig xs mk):=by
 unfold tC
 split
 ·rfl
 ·split
  ·simp only[ql,row?_wb,uV]
   split
   ·rfl
   ·split
    ·rfl
    ·rename_i zs _
     generalize ((_&&(ig.k.flat&&_))&&(kG ig.ps _&&_))=bb
     cases bb with
     |false=>rfl
     |true=>
      simp only[cond_true]
      split
      ·rfl
      ·rename_i x _
       cases ig.fn zs _ _ x with
       |none=>rfl
       |some y=>
        simp only[Option.bind_some]
        split
        ·rename_i q ws _ _
         cases Nat.beq (List.length (α:=_) ws) _<;>rfl
        ·rfl
  ·rfl
theorem abT {T:dH}{q:Oth}{xs:List SV}:KD T (wb m bs) q xs mk=zT bs (KD T m q xs mk):=by
 cases q with
 |io ig=>exact ZJ
 |gv gg=>exact ZH
 |cl e n b=>exact ZI
theorem Ub {T:dH}{b:Builtin}{ts:List TypeId}{xs:List SV}:jv T (wb m bs) b ts xs mk=zT bs (jv T m b ts xs mk):=by
 unfold jv
 split
 ·split<;>rfl
 ·simp only[WC]
  split<;>rfl
 ·split<;>rfl
 ·simp only[yV,xZ,Fz,row?_wb]
  cases uM T (ts[1]?)with
  |false=>rfl
  |true=>
   simp only[cond_true]
   split
   ·split
    ·split
     ·rename_i ys _
      generalize decide (_<zy _)=bb
      cases bb<;>rfl
     ·split
      ·split
       ·generalize (_&&decide (_<zy _))=bb
        cases bb<;>rfl
       ·rfl
      ·rfl
     ·rfl
    ·rfl
   ·rfl
 ·simp only[yV,xZ,Fz,row?_wb]
  split
  ·split
   ·generalize (_&&Nat.beq _ _)=bb
    cases bb<;>rfl
   ·rfl
  ·rfl
 ·simp only[yV,xZ,Fz,row?_wb]
  split
  ·split
   ·generalize ((_&&Nat.blt 0 _)&&(Nat.beq _ _&&Nat.ble _ _))=bb
    cases bb<;>rfl
   ·rfl
  ·rfl
 ·rfl
theorem Uc {T:dH}{t:TypeId}{r i o:Nat}{v:lM}:ny T (wb m bs) t (.Dt r i o) v (mk .undef)=zT bs (ny T m t (.Dt r i o) v (mk .undef)):=by
 unfold ny
 split
 ·rfl
 ·generalize Nat.beq _ _=bb
  cases bb with
  |false=>rfl
  |true=>
   simp only[cond_true,ql,row?_wb,Fv,CV]
   split
   ·generalize (_&&Nat.ble _ _)=bb
    cases bb with
    |false=>rfl
    |true=>
     simp only[cond_true]
     split<;>rfl
   ·rfl
theorem ZK {n:Nat}{x:aT}{lo hi:Option Int}:qw (wb m bs) n x lo hi mk=zT bs (qw m n x lo hi mk):=by
 have cut:∀{α:Type} {n:Nat} {take drop:Nat→α→α} {x:α} {lo hi:Option Int} {f g:α→Option (SV×Mem)},(∀y,f y=zT bs (g y))→EF n take drop x lo hi f=zT bs (EF n take drop x lo hi g):=by
  intro α n take drop x lo hi f g h
  cases lo<;>cases hi<;>simp only[EF,h,qj]<;>rfl
 unfold qw
 split
 ·generalize Nat.beq n _=bb
  cases bb with
  |false=>rfl
  |true=>
   simp only[cond_true]
   exact cut fun y=>rfl
 ·simp only[row?_wb]
  split
  ·rfl
  ·rename_i row _
   generalize Nat.beq n row.k.n=bb
   cases bb with
   |false=>rfl
   |true=>
    simp only[cond_true]
    split
    ·exact cut fun y=>rfl
    ·exact cut fun y=>by simp only[yV];rfl
 ·rfl
end
section
variable {bs:List (Option pF)}
theorem Ud {x:ByteArray}{lo hi:Option Int}:qC (wb m bs) x lo hi mk=zT bs (qC m x lo hi mk):=by
 unfold qC
 simp only[qj]
 rfl
theorem WE {n:Nat}{x:aT}{h q:Int}:mV (wb m bs) n x h q mk=zT bs (mV m n x h q mk):=by
 unfold mV
 split
 ·simp only[qj];rfl
 ·rfl
end
def Mem.jK (H:Nat→Bool)(m:Mem):Mem:=wb m (m.boxes.mapIdx fun i b=>bif H i then none else b)
theorem FB (H:Nat→Bool)(m:Mem):(m.jK H).boxes.length=m.boxes.length:=by simp[Mem.jK,wb]
theorem BK (H:Nat→Bool)(m:Mem)(i:Nat):(m.jK H).box? i=bif H i then none else m.box? i:=by
 simp only[Mem.jK,wb,Mem.box?,List.getElem?_mapIdx]
 cases m.boxes[i]? with
 |none=>cases H i<;>rfl
 |some b=>cases H i<;>rfl
theorem XU {H:Nat→Bool}{m m':Mem}(h:m'.boxes=m.boxes):wb m' (m.jK H).boxes=m'.jK H:=by
 simp only[Mem.jK,wb,h]
theorem Ue {H:Nat→Bool}{rows:List (Option Row)}{l:List (Option pF)}{x:Option pF}(h:H l.length=false):(⟨rows,l++[x]⟩:Mem).jK H=⟨rows,((⟨rows,l⟩:Mem).jK H).boxes++[x]⟩:=by
 simp[Mem.jK,wb,List.mapIdx_append,h]
theorem Uf {H:Nat→Bool}{rows:List (Option Row)}{l:List (Option pF)}{b:Nat}{x:Option pF}(h:H b=false):(⟨rows,l.set b x⟩:Mem).jK H=⟨rows,((⟨rows,l⟩:Mem).jK H).boxes.set b x⟩:=by
 simp only[Mem.jK,wb]
 congr 1
 refine List.ext_getElem? fun i=> ?_
 simp only[List.getElem?_mapIdx,List.getElem?_set,List.length_mapIdx]
 by_cases hb:b=i
 ·subst hb;simp only[if_true];split<;>simp[h]
 ·simp only[hb,if_false]
theorem Ug {H:Nat→Bool}{rows:List (Option Row)}{l xs:List (Option pF)}(h:∀i,l.length≤i→H i=false):(⟨rows,l++xs⟩:Mem).jK H=⟨rows,((⟨rows,l⟩:Mem).jK H).boxes++xs⟩:=by
 simp only[Mem.jK,wb,List.mapIdx_append]
 congr 2
 refine List.ext_getElem? fun i=> ?_
 rw[List.getElem?_mapIdx]
 cases hx:xs[i]? with
 |none=>rfl
 |some b=>simp[h (i+l.length) (by omega)]
theorem abU {bs:List (Option pF)}:uN (wb m bs)=uN m:=by funext l;cases l<;>rfl
theorem ZL {H:Nat→Bool}{gy:Option Bf}{gK:Bool}{qh:List SV}{p:Option Nat×List aT×rO gy}(h:VG m gy gK qh=some p)(hH:∀b o,SV.box b o∈qh→H b=false):VG (m.jK H) gy gK qh=some p:=by
 cases gy with
 |none=>
  cases gK with
  |false=>exact h
  |true=>
   cases qh with
   |nil=>cases h
   |cons sv tl=>
    cases sv<;>try (cases h;done)
    rename_i hh
    cases hh<;>try (cases h;done)
    exact h
 |some rc=>
  cases qh with
  |nil=>cases gK<;>cases h
  |cons sv tl=>
  cases sv<;>try (cases gK<;>cases h;done)
  rename_i b o
  have VX:=hH b o List.mem_cons_self
  have h:(match m.box? b with
  |some bx=>bif (Nat.beq o rc.pre&&Nat.beq bx.t rc.t)&&Nat.beq bx.ls.length (rc.pre+rc.k.n+rc.post)then(match bM m rc.k ((bx.ls.drop rc.pre).take rc.k.n)with
   |some x=>some (some b,(bx.ls.drop rc.pre).take rc.k.n,x)
   |none=>none)else none
  |none=>none)=some p:=h
  show(match (m.jK H).box? b with
  |some bx=>bif (Nat.beq o rc.pre&&Nat.beq bx.t rc.t)&&Nat.beq bx.ls.length (rc.pre+rc.k.n+rc.post)then(match bM (m.jK H) rc.k ((bx.ls.drop rc.pre).take rc.k.n)with
   |some x=>some (some b,(bx.ls.drop rc.pre).take rc.k.n,x)
   |none=>none)else none
  |none=>none)=some p
  rw[BK,VX]
  simp only[cond_false]
  have:∀ls,bM (m.jK H) rc.k ls=bM m rc.k ls:=fun ls=>Fv
  simp only[this]
  exact h
theorem WG {H:Nat→Bool}{gy:Option Bf}{po:Option Nat}{q:List aT}{bs:List (Option pF)}(h:xR m gy po q=some bs)(hH:∀b,po=some b→H b=false):xR (m.jK H) gy po q=some ((⟨m.rows,bs⟩:Mem).jK H).boxes∧bs.length=m.boxes.length:=by
 cases gy with
 |none=>cases po with
  |none=>obtain rfl:=Option.some.inj h;exact⟨rfl,rfl⟩
  |some=>cases h
 |some rc=>cases po with
  |none=>cases h
  |some b=>
   simp only[xR]at h⊢
   rw[BK,hH b rfl]
   simp only[cond_false]
   split at h
   ·obtain rfl:=Option.some.inj h
    refine⟨?_,by simp⟩
    rw[Uf (hH b rfl)]
   ·cases h
theorem WH {H:Nat→Bool}{xg:rP}{qh:List SV}{sv:SV}{m':Mem}(h:Bg m xg qh mk=some (sv,m'))(hH:∀i,H i=true→i<m.boxes.length∧2*i+1∉qh.flatMap fun v=>v.deep m):Bg (m.jK H) xg qh mk=some (sv,m'.jK H):=by
 have yN:∀b o,SV.box b o∈qh→H b=false:=by
  intro b o hb
  cases e:H b with
  |false=>rfl
  |true=>exact absurd (List.mem_flatMap.2 ⟨_,hb,List.mem_cons_self⟩) (hH b e).2
 have hge:∀i,m.boxes.length≤i→H i=false:=by
  intro i hi
  cases e:H i with
  |false=>rfl
  |true=>have:=(hH i e).1;omega
 unfold Bg at h⊢
 split at h
 case h_1=>cases h
 rename_i cs sW
 try simp only[sW]
 simp only at h
 have V6:(bif xg.mO then m.jK H else(m.jK H).aI (aB cs))=(bif xg.mO then m else m.aI (aB cs)).jK H∧(bif xg.mO then m else m.aI (aB cs)).boxes=m.boxes:=by
  cases xg.mO with
  |true=>exact⟨rfl,rfl⟩
  |false=>
   have hb:∀(ls:List aT) (m:Mem),(m.aI ls).boxes=m.boxes:=by
    intro ls
    induction ls with
    |nil=>intro m;rfl
    |cons l ls ih=>intro m;show((m.freeze l).aI ls).boxes=_;rw[ih];cases l<;>rfl
   refine⟨?_,hb _ _⟩
   show(m.jK H).aI _=(m.aI _).jK H
   rw[show m.jK H=wb m (m.jK H).boxes from rfl,ql,XU (hb _ _)]
 rw[V6.1]
 have wQ:=V6.2
 clear V6
 generalize (bif xg.mO then m else m.aI (aB cs))=m1 at h wQ⊢
 split at h
 case h_1=>cases h
 rename_i p hp
 rw[ZL hp yN]
 simp only
 obtain⟨hc,h⟩:=aG h
 have hlf:fK (m1.jK H)=fK m1:=CV
 have hol:uN (m1.jK H)=uN m1:=abU
 have hpa:bQ (m1.jK H) xg.ps cs=bQ m1 xg.ps cs:=uV
 rw[hlf,hol,hc,hpa]
 simp only[cond_true]
 split at h
 ·cases h
 ·rename_i x hx
  obtain⟨y,hy,h⟩:=Option.bind_eq_some_iff.1 h
  try simp only[hx]
  rw[hy]
  simp only[Option.bind_some]
  rw[EG]at h⊢
  split at h
  case h_2=>cases h
  rename_i bs q3 hbs hq3
  have hpo:∀b,p.1=some b→H b=false:=by
   intro b e
   rcases Ht hp with⟨h3,_⟩|⟨b',o,bx,h3,h4,_⟩
   ·rw [h3]at e;cases e
   ·rw [h3]at e
    obtain rfl:=Option.some.inj e
    exact yN _ _ h4
  obtain⟨hxb,R_⟩:=WG hbs hpo
  have TS:(m1.jK H).rows=m1.rows:=rfl
  rw[TS,hxb,hq3,FB]
  simp only[mk,Option.some.injEq,Prod.mk.injEq]at h⊢
  refine⟨h.1,?_⟩
  rw[←h.2,Ug (fun i hi=>hge i (by rw[←wQ,←R_];exact hi))]
  rfl
theorem WI {s:S}{o:Oper}{sv:SV}{m':Mem}{H:Nat→Bool}(h:evalOp C T s o mk=some (sv,m'))(hw:isW C s o=true)(hH:∀i,H i=true→i<s.m.boxes.length∧2*i+1∉uO s o):
  evalOp C T ⟨s.fr,s.m.jK H⟩ o mk=some (sv,m'.jK H):=by
 have hlen:H s.m.boxes.length=false:=by
  cases e:H s.m.boxes.length with
  |false=>rfl
  |true=>have:=(hH _ e).1;omega
 have gJ:∀x,(⟨s.fr,s.m.jK H⟩:S).gJ x=s.gJ x:=fun x=>Fj s _ x
 have hwb:s.m.jK H=wb s.m (s.m.jK H).boxes:=rfl
 have lift:∀{x:Option (SV×Mem)},x=some (sv,m')→m'.boxes=s.m.boxes→zT (s.m.jK H).boxes x=some (sv,m'.jK H):=by
  intro x hx hb
  rw[hx]
  show some (sv,wb m' (s.m.jK H).boxes)=_
  rw[XU hb]
 have one:∀{v:SV} {m1:Mem},mk v m1=some (sv,m')→v=sv∧m1=m':=by
  intro v m1 h
  simp only[mk,Option.some.injEq,Prod.mk.injEq]at h
  exact h
 have yX:∀{o:Oper},evalOp C T s o mk=some (sv,m')→(∀bs,evalOp C T ⟨s.fr,wb s.m bs⟩ o mk=zT bs (evalOp C T s o mk))→evalOp C T ⟨s.fr,s.m.jK H⟩ o mk=some (sv,m'.jK H):=by
  intro o h hr
  have hb:m'.boxes=s.m.boxes:=by
   have:=hr s.m.boxes
   rw[h]at this
   have e:(⟨s.fr,wb s.m s.m.boxes⟩:S)=s:=rfl
   rw[e,h]at this
   simp only[zT,Option.map_some,Option.some.injEq,Prod.mk.injEq,true_and]at this
   rw[this];rfl
  rw[hwb,hr]
  exact lift h hb
 have opw:∀(bs:List (Option pF)) x,(⟨s.fr,wb s.m bs⟩:S).gJ x=s.gJ x:=fun bs x=>Fj s _ x
 obtain⟨dst,op,ty,pos,after,guard⟩:=o
 cases op<;>simp only[isW]at hw<;>try (cases hw;done)
 case store t x v=>
  cases hv:(s.gJ v).cmp? with
  |none=>simp[evalOp,hv]at h
  |some cv=>
   cases hx:s.gJ x with
   |Dt r i o'=>
    refine yX h fun bs=> ?_
    simp only[evalOp,opw,hv,hx]
    exact Uc
   |box b o'=>
    simp only[evalOp,gJ,hv,hx,uO]at h hH⊢
    have hnb:H b=false:=by
     cases e:H b with
     |false=>rfl
     |true=>exact absurd (List.mem_append_left _ (by simp[SV.owns])) (hH b e).2
    cases ht:JG T t with
    |none=>simp[ny,ht]at h
    |some p=>
     obtain⟨ag,n⟩:=p
     simp only[ny,ht]at h⊢
     obtain⟨wQ,h⟩:=aG h
     simp only[wQ,cond_true,BK,hnb,cond_false]
     cases yN:s.m.box? b with
     |none=>simp[yN]at h
     |some bx=>
      simp only[yN]at h⊢
      obtain⟨Qa,h⟩:=aG h
      simp only[Qa,cond_true]
      obtain⟨rfl,rfl⟩:=one (v:= .undef) h
      show some (_,_)=_
      rw[Uf hnb]
      rfl
   |undef=>cases ht:JG T t<;>simp[evalOp,hv,hx,ny,ht]at h
   |one c=>cases ht:JG T t<;>simp[evalOp,hv,hx,ny,ht]at h
   |JF c=>cases ht:JG T t<;>simp[evalOp,hv,hx,ny,ht]at h
   |ref c=>cases ht:JG T t<;>simp[evalOp,hv,hx,ny,ht]at h
   |sub a b c d=>cases ht:JG T t<;>simp[evalOp,hv,hx,ny,ht]at h
   |kX a b c=>cases ht:JG T t<;>simp[evalOp,hv,hx,ny,ht]at h
   |hd a=>cases ht:JG T t<;>simp[evalOp,hv,hx,ny,ht]at h
   |PU a b=>cases ht:JG T t<;>simp[evalOp,hv,hx,ny,ht]at h
   |sK a b c d=>cases ht:JG T t<;>simp[evalOp,hv,hx,ny,ht]at h
 case makeSlice t n q=>
  refine yX h fun bs=> ?_
  simp only[evalOp,opw]
  split
  ·split
   ·rw [qj];rfl
   ·rfl
  ·rfl
 case buildSlice t n ps=>
  refine yX h fun bs=> ?_
  simp only[evalOp,opw,ql,CV,Fv,uV]
  split
  ·split
   ·rw [qj,qj,qj,BJ,BJ]
    congr 1
    ·congr 1
     split<;>rfl
    ·congr 1
     split<;>rfl
   ·rfl
  ·rfl
 case alloc t=>
  simp only[evalOp]at h⊢
  split at h
  ·rename_i ti hT
   obtain⟨rfl,rfl⟩:=one h
   simp only[hT,FB]
   show some (_,_)=_
   rw[Ue hlen]
   rfl
  ·cases h
 case box t x=>
  simp only[evalOp,gJ]at h⊢
  split at h
  ·rename_i ti v hT hv
   obtain⟨hb,h⟩:=aG h
   obtain⟨rfl,rfl⟩:=one h
   simp only[hT,hv,hb,cond_true,FB]
   show some (_,_)=_
   rw[Ue hlen]
   rfl
  ·cases h
 case slice t x lo hi mx=>
  refine yX h fun bs=> ?_
  cases hsb:KE C dst with
  |true=>rw[hsb]at hw;cases hw
  |false=>
  have oi:∀y,o_ (⟨s.fr,wb s.m bs⟩:S) y=o_ s y:=fun y=>by cases y<;>simp[o_,opw]
  simp only[evalOp,opw,oi,hsb,cond_false]
  split
  ·split
   ·exact Ud
   ·rfl
  ·split
   ·exact ZK
   ·rfl
  ·split
   ·exact WE
   ·rfl
  ·rfl
 case call q=>
  cases hc:q.callee with
  |invoke r m=>rw[evalOp]at h;simp only[hc]at h;cases h
  |value f=>
   by_cases hX:∃g xg,f= .func g∧C.x g (DT (q.args.toList.map s.gJ))=some xg
   ·obtain ⟨g,xg,rfl,hX⟩:=hX
    have oq:q.args.toList.map (⟨s.fr,s.m.jK H⟩:S).gJ=q.args.toList.map s.gJ:=List.map_congr_left fun x _=>gJ x
    simp only[evalOp,hc,hX]at h
    simp only[evalOp,hc,oq,hX]
    refine WH h fun i hi=> ?_
    have:=hH i hi
    refine⟨this.1,?_⟩
    have h2:=this.2
    simp only[uO]at h2
    simpa[List.flatMap_map]using h2
   ·refine yX h fun bs=> ?_
    have oq:q.args.toList.map (⟨s.fr,wb s.m bs⟩:S).gJ=q.args.toList.map s.gJ:=List.map_congr_left fun x _=>opw bs x
    simp only[evalOp,oq,hc,opw]
    cases f with
    |func g=>
     cases hX2:C.x g (DT (q.args.toList.map s.gJ))with
     |some xg=>exact absurd ⟨g,xg,rfl,hX2⟩ hX
     |none=>
      simp only[hX2]
      split
      ·exact Ua
      ·exact abT
    |tmp t=>
     simp only
     split
     ·exact Ua
     ·rfl
    |_=>rfl
  |builtin b=>
  refine yX h fun bs=> ?_
  have oq:q.args.toList.map (⟨s.fr,wb s.m bs⟩:S).gJ=q.args.toList.map s.gJ:=List.map_congr_left fun x _=>opw bs x
  simp only[evalOp,oq,hc]
  rw[qj,Ub];rfl
end
theorem abV {x:Nat}{l:List Nat}(h:aa0 x l=true):x∈l:=by
 simp only[aa0,List.any_eq_true]at h
 obtain⟨y,hy,he⟩:=h
 rw[Nat.eq_of_beq_eq_true he];exact hy
theorem Uh {x:Nat}{l:List Nat}(h:x∈l):aa0 x l=true:=List.any_eq_true.2 ⟨x,h,Nat.beq_refl x⟩
theorem Ls {all:List Oper}{bj:List Nat}{y:Oper}{b:yj}:∀{l:List (Oper×yj)} {k:Nat},XD all bj y b k l=true→∀i x a,l[i]? =some (x,a)→(k+i∈bj∨zD all x y a b=true)∧(lW y=true→wO a.rd b.tc=true∧wO a.tc b.tc=true)
 |[],k,h,i,x,a,e=>by simp at e
 |(x0,a0)::r,k,h,i,x,a,e=>by
  simp only[XD,Bool.and_eq_true,Bool.or_eq_true]at h
  cases i with
  |zero=>
   simp at e
   obtain⟨rfl,rfl⟩:=e
   refine⟨h.1.1.imp abV id,fun hn=> ?_⟩
   have:=h.1.2
   rw[hn]at this
   simpa using this
  |succ i=>
   have:=Ls h.2 i x a (by simpa using e)
   rwa[show k+(i+1)=k+1+i by omega]
structure XV (all:List Oper) (zs:List (Oper×yj)) (bs:List (List Nat)):Prop where
 one:∀(j:Nat) y b,zs[j]? =some (y,b)→aa1 y=true∧EI j y=true∧∃bj,bs[j]? =some bj
 two:∀(i j:Nat) x a y b bj,i<j→zs[i]? =some (x,a)→zs[j]? =some (y,b)→bs[j]? =some bj→(i∈bj∨zD all x y a b=true)∧(lW y=true→wO a.rd b.tc=true∧wO a.tc b.tc=true)
theorem FC {all:List Oper}:∀{rest done:List (Oper×yj)} {bs:List (List Nat)},EJ all done rest bs=true→
  ∀q y b,rest[q]? =some (y,b)→aa1 y=true∧EI (done.length+q) y=true∧∃bj,bs[q]? =some bj∧∀i x a,i<done.length+q→(done++rest)[i]? =some (x,a)→(i∈bj∨zD all x y a b=true)∧(lW y=true→wO a.rd b.tc=true∧wO a.tc b.tc=true)
 |[],done,bs,h,q,y,b,e=>by simp at e
 |(y0,b0)::r,done,[],h,q,y,b,e=>by simp[EJ]at h
 |(y0,b0)::r,done,bj::bs,h,q,y,b,e=>by
  simp only[EJ,Bool.and_eq_true]at h
  obtain⟨⟨h1,h2⟩,h3,h4⟩:=h
  cases q with
  |zero=>
   simp at e
   obtain⟨rfl,rfl⟩:=e
   refine⟨h1,h2,bj,rfl,fun i x a hi hx=> ?_⟩
   rw[List.getElem?_append_left (by simpa using hi)]at hx
   simpa using Ls h3 i x a hx
  |succ q=>
   obtain⟨h5,h6,bj',h7,h8⟩:=FC h4 q y b (by simpa using e)
   refine⟨h5,by rw[show done.length+(q+1)=(done++[(y0,b0)]).length+q by simp;omega];exact h6,bj',by simpa using h7,fun i x a hi hx=>h8 i x a (by simp;omega) (by simpa using hx)⟩
theorem Ui {all:List Oper}{lg:List yj}(h:DV all lg=true):XV all (all.zip lg) (SI all []):=by
 have:=FC h
 refine⟨fun j y b e=> ?_,fun i j x a y b bj hij hi hj hb=> ?_⟩
 ·obtain ⟨h1,h2,bj,h3,_⟩:=this j y b e
  exact⟨h1,by simpa using h2,bj,h3⟩
 ·obtain ⟨_,_,bj',h3,h4⟩:=this j y b hj
  obtain rfl:bj=bj':=Option.some.inj (hb.symm.trans h3)
  exact h4 i x a (by simpa using hij) (by simpa using hi)
theorem JV {i:Nat}:∀{n:Nat} {a b:List Nat},i∈mrg n a b→i∈a∨i∈b
 |0,a,b,h=>by simpa[mrg]using h
 |n+1,[],b,h=> .inr (by simpa[mrg]using h)
 |n+1,x::a,[],h=> .inl (by simpa[mrg]using h)
 |n+1,x::a,y::b,h=>by
  simp only[mrg]at h
  cases h1:Nat.blt x y with
  |true=>
   rw[h1]at h
   rcases List.mem_cons.1 h with rfl|h
   ·exact .inl (by simp)
   ·exact (JV h).imp (List.mem_cons_of_mem _) id
  |false=>
   rw[h1]at h
   cases h2:Nat.blt y x with
   |true=>
    rw[h2]at h
    rcases List.mem_cons.1 h with rfl|h
    ·exact .inr (by simp)
    ·exact (JV h).imp id (List.mem_cons_of_mem _)
   |false=>
    rw[h2]at h
    rcases List.mem_cons.1 h with rfl|h
    ·exact .inl (by simp)
    ·exact (JV h).imp (List.mem_cons_of_mem _) (List.mem_cons_of_mem _)
theorem ZM {bs:List (List Nat)}{o:Oper}{i:Nat}(h:i∈KH bs o):∃e∈o.after.toList,Region.binds .any e=true∧(i=e.on∨i∈bs.getD e.on []):=by
 unfold KH at h
 generalize o.after.toList=l at h⊢
 induction l with
 |nil=>exact absurd h (by simp)
 |cons e l ih=>
  rw[List.foldr_cons]at h
  cases hb:Region.binds .any e with
  |false=>
   rw[hb]at h
   obtain⟨e',h1,h2⟩:=ih h
   exact⟨e',List.mem_cons_of_mem _ h1,h2⟩
  |true=>
   rw[hb]at h
   rcases JV h with h|h
   ·refine ⟨e,by simp,hb,?_⟩
    rcases List.mem_append.1 h with h|h
    ·exact .inr h
    ·exact .inl (by simpa using h)
   ·obtain ⟨e',h1,h2⟩:=ih h
    exact⟨e',List.mem_cons_of_mem _ h1,h2⟩
theorem OO:∀{l:List Oper} {bs:List (List Nat)},∃tl,SI l bs=bs++tl∧∀j o,l[j]? =some o→tl[j]? =some (KH (bs++tl.take j) o)
 |[],bs=>⟨[],by simp[SI],fun j o h=>by simp at h⟩
 |o::l,bs=>by
  obtain⟨tl,h1,h2⟩:=OO (l:=l) (bs:=bs++[KH bs o])
  refine⟨KH bs o::tl,by simp[SI,h1],fun j o' h=> ?_⟩
  cases j with
  |zero=>simp at h;subst h;simp
  |succ j=>simpa using h2 j o' (by simpa using h)
def Qy (ops:List Oper)(L:Nat→Prop):Prop:=∀(i:Nat) (o:Oper),ops[i]? =some o→L i→∀e∈o.after.toList,Region.binds .any e=true→L e.on
theorem ai7 {ops:List Oper}{L:Nat→Prop}(hc:Qy ops L)(he:∀(j:Nat)(o:Oper),ops[j]? =some o→EI j o=true):∀(j:Nat) (o:Oper) (bj:List Nat),ops[j]? =some o→(SI ops [])[j]? =some bj→
  (∀e∈o.after.toList,Region.binds .any e=true→L e.on)→∀i∈bj,L i:=by
 obtain⟨tl,h1,h2⟩:=OO (l:=ops) (bs:=[])
 simp only[List.nil_append]at h1
 rw[h1]
 intro j
 induction j using Nat.strongRecOn with
 |_ j ih=>
  intro o bj ho hb ha i hi
  have h3:=h2 j o ho
  simp only[List.nil_append]at h3
  obtain rfl:bj=KH (tl.take j) o:=Option.some.inj (hb.symm.trans h3)
  obtain⟨e,hem,Vt,hie⟩:=ZM hi
  ·have dX:e.on<j:=by
    have:=List.all_eq_true.1 (he j o ho) e hem
    rw[Vt]at this
    simpa using this
   rcases hie with rfl|hie
   ·exact ha e hem Vt
   ·have Vw:j<tl.length:=(List.getElem?_eq_some_iff.1 hb).1
    have h4:(tl.take j).getD e.on []=tl.getD e.on []:=by
     simp[List.getD,List.getElem?_take,dX]
    rw[h4]at hie
    have hol:e.on<ops.length:=Nat.lt_trans dX (List.getElem?_eq_some_iff.1 ho).1
    have h5:tl[e.on]? =some tl[e.on]:=List.getElem?_eq_getElem (by omega)
    have aqw:i∈tl[e.on]:=by simpa[List.getD,h5]using hie
    exact ih e.on dX _ _ (List.getElem?_eq_getElem hol) h5 (hc _ _ (List.getElem?_eq_getElem hol) (ha e hem Vt)) i aqw
def Ref (x y:SV):Prop:=y=x∨∃b,x.bool? =some b∧y=cb b
theorem Ref.refl (x:SV):Ref x x:= .inl rfl
theorem Ref.trans {x y z:SV}(h:Ref x y)(k:Ref y z):Ref x z:=by
 rcases h with rfl|⟨b,hb,rfl⟩
 ·exact k
 ·rcases k with rfl|⟨b',AZ,rfl⟩
  ·exact .inr ⟨b,hb,rfl⟩
  ·have:b=b':=by simpa[cb,SV.bool?]using AZ
   subst this
   exact .inr ⟨b,hb,rfl⟩
theorem Ref.rel {w:World}{ok may:Nat→Prop}{ow:Ow}{m:Mem}{x y:SV}{v:Value}(h:Ref x y)(hx:aS w ok may ow m x v):aS w ok may ow m y v:=by
 rcases h with rfl|⟨b,hb,rfl⟩
 ·exact hx
 ·rw [bool?nK hx hb];exact rfl
structure D7 where
 s:S
 v:SV
 m:Mem
 wt:Bool
structure OQ (C:ak) (T:dH) (N B:Nat) (all:List Oper) (j:Nat) (s:S) (o:Oper) (e:D7):Prop where
 m:e.s.m=s.m
 ref:∀t,Ref (s.get t) (e.s.get t)
 dst:Iz N o.dst=true
 new:lW o=true→e.wt=true∧e.v= .box (B+j) 0∧e.m=e.s.m∧(DU T o).isSome=true
 yes:lW o=false→e.wt=true→evalOp C T e.s o mk=some (e.v,e.m)∧(o.guard=none∨∃g want d,o.guard=some (g,want)∧(all[g]?).bind (·.dst)=some d∧e.s.get d=cb want)
 no:e.wt=false→e.v= .JF []∧e.m=e.s.m∧∃g want d,o.guard=some (g,want)∧(all[g]?).bind (·.dst)=some d∧(e.s.get d=cb (!want)∨isVoid (e.s.get d)=true)
def Dy (C:ak)(T:dH)(N B:Nat)(all:List Oper):Nat→S→List Oper→List D7→S→Prop
 |_,s,[],[],s'=>s'=s
 |j,s,o::r,e::es,s'=>OQ C T N B all j s o e∧Dy C T N B all (j+1) (e.s.put o.dst e.v e.m) r es s'
 |_,_,_,_,_=>False
def yA (C:ak)(B:Nat):Nat→List Oper→List D7→List yj
 |j,o::r,e::es=>j_ C B j e.s o e.wt e.m::yA C B (j+1) r es
 |_,_,_=>[]
theorem Uj {C:ak}{T:dH}{N B:Nat}{all:List Oper}{j:Nat}{R:Type}{r:R}{s:S}{o:Oper}{c:S→Bool→SV→Mem→Option R}(hd:Iz N o.dst=true)(rU:lW o=false)(h:EH C T all o s c=some r):
  ∃e:D7,OQ C T N B all j s o e∧c e.s e.wt e.v e.m=some r:=by
 unfold EH at h
 have nn:∀{p:Prop},lW o=true→p:=fun h=>by rw[rU]at h;cases h
 have yes:∀s':S,s'.m=s.m→(∀t,Ref (s.get t) (s'.get t))→(o.guard=none∨∃g want d,o.guard=some (g,want)∧(all[g]?).bind (·.dst)=some d∧s'.get d=cb want)→evalOp C T s' o (fun v m=>c s' true v m)=some r→∃e:D7,OQ C T N B all j s o e∧c e.s e.wt e.v e.m=some r:=by
  intro s' e hr hg h
  rw[Ll]at h
  obtain⟨p,h1,h2⟩:=Option.bind_eq_some_iff.1 h
  exact⟨⟨s',p.1,p.2,true⟩,⟨e,hr,hd,nn,fun _ _=>⟨h1,hg⟩,fun e=>by cases e⟩,h2⟩
 split at h
 ·rename_i hg
  exact yes s rfl (fun t=>Ref.refl _) (.inl hg) h
 ·rename_i g want hg
  split at h
  case h_1=>cases h
  rename_i d hdd
  cases ZA:isVoid (s.get d)with
  |true=>
   rw[ZA]at h
   exact⟨⟨s,.JF [],s.m,false⟩,⟨rfl,fun t=>Ref.refl _,hd,nn,fun _=>(by intro e;cases e),fun _=>⟨rfl,rfl,g,want,d,hg,hdd,.inr ZA⟩⟩,h⟩
  |false=>
  rw[ZA]at h
  simp only[cond_false]at h
  split at h
  case h_1=>cases h
  rename_i b hb
  have hr:∀b',b=b'→∀t,Ref (s.get t) ((s.refine (.tmp d) b').get t):=by
   rintro _ rfl t
   rw[zN]
   split
   ·rename_i e;subst e;exact .inr ⟨b,hb,rfl⟩
   ·exact Ref.refl _
  have no:∀b',b=b'→want= !b'→c (s.refine (.tmp d) b') false (.JF []) (s.refine (.tmp d) b').m=some r→∃e:D7,OQ C T N B all j s o e∧c e.s e.wt e.v e.m=some r:=by
   intro b' e hw h
   exact⟨⟨s.refine (.tmp d) b',.JF [],(s.refine (.tmp d) b').m,false⟩,⟨nV _ _ _,hr b' e,hd,nn,(fun _ e=>by cases e),fun _=>⟨rfl,rfl,g,want,d,hg,hdd,.inl (by rw[zN,if_pos rfl,hw,Bool.not_not])⟩⟩,h⟩
  have self:∀b',(s.refine (.tmp d) b').get d=cb b':=fun b'=>by rw[zN,if_pos rfl]
  cases b with
  |true=>
   cases want with
   |true=>exact yes _ (nV _ _ _) (hr true rfl) (.inr ⟨g,true,d,hg,hdd,self true⟩) h
   |false=>exact no true rfl rfl h
  |false=>
   cases want with
   |true=>exact no false rfl rfl h
   |false=>exact yes _ (nV _ _ _) (hr false rfl) (.inr ⟨g,false,d,hg,hdd,self false⟩) h
theorem wY {C:ak}{T:dH}{N B:Nat}{all:List Oper}{R:Type}{r:R}{c:List yj→S→Option R}:∀{l:List Oper} {lg:List yj} {s:S},nS C T N B all l lg s c=some r→
  ∃es s',Dy C T N B all lg.length s l es s'∧c (lg++yA C B lg.length l es) s'=some r
 |[],lg,s,h=>⟨[],s,rfl,by simpa[yA,nS]using h⟩
 |o::l,lg,s,h=>by
  obtain⟨hd,h⟩:=aG h
  cases hn:lW o with
  |true=>
   rw[hn]at h
   simp only[cond_true]at h
   split at h
   ·rename_i bx yN
    obtain⟨es,s',h3,h4⟩:=wY h
    refine⟨⟨s,.box (B+lg.length) 0,s.m,true⟩::es,s',⟨⟨rfl,fun t=>Ref.refl _,hd,fun _=>⟨rfl,rfl,rfl,by rw[yN];rfl⟩,(fun e=>by rw[hn]at e;cases e),fun e=>by cases e⟩,?_⟩,?_⟩
    ·simpa using h3
    ·simpa [yA,j_,hn]using h4
   ·cases h
  |false=>
   rw[hn]at h
   simp only[cond_false]at h
   obtain⟨e,h1,h2⟩:=Uj (B:=B) (j:=lg.length) hd hn h
   obtain⟨es,s',h3,h4⟩:=wY h2
   exact⟨e::es,s',⟨h1,by simpa using h3⟩,by simpa[yA,j_,hn]using h4⟩
def qG (es:List D7)(s':S)(j:Nat):S:=match es[j]? with
 |some e=>e.s
 |none=>s'
theorem Dy.len {C:ak}{T:dH}{N B:Nat}{all:List Oper}:∀{n:Nat} {s:S} {l:List Oper} {es:List D7} {s':S},Dy C T N B all n s l es s'→es.length=l.length
 |n,s,[],[],s',h=>rfl
 |n,s,o::r,e::es,s',h=>by simp[Dy.len h.2]
 |n,s,[],_::_,s',h=>h.elim
 |n,s,_::_,[],s',h=>h.elim
theorem Dy.first {C:ak}{T:dH}{N B:Nat}{all:List Oper}:∀{n:Nat} {s:S} {l:List Oper} {es:List D7} {s':S},Dy C T N B all n s l es s'→(qG es s' 0).m=s.m∧∀t,Ref (s.get t) ((qG es s' 0).get t)
 |n,s,[],[],s',h=>by obtain rfl:=h;exact⟨rfl,fun t=>Ref.refl _⟩
 |n,s,o::r,e::es,s',h=>⟨h.1.m,h.1.ref⟩
 |n,s,[],_::_,s',h=>h.elim
 |n,s,_::_,[],s',h=>h.elim
theorem Dy.at {C:ak}{T:dH}{N B:Nat}{all:List Oper}:∀{n:Nat} {s:S} {l:List Oper} {es:List D7} {s':S},Dy C T N B all n s l es s'→∀(j:Nat) (o:Oper) (e:D7),l[j]? =some o→es[j]? =some e→
  (∃s0,OQ C T N B all (n+j) s0 o e)∧(qG es s' (j+1)).m=e.m∧∀t,Ref ((e.s.put o.dst e.v e.m).get t) ((qG es s' (j+1)).get t)
 |n,s,[],[],s',h,j,o,e,ho,he=>by simp at ho
 |n,s,o0::r,e0::es,s',h,j,o,e,ho,he=>by
  cases j with
  |zero=>
   simp at ho he
   subst ho he
   have:=h.2.first
   refine⟨⟨s,h.1⟩,?_,?_⟩
   ·show (qG es s' 0).m=_
    rw[this.1,Fa]
   ·exact this.2
  |succ j=>
   have:=h.2.at j o e (by simpa using ho) (by simpa using he)
   rw[show n+(j+1)=n+1+j by omega]
   exact this
 |n,s,[],_::_,s',h,j,o,e,ho,he=>h.elim
 |n,s,_::_,[],s',h,j,o,e,ho,he=>h.elim
theorem Lu {C:ak}{B:Nat}:∀{n:Nat} {l:List Oper} {es:List D7} {j:Nat} {o:Oper} {e:D7},l[j]? =some o→es[j]? =some e→(l.zip (yA C B n l es))[j]? =some (o,j_ C B (n+j) e.s o e.wt e.m)
 |n,[],es,j,o,e,h,k=>by simp at h
 |n,_::_,[],j,o,e,h,k=>by simp at k
 |n,o0::l,e0::es,j,o,e,h,k=>by
  cases j with
  |zero=>simp at h k;subst h k;simp[yA]
  |succ j=>
   have:=Lu (C:=C) (B:=B) (n:=n+1) (l:=l) (es:=es) (j:=j) (o:=o) (e:=e) (by simpa using h) (by simpa using k)
   rw[show n+(j+1)=n+1+j by omega]
   simpa[yA]using this
end Go.Fx
