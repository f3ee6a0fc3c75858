/- Copies, sizes of a law's arguments, and the laws of one call. -/
import Derived.Test.YtjojmgadmdgdgaaGreatWA
namespace Go.Fx.Tryz
open Go Go.Fx Go.Fx.Num
set_option linter.unusedVariables false
set_option linter.unusedSimpArgs false
theorem mNat_F {x:Dt43}(h:x.length≤1099511627776):m_Nat.F (x,())=some (x,()):=by
 obtain⟨j,hj⟩:=allR (L:=fun k i=>m_Nat.L3 k x (x.take i) (i:Int)) (r:=(x,())) (n:=x.length)
  (fun k=>(m_Nat.L3_succ _ _ _ _).trans (geb (Nat.lt_irrefl _) (by rw[List.take_length])))
  (fun i hi k=>by
   have e1:=getD_at x (0:Int) hi
   refine(m_Nat.L3_succ _ _ _ _).trans (ltb hi (inb hi (yes (decide_eq_true ?_) ?_)))
   ·show (x.take i).length+1<_;rw[List.length_take];omega
   ·show m_Nat.L3 k x (x.take i++[List.getD x (Int.toNat (i:Int)) 0]) (IntKind.i64.wrap ((i:Int)+1))=_
    rw[e1,up1 (by omega),take_succ' x hi])
 exact m_Nat.of (0+j) x (hj 0)
theorem mRat_F {r:Dt47}(h:r.1.2.length≤1099511627776)(h2:r.2.length≤1099511627776):m_Rat.F (r,())=some (r,()):=
 m_Rat.of 0 r (st (m_Int.of 0 r.1 (st (mNat_F h) rfl)) (st (mNat_F h2) rfl))
theorem Rq.copy {r:Dt47}(h:Rq r):m_Rat.F (r,())=some (r,()):=by
 obtain⟨n,hr,hn⟩:=h
 exact mRat_F (by have:=hr.num.len;omega) (by have:=hr.den.len;omega)
theorem mForm_F {f:Dt40}{x:NF}{N:Nat}(h:Rf f x N)(hN:N≤1099511627776):m_Form.F (f,())=some (f,()):=by
 have hl:=h.len
 have hw:=h.wt.len
 obtain⟨j,hj⟩:=allR (L:=fun k i=>m_Form.L3 k f (f.take i) (i:Int)) (r:=(f,())) (n:=f.length)
  (fun k=>(m_Form.L3_succ _ _ _ _).trans (geb (Nat.lt_irrefl _) (by rw[List.take_length])))
  (fun i hi k=>by
   have e1:=getD_at f zt73 hi
   have hm:=(h.at i hi (by omega)).2
   have g1:m_Rat.F ((List.getD f (Int.toNat (i:Int)) zt73).2,())=some (f[i].2,()):=by rw[e1];exact mRat_F (by have:=hm.num.len;omega) (by have:=hm.den.len;omega)
   refine(m_Form.L3_succ _ _ _ _).trans (ltb hi (inb hi (inb hi (st g1 (yes (decide_eq_true ?_) ?_)))))
   ·show (f.take i).length+1<_;rw[List.length_take];omega
   ·show m_Form.L3 k f (f.take i++[((List.getD f (Int.toNat (i:Int)) zt73).1,f[i].2)]) (IntKind.i64.wrap ((i:Int)+1))=_
    rw[e1,up1 (by omega),take_succ' f hi])
 exact m_Form.of (0+j) f (hj 0)
theorem Fm.copy {f x}(h:Fm f x):m_Form.F (f,())=some (f,()):=by
 obtain⟨_,N,n,hf,_,hN⟩:=h
 exact mForm_F hf (by omega)
theorem twin_F {l:Dt22}(h:∀a∈l,AtR a)(hn:l.length≤1048576):w_twin.F (l,())=some (l,()):=by
 obtain⟨j,hj⟩:=allR (L:=fun k i=>w_twin.L3 k l (l.take i++(List.replicate l.length zt69).drop i) (i:Int)) (r:=(l,())) (n:=l.length)
  (fun k=>(w_twin.L3_succ _ _ _ _).trans (geb (Nat.lt_irrefl _) (by
   rw[List.take_length,List.drop_of_length_le (by rw[List.length_replicate];exact Nat.le_refl _),List.append_nil])))
  (fun i hi k=>by
   have e1:=getD_at l zt69 hi
   have ha:=h _ (List.getElem_mem hi)
   have g1:m_Form.F ((List.getD l (Int.toNat (i:Int)) zt69).2.1,())=some (l[i].2.1,()):=by rw[e1];exact ha.form.copy
   have g2:m_Rat.F ((List.getD l (Int.toNat (i:Int)) zt69).2.2.1,())=some (l[i].2.2.1,()):=by rw[e1];exact ha.bound.copy
   have hil:i<(l.take i++(List.replicate l.length zt69).drop i).length:=by simp only[List.length_append,List.length_take,List.length_drop,List.length_replicate];omega
   refine(w_twin.L3_succ _ _ _ _).trans (ltb hi (inb hi (inb hi (st g1 (inb hi (st g2 (inb hi (inb hil ?_))))))))
   show w_twin.L3 k l (List.set (l.take i++(List.replicate l.length zt69).drop i) (Int.toNat (i:Int)) ((List.getD l (Int.toNat (i:Int)) zt69).1,(l[i].2.1,(l[i].2.2.1,(List.getD l (Int.toNat (i:Int)) zt69).2.2.2)))) (IntKind.i64.wrap ((i:Int)+1))=_
   rw[e1,up1 (by omega),Int.toNat_natCast]
   congr 1
   rw[List.set_append_right _ _ (by rw[List.length_take];omega),List.length_take,Nat.min_eq_left (by omega),Nat.sub_self,drop_at (List.replicate l.length zt69) (by rw[List.length_replicate];exact hi),take_succ' l hi,List.append_assoc]
   rfl)
 refine w_twin.of (0+j) l (yes ?_ ?_)
 ·rw [decide_eq_true (by omega),decide_eq_true (by omega),decide_eq_true (by rw[Int.toNat_natCast];omega)];rfl
 ·show w_twin.L3 (0+j) l (List.replicate (Int.toNat (l.length:Int)) zt69) 0=_
  rw[Int.toNat_natCast];exact hj 0
theorem pcw {y:NF}{N:Nat}(h:Wt y N)(hy:Nf y):Ft (pc y) (N+1):=by
 match y,h,hy with
 |[],_,_=>exact Ft.mono (n:=1) ⟨by decide,by decide,by decide,by decide⟩ (by omega)
 |m::x,h,hy=>
  have h1:=tG_lt h hy
  have h2:=tL_lt h
  have hc:Ft (ct (m::x)) (N+1):=by
   obtain⟨e1,e2⟩:=ct_num (m::x)
   have:=pw_pos (N+1)
   exact⟨by omega,by rw[e1];omega,by rw[e1];exact h1,by rw[e2];exact h2⟩
  show Ft (if m.2<0 then -(ct (m::x))else ct (m::x)) _
  split
  ·exact hc.neg
  ·exact hc
theorem sum_mem {α:Type}{f:α→Nat}:∀{l:List α} {x:α},x∈l→f x≤(l.map f).sum
 |y::l,x,h=>by
  simp only[List.map_cons,List.sum_cons]
  rcases List.mem_cons.1 h with rfl|h
  ·omega
  ·have:=sum_mem (f:=f) h;omega
theorem sum_len {α:Type}{f:α→Nat}(hf:∀x,1≤f x):∀l:List α,l.length≤(l.map f).sum
 |[]=>Nat.le_refl _
 |x::l=>by
  have:=sum_len hf l
  have:=hf x
  simp only[List.map_cons,List.sum_cons,List.length_cons]
  omega
theorem nat_b (a:Dt43):a.length+1≤K.bulk Kt43 a:=by
 show a.length+1≤((a:List Int).map (K.bulk (.int .u32))).sum+1
 have h2:a.length≤((a:List Int).map (K.bulk (.int .u32))).sum:=sum_len (f:=K.bulk (.int .u32)) (fun x=>Nat.le_refl 1) a
 omega
theorem nat_w {a:Dt43}(w:K.wf Kt43 a):Limbs a:=limbs_of fun x hx=>w x hx
theorem rat_b {r:Dt47}(w:K.wf Kt47 r):Rt r (rv r) (K.bulk Kt47 r)∧3≤K.bulk Kt47 r:=by
 have e:K.bulk Kt47 r=(1+K.bulk Kt43 r.1.2)+K.bulk Kt43 r.2:=rfl
 have h1:=nat_b r.1.2
 have h2:=nat_b r.2
 exact⟨⟨⟨nat_w w.1.2,rfl,by omega⟩,⟨nat_w w.2,rfl,by omega⟩,rfl,by omega⟩,by omega⟩
theorem form_b:∀{f:Dt40},(∀m∈f,K.wf Kt73 m)→Rf f (fv f) ((f:List Dt73).map (K.bulk Kt73)).sum∧4*f.length≤((f:List Dt73).map (K.bulk Kt73)).sum
 |[],_=>⟨.nil,Nat.le_refl _⟩
 |m::f,w=>by
  obtain⟨h1,h2⟩:=form_b (f:=f) fun l hl=>w l (List.mem_cons_of_mem _ hl)
  obtain⟨h3,h4⟩:=rat_b (w m List.mem_cons_self).2
  have e:K.bulk Kt73 m=1+K.bulk Kt47 m.2:=rfl
  have e2:(((m::f:List Dt73)).map (K.bulk Kt73)).sum=K.bulk Kt73 m+((f:List Dt73).map (K.bulk Kt73)).sum:=rfl
  rw[e2,List.length_cons]
  refine⟨.cons h3 h1 ?_,by omega⟩
  omega
theorem inv_w {f:Dt40}(w:∀m∈f,K.wf Kt73 m):InV (fv f):=by
 intro m hm
 obtain⟨l,hl,rfl⟩:=List.mem_map.1 hm
 have:(Lit.int .i64 l.1).wf=true:=(w l hl).1
 simp[Lit.wf,IntKind.min,IntKind.max,IntKind.bits,IntKind.signed]at this
 exact this
theorem form_ok {f:Dt40}(w:K.wf Kt40 f)(b:K.bulk Kt40 f≤1048576):∃N,Rf f (fv f) N∧Ft (pc (nrm (fv f))) (N+1)∧4*(nrm (fv f)).length≤N∧N≤1048576∧InV (fv f):=by
 have hb:((f:List Dt73).map (K.bulk Kt73)).sum+1≤1048576:=b
 have hw:∀m∈f,K.wf Kt73 m:=fun m hm=>w m hm
 obtain⟨h1,h2⟩:=form_b hw
 refine⟨_,h1,pcw h1.wt.nrm (nrm_nf _).1,?_,by omega,inv_w hw⟩
 have key:∀x:NF,(nrm x).length≤x.length:=by
  intro x
  have hn:∀n,∀x:NF,x.length=n→(nrm x).length≤n:=by
   intro n
   induction n using Nat.strongRecOn with
   |ind n ih=>
    intro x hx
    match x,hx with
    |[],_=>rw[nrm_nil];exact Nat.zero_le _
    |[m],hx=>rw[nrm_one];split<;>simp at hx⊢<;>omega
    |x::y::z,hx=>
     have h2:2≤(x::y::z).length:=by simp
     rw[nrm_more h2]
     have mgl:∀a b:NF,(mg a b).length≤a.length+b.length:=by
      intro a b
      induction a,b using mg.induct with
      |case1 b=>rw[mg_nil_left];simp
      |case2 a ha=>rw[mg_nil_right];simp
      |case3 m a l b h1 ih=>rw[mg,if_pos h1];simp only[List.length_cons]at ih⊢;omega
      |case4 m a l b h1 h2 ih=>rw[mg,if_neg h1,if_pos h2];simp only[List.length_cons]at ih⊢;omega
      |case5 m a l b h1 h2 h3 ih=>rw[mg,if_neg h1,if_neg h2,if_pos h3];simp only[List.length_cons];omega
      |case6 m a l b h1 h2 h3 ih=>rw[mg,if_neg h1,if_neg h2,if_neg h3];simp only[List.length_cons];omega
     have i1:=ih _ (by rw[List.length_take];omega) ((x::y::z).take ((x::y::z).length/2)) rfl
     have i2:=ih _ (by rw[List.length_drop];omega) ((x::y::z).drop ((x::y::z).length/2)) rfl
     have i3:=mgl (nrm ((x::y::z).take ((x::y::z).length/2))) (nrm ((x::y::z).drop ((x::y::z).length/2)))
     rw[List.length_take]at i1
     rw[List.length_drop]at i2
     omega
  exact hn _ x rfl
 have:=key (fv f)
 have hl:=h1.len
 omega
theorem mul_small {a b:Nat}(ha:4*a≤1048576)(hb:b≤1048577):a*b≤274878169088:=by
 have:=Nat.mul_le_mul (show a≤262144 by omega) hb
 omega
theorem form_fm {f:Dt40}(w:K.wf Kt40 f)(b:K.bulk Kt40 f≤1048576):Fm f (fv f)∧Fm (fc (pr (nrm (fv f)))) (pr (nrm (fv f))):=by
 obtain⟨N,h1,h2,h3,h4,h5⟩:=form_ok w b
 have h6:=mul_small (a:=(nrm (fv f)).length) (b:=N+1) (by omega) (by omega)
 exact⟨⟨h5,N,N+1,h1,h2,by omega⟩,Fm.pr' h5 h1 h2 (by omega)⟩
theorem rat_rq {r:Dt47}(w:K.wf Kt47 r)(b:K.bulk Kt47 r≤1048576):Rq r:=⟨_,(rat_b w).1,by omega⟩
theorem atom_at {a:Dt69}(w:K.wf Kt69 a)(b:K.bulk Kt69 a≤1048576):AtR a:=by
 have hb:(a.1.size+1)+(K.bulk Kt40 a.2.1+(K.bulk Kt47 a.2.2.1+1))≤1048576:=b
 exact⟨(form_fm w.2.1 (by omega)).1,rat_rq w.2.2.1 (by omega),by omega⟩
theorem atoms_at {l:Dt22}(w:K.wf Kt22 l)(b:K.bulk Kt22 l≤1048576):(∀a∈l,AtR a)∧l.length≤1048576:=by
 have hb:((l:List Dt69).map (K.bulk Kt69)).sum+1≤1048576:=b
 refine⟨fun a ha=>atom_at (w a ha) ?_,?_⟩
 ·have:=sum_mem (f:=K.bulk Kt69) ha;omega
 ·have:List.length (α:=Dt69) l≤((l:List Dt69).map (K.bulk Kt69)).sum:=sum_len (f:=K.bulk Kt69) (fun a=>by
   have e:K.bulk Kt69 a=(a.1.size+1)+(K.bulk Kt40 a.2.1+(K.bulk Kt47 a.2.2.1+1)):=rfl
   omega) l
  omega
theorem two_ft:Ft (-2) 1:=⟨by decide,by decide,by decide,by decide⟩
theorem three_ft:Ft 3 1:=⟨by decide,by decide,by decide,by decide⟩
theorem lives_F:w_lives.F ()=some (true,()):=by
 have hw:Wt [((0:Int),(-2:Rat))] 2:= .cons two_ft (.nil (N:=0)) (by decide)
 have hx:fv (fc [((0:Int),(-2:Rat))])=[((0:Int),(-2:Rat))]:=fv_fc _
 have hn:Nf [((0:Int),(-2:Rat))]:=Nf.nil.cons (by decide) (fun l hl=>by simp at hl)
 have hs:=nrm_self hn
 have hpw:=pcw hw hn
 have hv:InV [((0:Int),(-2:Rat))]:=fun m hm=>by simp only[List.mem_singleton]at hm;subst hm;decide
 have hb:BelA (fc [((0:Int),(-2:Rat))]) (rcan 3):=by
  refine⟨⟨2,3,1,?_,?_,?_,by decide,by decide⟩,?_⟩
  ·rw [hx];exact hw.rf
  ·rw [hx,hs];exact hpw
  ·rw [rv_rcan];exact three_ft.rt
  ·rw [hx]
   exact Fm.pr' hv hw.rf (n:=3) (by rw[hs];exact hpw) (by rw[hs];decide)
 obtain⟨y,h1,h2⟩:=Below_F (l:=[tru]) (s:=true) (fun b hb=>by simp only[List.mem_singleton]at hb;rw[hb];exact tru_at) hb
 have hneg:¬0<pc [((0:Int),(-2:Rat))]:=by
  have hp:=ct_pos hn (by simp)
  have e:pc [((0:Int),(-2:Rat))]= -(ct [((0:Int),(-2:Rat))]):=by
   show(if (-2:Rat)<0 then -(ct [((0:Int),(-2:Rat))])else ct [((0:Int),(-2:Rat))])=_
   exact if_pos (by decide)
  rw[e]
  generalize ct [((0:Int),(-2:Rat))]=t at hp
  grind
 rw[hx,rv_rcan]at h2
 have hy:y.2.2=0∧y.2.1= -2∧y.1.length=2:=by
  cases h2 with
  |bad h=>exact absurd Good.new h
  |const h hx=>rw[hs]at hx;cases hx
  |up h hx hp hr=>rw[hs]at hp;exact absurd hp hneg
  |dn h hx hp hr=>
   have hne:=ine_ne 3 (!true) hx
   cases hr with
   |there i hi e=>
    have hi0:i=0:=by simp at hi;omega
    subst hi0
    exact absurd e.symm hne
   |full h e=>simp at e
   |new h e=>exact⟨rfl,by decide,rfl⟩
 obtain⟨y1,y2,y3⟩:=hy
 have e2:r03_Whole.F (-2,())=some (rcan (-2),()):=rWhole_F (z:= -2) (by decide)
 have e3:r03_Whole.F (3,())=some (rcan 3,()):=rWhole_F (z:=3) (by decide)
 refine w_lives.of 0 (st New_F (st e2 (st e3 (st h1 (yes (beq_iff_eq.2 y1) (yes (beq_iff_eq.2 y2) ?_))))))
 show some (((y.1.length:Int)==2),())=_
 rw[y3];rfl
theorem beq_self (x:Int):(x==x)=true:=beq_self_eq_true x
end Go.Fx.Tryz
