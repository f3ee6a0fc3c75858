/- The laws of implications, and of one inequality and its multiples. -/
import Derived.Test.YtjojmgadmdgdgaaGreatWB
namespace Go.Fx.Tryz
open Go Go.Fx Go.Fx.Num
set_option linter.unusedVariables false
set_option linter.unusedSimpArgs false
theorem neg64 {i:Int}(h: -9223372036854775808<i)(h2:i<9223372036854775808):negI .i64 i= -i:=by
 unfold negI;rw[IntWalk.i64_in _ (by omega)];omega
theorem neg64_min:negI .i64 (-9223372036854775808)= -9223372036854775808:=by decide
theorem lsub1 {i:Int}(h: -9223372036854775808<i)(h2:i<9223372036854775808):IntKind.i64.wrap (i-1)=i-1:=IntWalk.i64_in _ (by omega)
theorem lit_F (l:Dt22)(i:Int)(hl:l.length≤1048576)(hi: -9223372036854775808≤i∧i≤9223372036854775807):
  (∃(n:Nat) (h:n<l.length),(i=(n:Int)+1∨i= -((n:Int)+1))∧atoms_literal.F (l,i,())=some (l[n],true,())∧r17_At.F (l,i,())=some (l[n],decide (i>0),true,()))∨
   (atoms_literal.F (l,i,())=some (zt69,false,())∧r17_At.F (l,i,())=some (zt69,false,false,())):=by
 by_cases h0:i<0
 ·by_cases hm:i= -9223372036854775808
  ·have em:negI .i64 i= -9223372036854775808:=by rw[hm];exact neg64_min
   refine .inr ⟨atoms_literal.of 0 l _ (yes (decide_eq_true h0) (yes (decide_eq_true ?_) rfl)),r17_At.of 0 l _ (no (decide_eq_false (by omega)) (yes (decide_eq_true h0) (no (decide_eq_false ?_) rfl)))⟩
   ·rw [em];omega
   ·rw [neg64 (by omega) (by omega)];omega
  have en:=neg64 (i:=i) (by omega) (by omega)
  have el:=neg64 (i:=(l.length:Int)) (by omega) (by omega)
  by_cases h1: -i≤l.length
  ·obtain ⟨n,hn⟩:∃n:Nat,i= -((n:Int)+1):=⟨(-i-1).toNat,by omega⟩
   have hnl:n<l.length:=by omega
   have ew:IntKind.i64.wrap (negI .i64 i-1)=(n:Int):=by rw[en,lsub1 (by omega) (by omega)];omega
   have e1:=getD_at l zt69 hnl
   have c1:decide (i<0)=true:=decide_eq_true h0
   have c3:(decide (0≤IntKind.i64.wrap (negI .i64 i-1))&&decide (IntKind.i64.wrap (negI .i64 i-1)<(l.length:Int)))=true:=by rw[ew,decide_eq_true (by omega),decide_eq_true (by omega)];rfl
   refine .inl ⟨n,hnl,.inr hn,atoms_literal.of 0 l _ (yes c1 (no (decide_eq_false ?_) (no (decide_eq_false ?_) (yes c3 ?_)))),r17_At.of 0 l _ (no (decide_eq_false (by omega)) (yes c1 (yes (decide_eq_true ?_) (yes c3 ?_))))⟩
   ·rw [en];omega
   ·rw [en];omega
   ·show some (List.getD l (Int.toNat (IntKind.i64.wrap (negI .i64 i-1))) zt69,true,())=_
    rw[ew,e1]
   ·rw [el];omega
   ·show some (List.getD l (Int.toNat (IntKind.i64.wrap (negI .i64 i-1))) zt69,false,true,())=_
    rw[ew,e1,decide_eq_false (by omega)]
  ·refine .inr ⟨atoms_literal.of 0 l _ (yes (decide_eq_true h0) (no (decide_eq_false ?_) (yes (decide_eq_true ?_) rfl))),r17_At.of 0 l _ (no (decide_eq_false (by omega)) (yes (decide_eq_true h0) (no (decide_eq_false ?_) rfl)))⟩
   ·rw [en];omega
   ·rw [en];omega
   ·rw [el];omega
 ·by_cases h1:i<1
  ·exact .inr ⟨atoms_literal.of 0 l _ (no (decide_eq_false h0) (yes (decide_eq_true h1) rfl)),r17_At.of 0 l _ (no (decide_eq_false (by omega)) (no (decide_eq_false h0) rfl))⟩
  ·by_cases h2:i≤l.length
   ·obtain ⟨n,hn⟩:∃n:Nat,i=(n:Int)+1:=⟨(i-1).toNat,by omega⟩
    have hnl:n<l.length:=by omega
    have ew:IntKind.i64.wrap (i-1)=(n:Int):=by rw[lsub1 (by omega) (by omega)];omega
    have e1:=getD_at l zt69 hnl
    have c3:(decide (0≤IntKind.i64.wrap (i-1))&&decide (IntKind.i64.wrap (i-1)<(l.length:Int)))=true:=by rw[ew,decide_eq_true (by omega),decide_eq_true (by omega)];rfl
    refine .inl ⟨n,hnl,.inl hn,atoms_literal.of 0 l _ (no (decide_eq_false h0) (no (decide_eq_false h1) (no (decide_eq_false (by omega)) (yes c3 ?_)))),r17_At.of 0 l _ (yes (decide_eq_true (by omega)) (yes (decide_eq_true h2) (yes c3 ?_)))⟩
    ·show some (List.getD l (Int.toNat (IntKind.i64.wrap (i-1))) zt69,true,())=_
     rw[ew,e1]
    ·show some (List.getD l (Int.toNat (IntKind.i64.wrap (i-1))) zt69,true,true,())=_
     rw[ew,e1,decide_eq_true (by omega)]
   ·exact .inr ⟨atoms_literal.of 0 l _ (no (decide_eq_false h0) (no (decide_eq_false h1) (yes (decide_eq_true (by omega)) rfl))),r17_At.of 0 l _ (yes (decide_eq_true (by omega)) (no (decide_eq_false h2) (no (decide_eq_false h0) rfl)))⟩
theorem Good.at {l:Dt22}(h:Good l){n:Nat}(hn:n<l.length):(n=0∧l[n]=tru)∨(n≠0∧Ok l[n]):=by
 match l,h,n,hn with
 |a::q,h,0,_=>exact .inl ⟨rfl,h.2.1⟩
 |a::q,h,n+1,hn=>exact .inr ⟨by omega,h.2.2.1 _ (List.getElem_mem (by simpa using hn))⟩
def ord (p q:Rat)(s t:Bool):Bool:=decide (p<q)||(decide (p=q)&&(s|| !t))
theorem cmp_lt (p q:Rat):decide (rcmp p q<0)=decide (p<q):=decide_eq_decide.2 rcmp_lt
theorem cmp_eq (p q:Rat):(rcmp p q==0)=decide (p=q):=by
 by_cases h:p=q
 ·rw [decide_eq_true h];exact beq_iff_eq.2 (rcmp_eq.2 h)
 ·rw [decide_eq_false h];exact beq_f fun e=>h (rcmp_eq.1 e)
theorem ine_ok {x:NF}(q:Rat)(s:Bool)(hx:nrm x≠[]):Ok (ine x q s):=by
 have hn:=(nrm_nf x).1
 refine .inr ⟨rfl,fun e=>hx (pr_nil_iff.1 (fc_nil_iff.1 e)),?_,?_⟩
 ·show fc (pr (nrm x))=fc (pr (nrm (fv (fc (pr (nrm x))))))
  rw[fv_fc,nrm_self (pr_nf hn),pr_pr hn]
 ·show rcan _=rcan (rv (rcan _))
  rw[rv_rcan]
def vl (w:List Rat)(v:Int):Rat:=if 0≤v∧v<w.length then w.getD v.toNat 0 else 0
def ev (w:List Rat):NF→Rat
 |[]=>0
 |m::x=>m.2*vl w m.1+ev w x
theorem ev_append (w:List Rat)(a b:NF):ev w (a++b)=ev w a+ev w b:=by
 induction a with
 |nil=>show ev w b=0+ev w b;rw[Rat.zero_add]
 |cons m a ih=>show _+ev w (a++b)=_+ev w a+ev w b;rw[ih,Rat.add_assoc]
theorem ev_take_succ (w:List Rat)(x:NF){i:Nat}(h:i<x.length):ev w (x.take (i+1))=ev w (x.take i)+x[i].2*vl w x[i].1:=by
 rw[take_succ' x h,ev_append]
 show _+(_+0)=_
 rw[Rat.add_zero]
theorem ev_scl (w:List Rat)(c:Rat)(x:NF):ev w (scl c x)=c*ev w x:=by
 induction x with
 |nil=>show(0:Rat)=c*0;rw[Rat.mul_zero]
 |cons m x ih=>show c*m.2*_+ev w (scl c x)=c*(_+ev w x);rw[ih,Rat.mul_add,Rat.mul_assoc]
theorem ev_mg (w:List Rat):∀a b:NF,ev w (mg a b)=ev w a+ev w b:=by
 intro a b
 induction a,b using mg.induct with
 |case1 b=>rw[mg_nil_left];show _=0+_;rw[Rat.zero_add]
 |case2 a ha=>rw[mg_nil_right];show _=_+0;rw[Rat.add_zero]
 |case3 m a l b h1 ih=>rw[mg,if_pos h1];show _+ev w (mg a (l::b))=_+ev w a+_;rw[ih,Rat.add_assoc]
 |case4 m a l b h1 h2 ih=>rw[mg,if_neg h1,if_pos h2];show _+ev w (mg (m::a) b)=_+(_+ev w b);rw[ih];grind
 |case5 m a l b h1 h2 h3 ih=>
  rw[mg,if_neg h1,if_neg h2,if_pos h3]
  show _=(_+ev w a)+(_+ev w b)
  rw[ih,show m.1=l.1 by omega];grind
 |case6 m a l b h1 h2 h3 ih=>
  rw[mg,if_neg h1,if_neg h2,if_neg h3]
  show(m.2+l.2)*vl w m.1+ev w (mg a b)=(_+ev w a)+(_+ev w b)
  rw[ih,show m.1=l.1 by omega];grind
theorem ev_nrm (w:List Rat)(l:NF):ev w (nrm l)=ev w l:=by
 have key:∀n,∀l:NF,l.length=n→ev w (nrm l)=ev w l:=by
  intro n
  induction n using Nat.strongRecOn with
  |ind n ih=>
   intro l hl
   match l,hl with
   |[],_=>rw[nrm_nil]
   |[m],_=>
    rw[nrm_one]
    by_cases h:m.2=0
    ·rw [if_pos h]
     show(0:Rat)=m.2*_+0
     rw[h,Rat.zero_mul,Rat.add_zero]
    ·rw [if_neg h]
   |x::y::z,hl=>
    have h2:2≤(x::y::z).length:=by simp
    rw[nrm_more h2,ev_mg,ih _ (by rw[List.length_take];omega) ((x::y::z).take ((x::y::z).length/2)) rfl,ih _ (by rw[List.length_drop];omega) ((x::y::z).drop ((x::y::z).length/2)) rfl,←ev_append,List.take_append_drop]
 exact key _ l rfl
def Vs (u:Dt23)(V:Nat):Prop:=∀r∈u,Rt r (rv r) V
theorem vl_ft {u:Dt23}{V:Nat}(h:Vs u V)(hV:1≤V)(v:Int):Ft (vl (u.map rv) v) V:=by
 unfold vl
 split
 ·rename_i hv
  rw[List.length_map]at hv
  have hj:v.toNat<u.length:=by omega
  rw[List.getD_eq_getElem?_getD,List.getElem?_map,List.getElem?_eq_getElem hj]
  exact(h _ (List.getElem_mem hj)).ft
 ·exact Ft.zero.mono hV
theorem ev_ft {u:Dt23}{V:Nat}(hu:Vs u V)(hV:1≤V):∀{x:NF} {N:Nat},Wt x N→Ft (ev (u.map rv) x) (N+x.length*(V+1)+1):=by
 intro x N h
 induction h with
 |nil=>exact Ft.zero.mono (by omega)
 |cons h t hn ih=>
  refine((h.mul (vl_ft hu hV _)).add ih).mono ?_
  simp only[List.length_cons]
  rw[Nat.succ_mul];omega
theorem mul_le' {a b c:Nat}(h:a≤b):a*c≤b*c:=Nat.mul_le_mul_right c h
section
variable {f:Dt40} {x:NF} {N V:Nat} {u:Dt23}
theorem rValue_F (h:Rf f x N)(hu:Vs u V)(hV:1≤V)(hN:N+V≤1099511627776)(hB:N+x.length*(V+1)+1≤1099511627776):r06_Value.F (f,u,())=some (rcan (ev (u.map rv) x),()):=by
 have hlen:=h.len
 have hw:=h.wt.len
 have hft:∀i,Ft (ev (u.map rv) (x.take i)) (N+x.length*(V+1)+1):=fun i=>(ev_ft hu hV (h.wt.take i)).mono (by
  have:=mul_le' (c:=V+1) (show (x.take i).length≤x.length by rw[List.length_take];omega)
  omega)
 obtain⟨j,hj⟩:=allR (L:=fun k i=>r06_Value.L3 k f u false (rcan (ev (u.map rv) (x.take i))).1.1 (rcan (ev (u.map rv) (x.take i))).1.2 (rcan (ev (u.map rv) (x.take i))).2 (i:Int)) (r:=(rcan (ev (u.map rv) x),())) (n:=f.length)
  (fun k=>(r06_Value.L3_succ _ _ _ _ _ _ _ _).trans (geb (Nat.lt_irrefl _) (by rw[hlen,List.take_length])))
  (fun i hi k=>by
   have hx:i<x.length:=by omega
   have e1:=getD_at f zt73 hi
   obtain⟨a1,a2⟩:=h.at i hi hx
   have e2:=ev_take_succ (u.map rv) x hx
   have e3:(List.getD f (Int.toNat (i:Int)) zt73).1=x[i].1:=by rw[e1];exact a1
   by_cases hv:0≤x[i].1∧x[i].1<u.length
   ·obtain ⟨j0,hj0⟩:∃j0:Nat,x[i].1=(j0:Int):=⟨x[i].1.toNat,by omega⟩
    have hj:j0<u.length:=by omega
    have eu:=getD_at u zt47 hj
    have hval:vl (u.map rv) x[i].1=rv u[j0]:=by
     unfold vl
     rw[if_pos (by rw[List.length_map];exact hv),hj0,Int.toNat_natCast,List.getD_eq_getElem?_getD,List.getElem?_map,List.getElem?_eq_getElem hj];rfl
    have g1:r03_Mul.F ((List.getD f (Int.toNat (i:Int)) zt73).2,List.getD u (Int.toNat (List.getD f (Int.toNat (i:Int)) zt73).1) zt47,())=some (rcan (x[i].2*rv u[j0]),()):=by
     rw[e3,hj0,eu,e1]
     exact(a2.mono (show N≤N+V by omega)).rMul_F ((hu _ (List.getElem_mem hj)).mono (show V≤N+V by omega)) (by omega)
    have hp:=a2.ft.mul (hu _ (List.getElem_mem hj)).ft
    have g2:r03_Add.F (rcan (ev (u.map rv) (x.take i)),rcan (x[i].2*rv u[j0]),())=some (rcan (ev (u.map rv) (x.take (i+1))),()):=by
     rw[e2,hval]
     exact((hft i).rt.mono (show _≤N+V+(N+x.length*(V+1)+1)by omega)).rAdd_F (hp.rt.mono (by omega)) (by omega)
    refine(r06_Value.L3_succ _ _ _ _ _ _ _ _).trans (ltb hi (inb hi (yes (decide_eq_true ?_) (inb hi (yes (decide_eq_true ?_) (inb hi (inb hi (yes ?_ (st g1 (st g2 ?_))))))))))
    ·rw [e3];exact hv.1
    ·rw [e3];exact hv.2
    ·rw [e3,decide_eq_true hv.1,decide_eq_true hv.2];rfl
    ·show r06_Value.L3 k f u false (rcan (ev (u.map rv) (x.take (i+1)))).1.1 (rcan (ev (u.map rv) (x.take (i+1)))).1.2 (rcan (ev (u.map rv) (x.take (i+1)))).2 (IntKind.i64.wrap ((i:Int)+1))=_
     rw[up1 (by omega)]
   ·have hval:vl (u.map rv) x[i].1=0:=by unfold vl;rw[if_neg (by rw[List.length_map];exact hv)]
    rw[hval,Rat.mul_zero,Rat.add_zero]at e2
    have stp:r06_Value.L3 k f u false (rcan (ev (u.map rv) (x.take i))).1.1 (rcan (ev (u.map rv) (x.take i))).1.2 (rcan (ev (u.map rv) (x.take i))).2 (IntKind.i64.wrap ((i:Int)+1))=r06_Value.L3 k f u false (rcan (ev (u.map rv) (x.take (i+1)))).1.1 (rcan (ev (u.map rv) (x.take (i+1)))).1.2 (rcan (ev (u.map rv) (x.take (i+1)))).2 ((i+1:Nat):Int):=by rw[up1 (by omega),e2]
    refine(r06_Value.L3_succ _ _ _ _ _ _ _ _).trans (ltb hi (inb hi ?_))
    by_cases hv0:0≤x[i].1
    ·exact yes (decide_eq_true (by rw[e3];exact hv0)) (inb hi (no (decide_eq_false (by rw[e3];exact fun e=>hv ⟨hv0,e⟩)) stp))
    ·exact no (decide_eq_false (by rw[e3];exact hv0)) stp)
 exact r06_Value.of (0+j) f u (st zero_F (hj 0))
end
def isT (w:List Rat)(a:Dt69):Bool:=decide (ev w (fv a.2.1)<rv a.2.2.1)||(decide (ev w (fv a.2.1)=rv a.2.2.1)&& !a.2.2.2)
def blw (w:List Rat)(x:NF)(q:Rat)(s:Bool):Bool:=decide (ev w x+q<0)||(decide (ev w x+q=0)&& !s)
theorem lim {x N V:Nat}(h:4*x≤1048576)(hN:N≤549755813888)(hV:V≤1048576):N+x*(V+1)+1≤824634056705:=by
 have:=mul_small (a:=x) (b:=V+1) h (by omega)
 omega
theorem tri_rat (a b:Rat):a<b∨a=b∨b<a:=by
 by_cases h:a<b
 ·exact .inl h
 ·by_cases h2:a=b
  ·exact .inr (.inl h2)
  ·exact .inr (.inr (by grind))
theorem lit_at {l:Dt22}{k:Nat}{i:Int}(hk:k<l.length)(hl:l.length≤1048576)(hi:i=(k:Int)+1∨i= -((k:Int)+1)):atoms_literal.F (l,i,())=some (l[k],true,()):=by
 rcases lit_F l i hl (by omega)with⟨n,hn,e,h1,_⟩|⟨_,h2⟩
 ·have:n=k:=by omega
  subst this;exact h1
 ·exfalso
  rcases lit_F l i hl (by omega)with⟨n,hn,e,h1,h3⟩|⟨h1,_⟩
  ·rw [h2]at h3;simp at h3
  ·-- the literal is there
   have e1:=getD_at l zt69 hk
   by_cases h0:i<0
   ·have en:=neg64 (i:=i) (by omega) (by omega)
    have ew:IntKind.i64.wrap (negI .i64 i-1)=(k:Int):=by rw[en,lsub1 (by omega) (by omega)];omega
    have c3:(decide (0≤IntKind.i64.wrap (negI .i64 i-1))&&decide (IntKind.i64.wrap (negI .i64 i-1)<(l.length:Int)))=true:=by rw[ew,decide_eq_true (by omega),decide_eq_true (by omega)];rfl
    have:=atoms_literal.of 0 l i (y:=(List.getD l (Int.toNat (IntKind.i64.wrap (negI .i64 i-1))) zt69,true,())) (yes (decide_eq_true h0) (no (decide_eq_false (by rw[en];omega)) (no (decide_eq_false (by rw[en];omega)) (yes c3 rfl))))
    rw[this]at h1;simp at h1
   ·have ew:IntKind.i64.wrap (i-1)=(k:Int):=by rw[lsub1 (by omega) (by omega)];omega
    have c3:(decide (0≤IntKind.i64.wrap (i-1))&&decide (IntKind.i64.wrap (i-1)<(l.length:Int)))=true:=by rw[ew,decide_eq_true (by omega),decide_eq_true (by omega)];rfl
    have:=atoms_literal.of 0 l i (y:=(List.getD l (Int.toNat (IntKind.i64.wrap (i-1))) zt69,true,())) (no (decide_eq_false h0) (no (decide_eq_false (by omega)) (no (decide_eq_false (by omega)) (yes c3 rfl))))
    rw[this]at h1;simp at h1
theorem below_F {u:Dt23}{V:Nat}(hu:Vs u V)(hV:1≤V)(hV2:V≤1048576){f:Dt40}{r:Dt47}{s:Bool}{N m:Nat}(hf:Rf f (fv f) N)(h2:4*(fv f).length≤1048576)(h3:N≤549755813888)(hr:Rt r (rv r) m)(hm:m≤4194304):w_below.F ((f,r),s,u,())=some (blw (u.map rv) (fv f) (rv r) s,()):=by
 have hB:=lim h2 h3 hV2
 have g1:=rValue_F hf hu hV (by omega) (by omega)
 have fe:=ev_ft hu hV hf.wt
 have g2:r03_Add.F (rcan (ev (u.map rv) (fv f)),r,())=some (rcan (ev (u.map rv) (fv f)+rv r),()):=(fe.rt.mono (show _≤824634056705 by omega)).rAdd_F (hr.mono (show m≤824634056705 by omega)) (by decide)
 have g3:r03_Sign.F (rcan (ev (u.map rv) (fv f)+rv r),())=some (sgn (ev (u.map rv) (fv f)+rv r).num,()):=(fe.add hr.ft).rt.rSign_F (by omega)
 refine w_below.of 0 (f,r) s u (st g1 (st g2 (st g3 ?_)))
 unfold blw
 by_cases d1:ev (u.map rv) (fv f)+rv r<0
 ·rw [decide_eq_true d1]
  exact yes ((lt_beq _).trans (decide_eq_true d1)) rfl
 rw[decide_eq_false d1]
 refine no ((lt_beq _).trans (decide_eq_false d1)) ?_
 by_cases d2:ev (u.map rv) (fv f)+rv r=0
 ·rw [decide_eq_true d2]
  exact yes ((eq_beq _).trans (decide_eq_true d2)) rfl
 ·rw [decide_eq_false d2]
  exact no ((eq_beq _).trans (decide_eq_false d2)) rfl
theorem ev_pr {w:List Rat}(x:NF):ev w (pr (nrm x))=(pc (nrm x))⁻¹*ev w x:=by unfold pr;rw[ev_scl,ev_nrm]
theorem lt_mul {a b c:Rat}(hc:0<c)(h:a<b):c*a<c*b:=by
 have:=Rat.mul_pos hc (show 0<b-a by grind)
 grind
theorem is_ine_up {w:List Rat}{x:NF}(q:Rat)(s:Bool)(hp:0<pc (nrm x)):isT w (ine x q s)=blw w x q s:=by
 have e1:ev w (fv (ine x q s).2.1)=(pc (nrm x))⁻¹*ev w x:=by show ev w (fv (fc _))=_;rw[fv_fc,ev_pr]
 have e2:rv (ine x q s).2.2.1=q/ -(pc (nrm x)):=by show rv (rcan _)=_;rw[rv_rcan]
 have hi:=Rat.mul_inv_cancel (pc (nrm x)) (by grind)
 have hi2:=Rat.mul_inv_cancel (-(pc (nrm x))) (by grind)
 have hip:0<(pc (nrm x))⁻¹:=Rat.inv_pos.2 hp
 have e3:q/ -(pc (nrm x))=(pc (nrm x))⁻¹*(-q):=by
  rw[Rat.div_def]
  generalize (-(pc (nrm x)))⁻¹=j at*
  generalize (pc (nrm x))⁻¹=k at*
  grind
 unfold isT blw
 rw[e1,e2,e3]
 show(_||(_&& !s))=_
 generalize (pc (nrm x))⁻¹=k at*
 generalize ev w x=e at*
 rcases tri_rat e (-q)with h|h|h
 ·rw [decide_eq_true (lt_mul hip h),decide_eq_true (show e+q<0 by grind)];rfl
 ·rw [h,decide_eq_false (show ¬k* -q<k* -q by grind),decide_eq_false (show ¬-q+q<0 by grind),decide_eq_true rfl,decide_eq_true (show -q+q=0 by grind)]
 ·have h2:=lt_mul hip h
  rw[decide_eq_false (show ¬k*e<k* -q by grind),decide_eq_false (show ¬e+q<0 by grind),decide_eq_false (show ¬k*e=k* -q by grind),decide_eq_false (show ¬e+q=0 by grind)]
theorem is_ine_dn {w:List Rat}{x:NF}(q:Rat)(s:Bool)(hp:pc (nrm x)<0):isT w (ine x q (!s))= !blw w x q s:=by
 have e1:ev w (fv (ine x q (!s)).2.1)=(pc (nrm x))⁻¹*ev w x:=by show ev w (fv (fc _))=_;rw[fv_fc,ev_pr]
 have e2:rv (ine x q (!s)).2.2.1=q/ -(pc (nrm x)):=by show rv (rcan _)=_;rw[rv_rcan]
 have hi:=Rat.mul_inv_cancel (pc (nrm x)) (by grind)
 have hi2:=Rat.mul_inv_cancel (-(pc (nrm x))) (by grind)
 have hip:0<(-(pc (nrm x)))⁻¹:=Rat.inv_pos.2 (by grind)
 have e3:q/ -(pc (nrm x))=(-(pc (nrm x)))⁻¹*q:=by rw[Rat.div_def,Rat.mul_comm]
 have e4:(pc (nrm x))⁻¹*ev w x=(-(pc (nrm x)))⁻¹* -(ev w x):=by
  generalize (-(pc (nrm x)))⁻¹=j at*
  generalize (pc (nrm x))⁻¹=k at*
  grind
 unfold isT blw
 rw[e1,e2,e3,e4]
 show(_||(_&& !!s))=_
 generalize (-(pc (nrm x)))⁻¹=k at*
 generalize ev w x=e at*
 rcases tri_rat e (-q)with h|h|h
 ·have h2:=lt_mul hip (show q< -e by grind)
  rw[decide_eq_false (show ¬k* -e<k*q by grind),decide_eq_true (show e+q<0 by grind),decide_eq_false (show ¬k* -e=k*q by grind)];rfl
 ·rw [h,decide_eq_false (show ¬k* - -q<k*q by grind),decide_eq_false (show ¬-q+q<0 by grind),decide_eq_true (show k* - -q=k*q by grind),decide_eq_true (show -q+q=0 by grind)];cases s<;>rfl
 ·have h2:=lt_mul hip (show -e<q by grind)
  rw[decide_eq_true h2,decide_eq_false (show ¬e+q<0 by grind),decide_eq_false (show ¬e+q=0 by grind)];rfl
theorem Put.where' {l a r}(h:Put l a r)(he:r.2.2=0):∃(k:Nat) (hk:k<r.1.length),r.1[k]=a∧r.2.1=(k:Int)+1:=by
 cases h with
 |there i h e=>exact⟨i,h,e,rfl⟩
 |full h e=>cases he
 |new h e=>exact⟨l.length,by simp,by simp,rfl⟩
theorem Put.good {l a r}(h:Put l a r)(hg:Good l)(ha:Ok a)(he:r.2.2=0):Good r.1∧l=r.1.take l.length:=by
 cases h with
 |there i h e=>exact⟨hg,(List.take_length).symm⟩
 |full h e=>cases he
 |new h e=>
  refine⟨?_,by simp⟩
  match l,hg,h,e with
  |b::q,hg,h,e=>
   have h1:=hg.1
   simp only[List.length_cons]at e
   refine⟨by show(q++[a]).length+1≤262144;rw[List.length_append,List.length_singleton];omega,hg.2.1,fun c hc=> ?_,?_⟩
   ·rcases List.mem_append.1 hc with hc|hc
    ·exact hg.2.2.1 c hc
    ·simp only[List.mem_singleton]at hc;rw[hc];exact ha
   ·refine List.nodup_append.2 ⟨hg.2.2.2,by simp,fun c hc d hd=> ?_⟩
    simp only[List.mem_singleton]at hd
    rw[hd];rintro rfl;exact h (List.mem_cons_of_mem _ hc)
def Lit' (l:Dt22)(i:Int)(x:NF)(q:Rat)(s:Bool):Prop:=∃(k:Nat) (h:k<l.length),l[k].1=ByteArray.empty∧((i=(k:Int)+1∧∀w,isT w l[k]=blw w x q s)∨(i= -((k:Int)+1)∧∀w,isT w l[k]= !blw w x q s))
theorem is_tru (w:List Rat):isT w tru=true:=by
 unfold isT
 show(decide (ev w (fv [])<rv (rcan 0))||(decide (ev w (fv [])=rv (rcan 0))&& !false))=true
 rw[rv_rcan]
 show(decide ((0:Rat)<0)||(decide ((0:Rat)=0)&& !false))=true
 rw[decide_eq_true (show (0:Rat)=0 from rfl)];exact Bool.or_true _
theorem Bel.means {l x q s y}(hl:l.length≤262144)(h:Bel l x q s y)(he:y.2.2=0):Good y.1∧l=y.1.take l.length∧l.length≤y.1.length∧Lit' y.1 y.2.1 x q s:=by
 have len:∀{r:Dt22},l=r.take l.length→l.length≤r.length:=fun h=>by have:=congrArg List.length h;rw[List.length_take]at this;omega
 cases h with
 |bad h=>cases he
 |const h hx=>
  refine⟨h,List.take_length.symm,Nat.le_refl _,?_⟩
  match l,h with
  |a::r,h=>
   have ha:a=tru:=h.2.1
   refine⟨0,by simp,by simp only[List.getElem_cons_zero];rw[ha];rfl,?_⟩
   simp only[List.getElem_cons_zero,ha]
   have hev:∀w,ev w x=0:=fun w=>by rw[←ev_nrm,hx];rfl
   have hb:∀w,blw w x q s=decide (cst q s=1):=fun w=>by
    unfold blw cst
    rw[hev,Rat.zero_add]
    by_cases h1:q<0
    ·rw [if_pos h1,decide_eq_true h1];rfl
    ·rw [if_neg h1,decide_eq_false h1]
     by_cases h2:q=0
     ·rw [if_pos h2,decide_eq_true h2];cases s<;>rfl
     ·rw [if_neg h2,decide_eq_false h2];rfl
   have hc:cst q s=1∨cst q s= -1:=by unfold cst;split;exact .inl rfl;split;split;exact .inr rfl;exact .inl rfl;exact .inr rfl
   rcases hc with hc|hc
   ·refine .inl ⟨hc,fun w=> ?_⟩
    rw[is_tru,hb,hc];rfl
   ·refine .inr ⟨hc,fun w=> ?_⟩
    rw[is_tru,hb,hc];rfl
 |up h hx hp hr=>
  obtain⟨g1,g2⟩:=hr.good h (ine_ok q s hx) he
  obtain⟨k,hk,e1,e2⟩:=hr.where' he
  exact⟨g1,g2,len g2,k,hk,by rw[e1];rfl,.inl ⟨e2,fun w=>by rw[e1];exact is_ine_up q s hp⟩⟩
 |dn h hx hp hr=>
  obtain⟨g1,g2⟩:=hr.good h (ine_ok q (!s) hx) he
  obtain⟨k,hk,e1,e2⟩:=hr.where' he
  have hpn:pc (nrm x)<0:=by have:=pc_ne (nrm_nf x).1;grind
  have hk2:=hr.len
  refine⟨g1,g2,len g2,k,hk,by rw[e1];rfl,.inr ⟨?_,fun w=>by rw[e1];exact is_ine_dn q s hpn⟩⟩
  show negI .i64 _=_
  rw[e2,neg64 (by omega) (by omega)]
theorem Bel.err {l x q s y}(hg:Good l)(h:Bel l x q s y)(he:y.2.2≠0):y.2.2=2∧l.length=262144:=by
 have put:∀{a r},Put l a r→r.2.2≠0→r.2.2=2∧l.length=262144:=by
  intro a r h he
  cases h with
  |there i h e=>exact absurd rfl he
  |full h e=>exact⟨rfl,e⟩
  |new h e=>exact absurd rfl he
 cases h with
 |bad h=>exact absurd hg h
 |const h hx=>exact absurd rfl he
 |up h hx hp hr=>exact put hr he
 |dn h hx hp hr=>have:=put hr he;exact this
def hl (x b:Rat)(s n:Bool):Bool:=(decide (x-b<0)||(decide (x-b=0)&& !s)) != n
theorem hl_lt {x b:Rat}(s n:Bool)(h:x<b):hl x b s n= !n:=by
 unfold hl;rw[decide_eq_true (show x-b<0 by grind)];cases n<;>rfl
theorem hl_eq {x b:Rat}(s n:Bool)(h:x=b):hl x b s n=((!s) != n):=by
 unfold hl;rw[decide_eq_false (show ¬x-b<0 by grind),decide_eq_true (show x-b=0 by grind)];rfl
theorem hl_gt {x b:Rat}(s n:Bool)(h:b<x):hl x b s n=n:=by
 unfold hl;rw[decide_eq_false (show ¬x-b<0 by grind),decide_eq_false (show ¬x-b=0 by grind)];cases n<;>rfl
def qabs (q:Rat):Rat:=if q<0 then -q else q
noncomputable def five (b c:Rat):List Rat:=[b,c,(1:Rat)/2*(b+c),b-qabs (b-c)-1,b+qabs (b-c)+1]
def ans (b c:Rat)(s t m n:Bool):Bool:=(m==n)&&(if m=true then ord c b t s else ord b c s t)
theorem ord_lt {p q:Rat}(s t:Bool)(h:p<q):ord p q s t=true:=by unfold ord;rw[decide_eq_true h];rfl
theorem ord_eq {p q:Rat}(s t:Bool)(h:p=q):ord p q s t=(s|| !t):=by unfold ord;rw[decide_eq_false (show ¬p<q by grind),decide_eq_true h];rfl
theorem ord_gt {p q:Rat}(s t:Bool)(h:q<p):ord p q s t=false:=by unfold ord;rw[decide_eq_false (show ¬p<q by grind),decide_eq_false (show ¬p=q by grind)];rfl
theorem half_two:(1:Rat)/2*2=1:=by rw[Rat.div_def,Rat.one_mul];exact Rat.inv_mul_cancel 2 (by decide)
theorem five_ans (b c:Rat)(s t m n:Bool):(five b c).all (fun x=> !(hl x b s m&& !hl x c t n))=ans b c s t m n:=by
 have h2:=half_two
 unfold five ans
 generalize (1:Rat)/2=k at h2
 have hy:k*(b+c)*2=b+c:=by grind
 generalize k*(b+c)=y at hy
 simp only[List.all_cons,List.all_nil,Bool.and_true]
 rcases tri_rat b c with h|h|h
 ·have ha:qabs (b-c)=c-b:=by unfold qabs;rw[if_pos (by grind)];grind
  rw[ha,hl_eq s m (rfl:b=b),hl_lt t n h,hl_gt s m h,hl_eq t n (rfl:c=c),hl_gt s m (show b<y by grind),hl_lt t n (show y<c by grind),
   hl_lt s m (show b-(c-b)-1<b by grind),hl_lt t n (show b-(c-b)-1<c by grind),hl_gt s m (show b<b+(c-b)+1 by grind),hl_gt t n (show c<b+(c-b)+1 by grind),ord_lt s t h,ord_gt t s h]
  cases s<;>cases t<;>cases m<;>cases n<;>rfl
 ·have ha:qabs (b-c)=0:=by unfold qabs;rw[if_neg (by grind)];grind
  subst h
  rw[ha,hl_eq s m (rfl:b=b),hl_eq t n (rfl:b=b),hl_eq s m (show y=b by grind),hl_eq t n (show y=b by grind),
   hl_lt s m (show b-0-1<b by grind),hl_lt t n (show b-0-1<b by grind),hl_gt s m (show b<b+0+1 by grind),hl_gt t n (show b<b+0+1 by grind),ord_eq s t rfl,ord_eq t s rfl]
  cases s<;>cases t<;>cases m<;>cases n<;>rfl
 ·have ha:qabs (b-c)=b-c:=by unfold qabs;rw[if_neg (by grind)]
  rw[ha,hl_eq s m (rfl:b=b),hl_gt t n h,hl_lt s m h,hl_eq t n (rfl:c=c),hl_lt s m (show y<b by grind),hl_gt t n (show c<y by grind),
   hl_lt s m (show b-(b-c)-1<b by grind),hl_lt t n (show b-(b-c)-1<c by grind),hl_gt s m (show b<b+(b-c)+1 by grind),hl_gt t n (show c<b+(b-c)+1 by grind),ord_gt s t h,ord_lt t s h]
  cases s<;>cases t<;>cases m<;>cases n<;>rfl
def Lt (l:Dt22)(x:NF)(q:Rat)(s:Bool)(i:Int):Prop:=∃(k:Nat) (h:k<l.length),k≠0∧((0<pc (nrm x)∧l[k]=ine x q s∧i=(k:Int)+1)∨(pc (nrm x)<0∧l[k]=ine x q (!s)∧i= -((k:Int)+1)))
theorem Lt.grow {l l':Dt22} {x q s i}(h:Lt l x q s i)(hp:l=l'.take l.length)(hle:l.length≤l'.length):Lt l' x q s i:=by
 obtain⟨k,hk,h0,h1⟩:=h
 have e:l'[k]'(by omega)=l[k]:=by
  have:(l'.take l.length)[k]? =l[k]? :=by rw[←hp]
  rw[List.getElem?_take_of_lt hk,List.getElem?_eq_getElem (by omega),List.getElem?_eq_getElem hk]at this
  exact Option.some.inj this
 exact⟨k,by omega,h0,by rw[e];exact h1⟩
theorem Bel.lt {l x q s y}(hx:nrm x≠[])(h:Bel l x q s y)(he:y.2.2=0):Lt y.1 x q s y.2.1:=by
 have put:∀{s r},Put l (ine x q s) r→Good l→r.2.2=0→∃(k:Nat) (h:k<r.1.length),k≠0∧r.1[k]=ine x q s∧r.2.1=(k:Int)+1:=by
  intro s r hr hg he
  obtain⟨k,hk,e1,e2⟩:=hr.where' he
  have hg2:=(hr.good hg (ine_ok q s hx) he).1
  refine⟨k,hk,?_,e1,e2⟩
  rintro rfl
  rcases hg2.at hk with⟨_,e⟩|⟨e,_⟩
  ·exact ine_ne q s hx (e1.symm.trans e)
  ·omega
 cases h with
 |bad h=>cases he
 |const h hx'=>exact absurd hx' hx
 |up h hx' hp hr=>
  obtain⟨k,hk,h0,e1,e2⟩:=put hr h he
  exact⟨k,hk,h0,.inl ⟨hp,e1,e2⟩⟩
 |dn h hx' hp hr=>
  obtain⟨k,hk,h0,e1,e2⟩:=put hr h he
  have hk2:=hr.len
  have hl:=h.len
  refine⟨k,hk,h0,.inr ⟨by have:=pc_ne (nrm_nf x).1;grind,e1,?_⟩⟩
  show negI .i64 _=_
  rw[e2,neg64 (by omega) (by omega)]
theorem ord_self (p:Rat)(s:Bool):ord p p s s=true:=by rw[ord_eq s s rfl];cases s<;>rfl
theorem Implies_at {l:Dt22}(hl:∀a∈l,AtR a)(hg:Good l){n m:Nat}(hn:n<l.length)(hm:m<l.length)(n0:n≠0)(m0:m≠0){i j:Int}(hi:i=(n:Int)+1∨i= -((n:Int)+1))(hj:j=(m:Int)+1∨j= -((m:Int)+1))(hf:l[n].2.1=l[m].2.1)(hne:l[n].2.1≠[]):
  atoms_Implies.F (l,i,j,())=some ((decide (i>0)==decide (j>0))&&(if i>0 then ord (rv l[n].2.2.1) (rv l[m].2.2.1) l[n].2.2.2 l[m].2.2.2 else ord (rv l[m].2.2.1) (rv l[n].2.2.1) l[m].2.2.2 l[n].2.2.2),0,()):=by
 obtain⟨t,v,h1,h2,_⟩:=load_F hl
 obtain rfl:v=true:=h2.2 hg
 have hlen:=hg.len
 have e1:=lit_at hn (by omega) hi
 have e3:=lit_at hm (by omega) hj
 have code:=fun r (h:_=some r)=>atoms_Implies.of 0 l i j (y:=r) (st h1 (st e1 (st e3 (no rfl (no rfl (no rfl h))))))
 by_cases c1:i=j
 ·have:n=m:=by omega
  subst this
  rw[c1]
  refine(code (true,0,()) (yes (beq_iff_eq.2 c1) rfl)).trans ?_ |> fun h=>by rw[c1]at h;exact h
  rw[ord_self]
  have:(decide (j>0)==decide (j>0))=true:=by cases decide (j>0)<;>rfl
  rw[this]
  split<;>rfl
 have code:=fun r (h:_=some r)=>code r (no (beq_f c1) (no (beq_f (by omega)) (no (beq_f (by omega)) (no (Bool.eq_false_iff.2 fun e=>hne (len_nil.1 e)) h))))
 have ha:=hl _ (List.getElem_mem hn)
 have hb:=hl _ (List.getElem_mem hm)
 have t1:=sameForm_F (g:=l[m].2.1) ha.lb.1
 have code:=fun r (h:_=some r)=>code r (st (t1.yes hf) (no rfl h))
 by_cases c9:decide (i>0)=decide (j>0)
 case neg=>
  have s0:(decide (i>0)==decide (j>0))=false:=beq_no c9
  rw[s0]
  exact code _ (yes (by rw[s0];rfl) rfl)
 have s0:(decide (i>0)==decide (j>0))=true:=beq_yes c9
 have s1:(!(decide (i>0)==decide (j>0)))=false:=by rw[s0];rfl
 rw[s0]
 obtain⟨k1,r1,g1⟩:=ha.bound
 obtain⟨k2,r2,g2⟩:=hb.bound
 have r1:=r1.mono (show k1≤k1+k2 by omega)
 have r2:=r2.mono (show k2≤k1+k2 by omega)
 have f12:ratio_Cmp.F (l[n].2.2.1,l[m].2.2.1,())=some (rcmp (rv l[n].2.2.1) (rv l[m].2.2.1),()):=r1.Cmp_F r2 (by omega)
 have f21:ratio_Cmp.F (l[m].2.2.1,l[n].2.2.1,())=some (rcmp (rv l[m].2.2.1) (rv l[n].2.2.1),()):=r2.Cmp_F r1 (by omega)
 generalize rv l[n].2.2.1=p at f12 f21
 generalize rv l[m].2.2.1=q at f12 f21
 by_cases ci:i>0
 ·rw [if_pos ci]
  refine code _ (no s1 (no (decide_eq_false (by omega)) (st f12 ?_)))
  show _=some (ord p q l[n].2.2.2 l[m].2.2.2,_)
  rcases tri_rat p q with d|d|d
  ·rw [ord_lt _ _ d];exact yes ((cmp_lt p q).trans (decide_eq_true d)) rfl
  ·rw [ord_eq _ _ d]
   refine no ((cmp_lt p q).trans (decide_eq_false (by grind))) (yes ((cmp_eq p q).trans (decide_eq_true d)) ?_)
   by_cases hs:l[n].2.2.2=true
   ·refine yes hs ?_;rw[hs];rfl
   ·have hs:=Bool.eq_false_iff.2 hs
    refine no hs ?_;rw[hs];rfl
  ·rw [ord_gt _ _ d]
   exact no ((cmp_lt p q).trans (decide_eq_false (by grind))) (no ((cmp_eq p q).trans (decide_eq_false (by grind))) rfl)
 ·rw [if_neg ci]
  refine code _ (no s1 (yes (decide_eq_true (by omega)) (st f21 ?_)))
  show _=some (ord q p l[m].2.2.2 l[n].2.2.2,_)
  rcases tri_rat q p with d|d|d
  ·rw [ord_lt _ _ d];exact yes ((cmp_lt q p).trans (decide_eq_true d)) rfl
  ·rw [ord_eq _ _ d]
   refine no ((cmp_lt q p).trans (decide_eq_false (by grind))) (yes ((cmp_eq q p).trans (decide_eq_true d)) ?_)
   by_cases hs:l[m].2.2.2=true
   ·refine yes hs ?_;rw[hs];rfl
   ·have hs:=Bool.eq_false_iff.2 hs
    refine no hs ?_;rw[hs];rfl
  ·rw [ord_gt _ _ d]
   exact no ((cmp_lt q p).trans (decide_eq_false (by grind))) (no ((cmp_eq q p).trans (decide_eq_false (by grind))) rfl)
theorem Implies_one {i j:Int}(hi:i=1∨i= -1)(hj:j=1∨j= -1):atoms_Implies.F (([tru]:Dt22),i,j,())=some (!(decide (i=1))||decide (j=1),0,()):=by
 have ht:∀b∈([tru]:Dt22),AtR b:=fun b hb=>by simp only[List.mem_singleton]at hb;rw[hb];exact tru_at
 obtain⟨t,v,h1,h2,_⟩:=load_F ht
 obtain rfl:v=true:=h2.2 Good.new
 have e1:=lit_at (l:=[tru]) (k:=0) (i:=i) (by decide) (by decide) (by rcases hi with h|h<;>simp[h])
 have e3:=lit_at (l:=[tru]) (k:=0) (i:=j) (by decide) (by decide) (by rcases hj with h|h<;>simp[h])
 have code:=fun r (h:_=some r)=>atoms_Implies.of 0 [tru] i j (y:=r) (st h1 (st e1 (st e3 (no rfl (no rfl (no rfl h))))))
 rcases hi with rfl|rfl<;>rcases hj with rfl|rfl
 ·exact code _ (yes rfl rfl)
 ·exact code _ (no rfl (no rfl (no rfl (yes rfl rfl))))
 ·exact code _ (no rfl (yes rfl rfl))
 ·exact code _ (yes rfl rfl)
theorem ord_mul {p q k:Rat}(hk:0<k)(s t:Bool):ord (k*p) (k*q) s t=ord p q s t:=by
 rcases tri_rat p q with d|d|d
 ·rw [ord_lt s t d,ord_lt s t (lt_mul hk d)]
 ·rw [ord_eq s t d,ord_eq s t (by rw[d])]
 ·rw [ord_gt s t d,ord_gt s t (lt_mul hk d)]
theorem ord_up {p q P:Rat}(hP:0<P)(s t:Bool):ord (-p/ -P) (-q/ -P) s t=ord p q s t:=by
 have hk:0<P⁻¹:=Rat.inv_pos.2 hP
 have e:∀r:Rat,-r/ -P=P⁻¹*r:=fun r=>by
  have h1:=Rat.mul_inv_cancel P (by grind)
  have h2:=Rat.mul_inv_cancel (-P) (by grind)
  rw[Rat.div_def]
  generalize P⁻¹=i at*
  generalize (-P)⁻¹=j at*
  grind
 rw[e,e,ord_mul hk]
theorem ord_dn {p q P:Rat}(hP:P<0)(s t:Bool):ord (-p/ -P) (-q/ -P) (!s) (!t)=ord q p t s:=by
 have hk:0<(-P)⁻¹:=Rat.inv_pos.2 (by grind)
 rw[Rat.div_def,Rat.div_def,Rat.mul_comm (-p),Rat.mul_comm (-q),ord_mul hk]
 rcases tri_rat q p with d|d|d
 ·rw [ord_lt _ _ d,ord_lt _ _ (show -p< -q by grind)]
 ·rw [ord_eq _ _ d,ord_eq _ _ (show -p= -q by grind)];cases s<;>cases t<;>rfl
 ·rw [ord_gt _ _ d,ord_gt _ _ (show -q< -p by grind)]
theorem says_ans {l:Dt22}(hl:∀a∈l,AtR a)(hg:Good l){x:NF}(hx:nrm x≠[]){p q:Rat}{s t:Bool}{i j:Int}(hi:Lt l x (-p) s i)(hj:Lt l x (-q) t j)(m n:Bool):
  atoms_Implies.F (l,(if m=true then negI .i64 i else i),(if n=true then negI .i64 j else j),())=some (ans p q s t m n,0,()):=by
 obtain⟨a,ha,a0,h1⟩:=hi
 obtain⟨b,hb,b0,h2⟩:=hj
 have hlen:=hg.len
 have hne:fc (pr (nrm x))≠[]:=fun e=>hx (pr_nil_iff.1 (fc_nil_iff.1 e))
 have ri:negI .i64 i= -i:=neg64 (by rcases h1 with h|h<;>omega) (by rcases h1 with h|h<;>omega)
 have rj:negI .i64 j= -j:=neg64 (by rcases h2 with h|h<;>omega) (by rcases h2 with h|h<;>omega)
 rw[ri,rj]
 have fa:l[a].2.1=fc (pr (nrm x)):=by rcases h1 with h|h<;>rw[h.2.1]<;>rfl
 have fb:l[b].2.1=fc (pr (nrm x)):=by rcases h2 with h|h<;>rw[h.2.1]<;>rfl
 have va:rv l[a].2.2.1= -p/ -(pc (nrm x)):=by rcases h1 with h|h<;>rw[h.2.1]<;>exact rv_rcan _
 have vb:rv l[b].2.2.1= -q/ -(pc (nrm x)):=by rcases h2 with h|h<;>rw[h.2.1]<;>exact rv_rcan _
 have key:=Implies_at hl hg ha hb a0 b0 (i:=if m=true then -i else i) (j:=if n=true then -j else j) (by rcases h1 with h|h<;>cases m<;>simp<;>omega) (by rcases h2 with h|h<;>cases n<;>simp<;>omega) (by rw[fa,fb]) (by rw[fa];exact hne)
 refine key.trans ?_
 rw[va,vb]
 congr 2
 unfold ans
 rcases h1 with⟨g1,g2,g3⟩|⟨g1,g2,g3⟩<;>rcases h2 with⟨k1,k2,k3⟩|⟨k1,k2,k3⟩
 ·have s1:l[a].2.2.2=s:=by rw[g2];rfl
  have s2:l[b].2.2.2=t:=by rw[k2];rfl
  have p1:(i>0)=True:=eq_true (by omega)
  have p2:(-i>0)=False:=eq_false (by omega)
  have p3:(j>0)=True:=eq_true (by omega)
  have p4:(-j>0)=False:=eq_false (by omega)
  rw[s1,s2,ord_up g1,ord_up g1]
  cases m<;>cases n<;>simp only[Bool.false_eq_true,if_true,if_false,p1,p2,p3,p4,decide_true,decide_false]<;>rfl
 ·exfalso;grind
 ·exfalso;grind
 ·have s1:l[a].2.2.2= !s:=by rw[g2];rfl
  have s2:l[b].2.2.2= !t:=by rw[k2];rfl
  have p1:(i>0)=False:=eq_false (by omega)
  have p2:(-i>0)=True:=eq_true (by omega)
  have p3:(j>0)=False:=eq_false (by omega)
  have p4:(-j>0)=True:=eq_true (by omega)
  rw[s1,s2,ord_dn g1,ord_dn g1]
  cases m<;>cases n<;>simp only[Bool.false_eq_true,if_true,if_false,p1,p2,p3,p4,decide_true,decide_false]<;>rfl
theorem cst_hl (p:Rat)(s m:Bool):((if m=true then negI .i64 (cst (-p) s)else cst (-p) s)=1∨(if m=true then negI .i64 (cst (-p) s)else cst (-p) s)= -1)∧decide ((if m=true then negI .i64 (cst (-p) s)else cst (-p) s)=1)=hl 0 p s m:=by
 have n1:negI .i64 1= -1:=by decide
 have n2:negI .i64 (-1)=1:=by decide
 rcases tri_rat 0 p with h|h|h
 ·rw [hl_lt s m h,show cst (-p) s=1 by unfold cst;rw[if_pos (by grind)],n1]
  cases m<;>simp
 ·rw [hl_eq s m h,show cst (-p) s=if s=true then -1 else 1 by unfold cst;rw[if_neg (by grind),if_pos (by grind)]]
  cases s<;>cases m<;>simp[n1,n2]
 ·rw [hl_gt s m h,show cst (-p) s= -1 by unfold cst;rw[if_neg (by grind),if_neg (by grind)],n2]
  cases m<;>simp
theorem below0 {q:Rat}{k:Nat}(s:Bool)(h:Ft q k)(hk:k≤4194304):w_below.F ((zt40,rcan q),s,zt23,())=some (decide (q<0)||(decide (q=0)&& !s),()):=by
 have:=below_F (u:=[]) (V:=1) (f:=[]) (r:=rcan q) (s:=s) (N:=0) (m:=k) (fun r hr=>by simp at hr) (by decide) (by decide) .nil (by decide) (by decide) (by rw[rv_rcan];exact h.rt) hk
 refine this.trans ?_
 unfold blw
 rw[rv_rcan]
 show some ((decide ((0:Rat)+q<0)||(decide ((0:Rat)+q=0)&& !s)),())=_
 rw[Rat.zero_add]
def tells (p q:Rat)(s t m n em:Bool)(xs:Dt23):Bool:=xs.all fun x=> !(hl (if em=true then 0 else rv x) p s m&& !hl (if em=true then 0 else rv x) q t n)
theorem follows_loop {b c:Dt47}{p q:Rat}{N M:Nat}(hb:Rt b p N)(hc:Rt c q N)(s t m n says em:Bool)(xs:Dt23)(hx:∀x∈xs,Rt x (rv x) M)(hM:1≤M)(hn:xs.length≤1048576)(hB:M+N+1≤4194304):
  ∃j,∀k,w_AtomsFollows.L23 (k+j) b.1.1 b.1.2 b.2 c.1.1 c.1.2 c.2 s t m n says xs true em 0=some ((says==tells p q s t m n em xs),()):=by
 have key:∀(d i:Nat) (h:Bool),i+d=xs.length→∃j,∀k,w_AtomsFollows.L23 (k+j) b.1.1 b.1.2 b.2 c.1.1 c.1.2 c.2 s t m n says xs h em (i:Int)=some ((says==(h&&tells p q s t m n em (xs.drop i))),()):=by
  intro d
  induction d with
  |zero=>
   intro i h hi
   obtain rfl:i=xs.length:=by omega
   refine⟨1,fun k=>(w_AtomsFollows.L23_succ _ _ _ _ _ _ _ _ _ _ _ _ _ _ _ _).trans (geb (Nat.lt_irrefl _) ?_)⟩
   rw[List.drop_length]
   show some ((says==h),())=some ((says==(h&&true)),())
   rw[Bool.and_true]
  |succ d ih=>
   intro i h hid
   have hi:i<xs.length:=by omega
   have e1:=getD_at xs zt47 hi
   have hxi:=hx _ (List.getElem_mem hi)
   have hd:tells p q s t m n em (xs.drop i)=(!(hl (if em=true then 0 else rv xs[i]) p s m&& !hl (if em=true then 0 else rv xs[i]) q t n)&&tells p q s t m n em (xs.drop (i+1))):=by
    rw[drop_at xs hi];rfl
   rw[hd]
   have go:∀h':Bool,∃j,∀k,w_AtomsFollows.L23 (k+j) b.1.1 b.1.2 b.2 c.1.1 c.1.2 c.2 s t m n says xs h' em (IntKind.i64.wrap ((i:Int)+1))=some ((says==(h'&&tells p q s t m n em (xs.drop (i+1)))),()):=fun h'=>by
    rw[up1 (by omega)];exact ih (i+1) h' (by omega)
   obtain⟨j1,g1⟩:=go h
   obtain⟨j2,g2⟩:=go false
   obtain⟨y,hy,hyv⟩:∃y:Rat,(if em=true then 0 else rv xs[i])=y∧Ft y M:=by
    cases em with
    |true=>exact⟨0,rfl,Ft.zero.mono hM⟩
    |false=>exact⟨rv xs[i],rfl,hxi.ft⟩
   rw[hy]
   have f1:r03_Sub.F (rcan y,b,())=some (rcan (y-p),()):=(hyv.rt.mono (show M≤M+N by omega)).rSub_F (hb.mono (by omega)) (by omega)
   have f2:r03_Sub.F (rcan y,c,())=some (rcan (y-q),()):=(hyv.rt.mono (show M≤M+N by omega)).rSub_F (hc.mono (by omega)) (by omega)
   have l1:=below0 s ((hyv.sub hb.ft)) (by omega)
   have l2:=below0 t ((hyv.sub hc.ft)) (by omega)
   have hl1:(!((decide (y-p<0)||(decide (y-p=0)&& !s))==m))=hl y p s m:=rfl
   have hl2:(!((decide (y-q<0)||(decide (y-q=0)&& !t))==n))=hl y q t n:=rfl
   cases em with
   |true=>
    obtain rfl:(0:Rat)=y:=hy
    have w0:r03_Whole.F ((0:Int),())=some (rcan 0,()):=rWhole_F (z:=0) (by decide)
    cases a1:hl 0 p s m with
    |false=>
     refine⟨j1+1,fun k=>((w_AtomsFollows.L23_succ _ _ _ _ _ _ _ _ _ _ _ _ _ _ _ _).trans (ltb hi (inb hi (yes rfl (st w0 (st f1 (st l1 (st f2 (st l2 (no (hl1.trans a1) (g1 k)))))))))))⟩
    |true=>
     cases a2:hl 0 q t n with
     |true=>
      refine⟨j1+1,fun k=>((w_AtomsFollows.L23_succ _ _ _ _ _ _ _ _ _ _ _ _ _ _ _ _).trans (ltb hi (inb hi (yes rfl (st w0 (st f1 (st l1 (st f2 (st l2 (yes (hl1.trans a1) (no (show (!(!(_==n)))=false by rw[hl2,a2];rfl) (g1 k))))))))))))⟩
     |false=>
      refine⟨j2+1,fun k=>((w_AtomsFollows.L23_succ _ _ _ _ _ _ _ _ _ _ _ _ _ _ _ _).trans (ltb hi (inb hi (yes rfl (st w0 (st f1 (st l1 (st f2 (st l2 (yes (hl1.trans a1) (yes (show (!(!(_==n)))=true by rw[hl2,a2];rfl) ((g2 k).trans ?_))))))))))))⟩
      cases h<;>rfl
   |false=>
    obtain rfl:rv xs[i]=y:=hy
    have f1':r03_Sub.F (List.getD xs (Int.toNat (i:Int)) zt47,b,())=some (rcan (rv xs[i]-p),()):=by rw[e1];exact(hxi.mono (show M≤M+N by omega)).rSub_F (hb.mono (by omega)) (by omega)
    have f2':r03_Sub.F (List.getD xs (Int.toNat (i:Int)) zt47,c,())=some (rcan (rv xs[i]-q),()):=by rw[e1];exact(hxi.mono (show M≤M+N by omega)).rSub_F (hc.mono (by omega)) (by omega)
    cases a1:hl (rv xs[i]) p s m with
    |false=>
     refine⟨j1+1,fun k=>((w_AtomsFollows.L23_succ _ _ _ _ _ _ _ _ _ _ _ _ _ _ _ _).trans (ltb hi (inb hi (no rfl (st f1' (st l1 (st f2' (st l2 (no (hl1.trans a1) (g1 k))))))))))⟩
    |true=>
     cases a2:hl (rv xs[i]) q t n with
     |true=>
      refine⟨j1+1,fun k=>((w_AtomsFollows.L23_succ _ _ _ _ _ _ _ _ _ _ _ _ _ _ _ _).trans (ltb hi (inb hi (no rfl (st f1' (st l1 (st f2' (st l2 (yes (hl1.trans a1) (no (show (!(!(_==n)))=false by rw[hl2,a2];rfl) (g1 k)))))))))))⟩
     |false=>
      refine⟨j2+1,fun k=>((w_AtomsFollows.L23_succ _ _ _ _ _ _ _ _ _ _ _ _ _ _ _ _).trans (ltb hi (inb hi (no rfl (st f1' (st l1 (st f2' (st l2 (yes (hl1.trans a1) (yes (show (!(!(_==n)))=true by rw[hl2,a2];rfl) ((g2 k).trans ?_)))))))))))⟩
      cases h<;>rfl
 obtain⟨j,hj⟩:=key xs.length 0 true (by omega)
 exact⟨j,fun k=>(hj k).trans (by rw[List.drop_zero,Bool.true_and])⟩
theorem half_q:(1:Rat)/2=Rat.divInt 1 2:=by decide +kernel
theorem half_ft:Ft ((1:Rat)/2) 1:=by
 rw[half_q]
 exact .of_div (by decide) (by decide) (by decide) (by decide)
theorem half_F {q:Rat}{n:Nat}(h:Ft q n)(hn:n+n<70368744177664):r03_Mul.F (((false,([(1:Int)]:List Int)),([(2:Int)]:List Int)),rcan q,())=some (rcan ((1:Rat)/2*q),()):=by
 have hh:Rt ((false,([(1:Int)]:List Int)),([(2:Int)]:List Int)) ((1:Rat)/2) 1:=
  ⟨⟨fun x hx=>by simp at hx;subst hx;decide,rfl,by decide⟩,⟨fun x hx=>by simp at hx;subst hx;decide,rfl,by decide⟩,by rw[half_q];rfl,by decide⟩
 exact(hh.mono (by have:=h.pos;omega)).rMul_F h.rt hn
theorem atomsFollows_true (a:Dt83)(w:K.wf Kt83 a)(hb:K.bulk Kt83 a≤1048576):w_AtomsFollows.F (a,())=some (true,()):=by
 obtain⟨f,b,c,s,t,m,n⟩:=a
 have hB:K.bulk Kt40 f+(K.bulk Kt47 b+(K.bulk Kt47 c+K.bulk Kt81 (s,t,m,n)))≤1048576:=hb
 have w1:K.wf Kt40 f:=w.1
 have w2:K.wf Kt47 b:=w.2.1
 have w3:K.wf Kt47 c:=w.2.2.1
 obtain⟨rb,b3⟩:=rat_b w2
 obtain⟨rc,c3⟩:=rat_b w3
 have e4:K.bulk Kt81 (s,t,m,n)=4:=rfl
 obtain⟨N,k1,k2,k3,k4,k5⟩:=form_ok w1 (by omega)
 obtain⟨k6,k7⟩:=form_fm w1 (by omega)
 generalize hp:rv b=p at rb
 generalize hq:rv c=q at rc
 have rb:=rb.mono (show _≤1048569 by omega)
 have rc:=rc.mono (show _≤1048569 by omega)
 have bel:∀{r:Rat},Ft r 1048569→BelA f (rcan r):=fun h=>⟨⟨N,N+1,1048569,k1,k2,by rw[rv_rcan];exact h.rt,by omega,by omega⟩,k7⟩
 have ht:∀b∈([tru]:Dt22),AtR b:=fun b hb=>by simp only[List.mem_singleton]at hb;rw[hb];exact tru_at
 have B1:=bel rb.ft.neg
 have B2:=bel rc.ft.neg
 obtain⟨y,y1,y2⟩:=Below_F (s:=s) ht B1
 rw[rv_rcan]at y2
 have hy:y.2.2=0:=Classical.byContradiction fun e=>by have:=(y2.err Good.new e).2;simp at this
 have hyl:=y2.len'
 simp only[List.length_singleton]at hyl
 obtain⟨yg,yp,yl,_⟩:=y2.means (by decide) hy
 have yat:∀b∈y.1,AtR b:=by
  have h:=Bel.at (s:=s) (y:=y) ht B1 (by rw[rv_rcan];exact y2)
  exact h
 obtain⟨z,z1,z2⟩:=Below_F (s:=t) yat B2
 rw[rv_rcan]at z2
 have hz:z.2.2=0:=Classical.byContradiction fun e=>by have:=(z2.err yg e).2;omega
 have hzl:=z2.len'
 obtain⟨zg,zp,zl,_⟩:=z2.means (by omega) hz
 have zat:∀b∈z.1,AtR b:=Bel.at (s:=t) (y:=z) yat B2 (by rw[rv_rcan];exact z2)
 have g1:r03_Neg.F (b,())=some (rcan (-p),()):=rb.rNeg_F (by decide)
 have g2:r03_Neg.F (c,())=some (rcan (-q),()):=rc.rNeg_F (by decide)
 have htw:=twin_F zat (by omega)
 have a1:r03_Add.F (b,c,())=some (rcan (p+q),()):=rb.rAdd_F rc (by decide)
 have a2:=half_F (rb.ft.add rc.ft) (by decide)
 have a3:r03_Sub.F (b,c,())=some (rcan (p-q),()):=rb.rSub_F rc (by decide)
 have d1:=rb.ft.sub rc.ft
 have d2:Ft (qabs (p-q)) (1048569+1048569+1):=by unfold qabs;split;exact d1.neg;exact d1
 have a4:r03_Abs.F (rcan (p-q),())=some (rcan (qabs (p-q)),()):=d1.rt.rAbs_F (by decide)
 have a5:r03_Sub.F (b,rcan (qabs (p-q)),())=some (rcan (p-qabs (p-q)),()):=(rb.mono (show 1048569≤1048569+1048569+1 by decide)).rSub_F d2.rt (by decide)
 have a6:r03_Whole.F ((1:Int),())=some (rcan 1,()):=rWhole_F (z:=1) (by decide)
 have one:Ft 1 1:=⟨by decide,by decide,by decide,by decide⟩
 have d3:=rb.ft.sub d2
 have a7:r03_Sub.F (rcan (p-qabs (p-q)),rcan 1,())=some (rcan (p-qabs (p-q)-1),()):=d3.rt.rSub_F (one.rt.mono (by decide)) (by decide)
 have a8:r03_Add.F (b,rcan (qabs (p-q)),())=some (rcan (p+qabs (p-q)),()):=(rb.mono (show 1048569≤1048569+1048569+1 by decide)).rAdd_F d2.rt (by decide)
 have d4:=rb.ft.add d2
 have a9:r03_Add.F (rcan (p+qabs (p-q)),rcan 1,())=some (rcan (p+qabs (p-q)+1),()):=d4.rt.rAdd_F (one.rt.mono (by decide)) (by decide)
 have hf:=half_ft
 have nm:r06_Norm.F (f,())=some (fc (nrm (fv f)),()):=k1.rNorm_F (by omega)
 have five':∀x∈([b,c,rcan ((1:Rat)/2*(p+q)),rcan (p-qabs (p-q)-1),rcan (p+qabs (p-q)+1)]:Dt23),Rt x (rv x) 3145720:=by
  intro x hx
  simp only[List.mem_cons,List.not_mem_nil,or_false]at hx
  rcases hx with rfl|rfl|rfl|rfl|rfl
  ·rw [hp];exact rb.mono (by decide)
  ·rw [hq];exact rc.mono (by decide)
  ·rw [rv_rcan];exact(hf.mul (rb.ft.add rc.ft)).rt.mono (by decide)
  ·rw [rv_rcan];exact(d3.sub one).rt.mono (by decide)
  ·rw [rv_rcan];exact(d4.add one).rt.mono (by decide)
 have tl:tells p q s t m n false [b,c,rcan ((1:Rat)/2*(p+q)),rcan (p-qabs (p-q)-1),rcan (p+qabs (p-q)+1)]=ans p q s t m n:=by
  rw[←five_ans]
  unfold tells five
  simp only[List.all_cons,List.all_nil,hp,hq,rv_rcan,Bool.false_eq_true,if_false]
 have tl0:tells p q s t m n true [b,c,rcan ((1:Rat)/2*(p+q)),rcan (p-qabs (p-q)-1),rcan (p+qabs (p-q)+1)]= !(hl 0 p s m&& !hl 0 q t n):=by
  unfold tells
  simp only[List.all_cons,List.all_nil,if_true]
  cases hl 0 p s m<;>cases hl 0 q t n<;>rfl
 have hem:∃em says,(((fc (nrm (fv f))).length:Int)==0)=em∧atoms_Implies.F (z.1,(if m=true then negI .i64 y.2.1 else y.2.1),(if n=true then negI .i64 z.2.1 else z.2.1),())=some (says,0,())∧
   says=tells p q s t m n em [b,c,rcan ((1:Rat)/2*(p+q)),rcan (p-qabs (p-q)-1),rcan (p+qabs (p-q)+1)]:=by
  by_cases hx:nrm (fv f)=[]
  ·refine ⟨true,_,by rw[hx];rfl,?_,rfl⟩
   rw[tl0]
   have ey:y=([tru],cst (-p) s,0):=by
    cases y2 with
    |bad h=>exact absurd Good.new h
    |const h _=>rfl
    |up h hx' hp' hr|dn h hx' hp' hr=>exact absurd hx hx'
   subst ey
   have ez:z=([tru],cst (-q) t,0):=by
    cases z2 with
    |bad h=>exact absurd Good.new h
    |const h _=>rfl
    |up h hx' hp' hr|dn h hx' hp' hr=>exact absurd hx hx'
   subst ez
   obtain⟨i1,i2⟩:=cst_hl p s m
   obtain⟨j1,j2⟩:=cst_hl q t n
   refine(Implies_one i1 j1).trans ?_
   rw[i2,j2]
   cases hl 0 p s m<;>cases hl 0 q t n<;>rfl
  ·refine ⟨false,_,Bool.eq_false_iff.2 fun e=>hx (fc_nil_iff.1 (len_nil.1 e)),?_,rfl⟩
   rw[tl]
   exact says_ans zat zg hx ((y2.lt hx hy).grow zp zl) (z2.lt hx hz) m n
 obtain⟨em,says,e1,e2,e3⟩:=hem
 obtain⟨j,hj⟩:=follows_loop rb rc s t m n says em _ five' (by decide) (by show 5≤1048576;decide) (by decide)
 have hj:=hj 0
 rw[←e3,show(says==says)=true by cases says<;>rfl]at hj
 have hy0:(y.2.2 != 0)=false:=bne_eq_false_iff_eq.2 hy
 have hz0:(z.2.2 != 0)=false:=bne_eq_false_iff_eq.2 hz
 have hj':w_AtomsFollows.L23 (0+j) b.1.1 b.1.2 b.2 c.1.1 c.1.2 c.2 s t m n says [b,c,rcan ((1:Rat)/2*(p+q)),rcan (p-qabs (p-q)-1),rcan (p+qabs (p-q)+1)] true (((fc (nrm (fv f))).length:Int)==0) 0=some (true,()):=by rw[e1];exact hj
 refine w_AtomsFollows.of (0+j) _ (st lives_F (no rfl (st New_F (st k6.copy (st g1 (st y1 (no hy0 (st k6.copy (st g2 (st z1 (no hz0 ?_)))))))))))
 cases m with
 |true=>
  cases n with
  |true=>exact yes rfl (yes rfl (st htw (st e2 (no rfl (st a1 (st a2 (st a3 (st a4 (st a5 (st a6 (st a7 (st a3 (st a4 (st a8 (st a6 (st a9 (st nm hj')))))))))))))))))
  |false=>exact yes rfl (no rfl (st htw (st e2 (no rfl (st a1 (st a2 (st a3 (st a4 (st a5 (st a6 (st a7 (st a3 (st a4 (st a8 (st a6 (st a9 (st nm hj')))))))))))))))))
 |false=>
  cases n with
  |true=>exact no rfl (yes rfl (st htw (st e2 (no rfl (st a1 (st a2 (st a3 (st a4 (st a5 (st a6 (st a7 (st a3 (st a4 (st a8 (st a6 (st a9 (st nm hj')))))))))))))))))
  |false=>exact no rfl (no rfl (st htw (st e2 (no rfl (st a1 (st a2 (st a3 (st a4 (st a5 (st a6 (st a7 (st a3 (st a4 (st a8 (st a6 (st a9 (st nm hj')))))))))))))))))
end Go.Fx.Tryz
