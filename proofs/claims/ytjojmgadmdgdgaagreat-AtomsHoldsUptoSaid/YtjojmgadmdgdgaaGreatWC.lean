/- The laws of implications, and of one inequality and its multiples. -/
import Derived.Test.YtjojmgadmdgdgaaGreatWB
namespace Go.Fx.Tryz
open Go Go.Fx Go.Fx.Num
set_option linter.unusedVariables false
set_option linter.unusedSimpArgs false
theorem neg64 {i:Int}(h: -9223372036854775808<i)(h2:i<9223372036854775808):negI .i64 i= -i:=by
 unfold negI;rw[IntWalk.i64_in _ (by omega)];omega
theorem neg64_min:negI .i64 (-9223372036854775808)= -9223372036854775808:=by decide
theorem lsub1 {i:Int}(h: -9223372036854775808<i)(h2:i<9223372036854775808):IntKind.i64.wrap (i-1)=i-1:=IntWalk.i64_in _ (by omega)
theorem lit_F (l:Dt22)(i:Int)(hl:l.length≤1048576)(hi: -9223372036854775808≤i∧i≤9223372036854775807):
  (∃(n:Nat) (h:n<l.length),(i=(n:Int)+1∨i= -((n:Int)+1))∧atoms_literal.F (l,i,())=some (l[n],true,())∧r17_At.F (l,i,())=some (l[n],decide (i>0),true,()))∨
   (atoms_literal.F (l,i,())=some (zt69,false,())∧r17_At.F (l,i,())=some (zt69,false,false,())):=by
 by_cases h0:i<0
 ·by_cases hm:i= -9223372036854775808
  ·have em:negI .i64 i= -9223372036854775808:=by rw[hm];exact neg64_min
   refine .inr ⟨atoms_literal.of 0 l _ (yes (decide_eq_true h0) (yes (decide_eq_true ?_) rfl)),r17_At.of 0 l _ (no (decide_eq_false (by omega)) (yes (decide_eq_true h0) (no (decide_eq_false ?_) rfl)))⟩
   ·rw [em];omega
   ·rw [neg64 (by omega) (by omega)];omega
  have en:=neg64 (i:=i) (by omega) (by omega)
  have el:=neg64 (i:=(l.length:Int)) (by omega) (by omega)
  by_cases h1: -i≤l.length
  ·obtain ⟨n,hn⟩:∃n:Nat,i= -((n:Int)+1):=⟨(-i-1).toNat,by omega⟩
   have hnl:n<l.length:=by omega
   have ew:IntKind.i64.wrap (negI .i64 i-1)=(n:Int):=by rw[en,lsub1 (by omega) (by omega)];omega
   have e1:=getD_at l zt69 hnl
   have c1:decide (i<0)=true:=decide_eq_true h0
   have c3:(decide (0≤IntKind.i64.wrap (negI .i64 i-1))&&decide (IntKind.i64.wrap (negI .i64 i-1)<(l.length:Int)))=true:=by rw[ew,decide_eq_true (by omega),decide_eq_true (by omega)];rfl
   refine .inl ⟨n,hnl,.inr hn,atoms_literal.of 0 l _ (yes c1 (no (decide_eq_false ?_) (no (decide_eq_false ?_) (yes c3 ?_)))),r17_At.of 0 l _ (no (decide_eq_false (by omega)) (yes c1 (yes (decide_eq_true ?_) (yes c3 ?_))))⟩
   ·rw [en];omega
   ·rw [en];omega
   ·show some (List.getD l (Int.toNat (IntKind.i64.wrap (negI .i64 i-1))) zt69,true,())=_
    rw[ew,e1]
   ·rw [el];omega
   ·show some (List.getD l (Int.toNat (IntKind.i64.wrap (negI .i64 i-1))) zt69,false,true,())=_
    rw[ew,e1,decide_eq_false (by omega)]
  ·refine .inr ⟨atoms_literal.of 0 l _ (yes (decide_eq_true h0) (no (decide_eq_false ?_) (yes (decide_eq_true ?_) rfl))),r17_At.of 0 l _ (no (decide_eq_false (by omega)) (yes (decide_eq_true h0) (no (decide_eq_false ?_) rfl)))⟩
   ·rw [en];omega
   ·rw [en];omega
   ·rw [el];omega
 ·by_cases h1:i<1
  ·exact .inr ⟨atoms_literal.of 0 l _ (no (decide_eq_false h0) (yes (decide_eq_true h1) rfl)),r17_At.of 0 l _ (no (decide_eq_false (by omega)) (no (decide_eq_false h0) rfl))⟩
  ·by_cases h2:i≤l.length
   ·obtain ⟨n,hn⟩:∃n:Nat,i=(n:Int)+1:=⟨(i-1).toNat,by omega⟩
    have hnl:n<l.length:=by omega
    have ew:IntKind.i64.wrap (i-1)=(n:Int):=by rw[lsub1 (by omega) (by omega)];omega
    have e1:=getD_at l zt69 hnl
    have c3:(decide (0≤IntKind.i64.wrap (i-1))&&decide (IntKind.i64.wrap (i-1)<(l.length:Int)))=true:=by rw[ew,decide_eq_true (by omega),decide_eq_true (by omega)];rfl
    refine .inl ⟨n,hnl,.inl hn,atoms_literal.of 0 l _ (no (decide_eq_false h0) (no (decide_eq_false h1) (no (decide_eq_false (by omega)) (yes c3 ?_)))),r17_At.of 0 l _ (yes (decide_eq_true (by omega)) (yes (decide_eq_true h2) (yes c3 ?_)))⟩
    ·show some (List.getD l (Int.toNat (IntKind.i64.wrap (i-1))) zt69,true,())=_
     rw[ew,e1]
    ·show some (List.getD l (Int.toNat (IntKind.i64.wrap (i-1))) zt69,true,true,())=_
     rw[ew,e1,decide_eq_true (by omega)]
   ·exact .inr ⟨atoms_literal.of 0 l _ (no (decide_eq_false h0) (no (decide_eq_false h1) (yes (decide_eq_true (by omega)) rfl))),r17_At.of 0 l _ (yes (decide_eq_true (by omega)) (no (decide_eq_false h2) (no (decide_eq_false h0) rfl)))⟩
theorem cmp_lt (p q:Rat):decide (rcmp p q<0)=decide (p<q):=decide_eq_decide.2 rcmp_lt
theorem cmp_eq (p q:Rat):(rcmp p q==0)=decide (p=q):=by
 by_cases h:p=q
 ·rw [decide_eq_true h];exact beq_iff_eq.2 (rcmp_eq.2 h)
 ·rw [decide_eq_false h];exact beq_f fun e=>h (rcmp_eq.1 e)
theorem i64_wf {i:Int}(w:K.wf (.int .i64) i): -9223372036854775808≤i∧i≤9223372036854775807:=by
 have this:(Lit.int .i64 i).wf=true:=w
 simp[Lit.wf,IntKind.min,IntKind.max,IntKind.bits,IntKind.signed]at this
 exact this
def vl (w:List Rat)(v:Int):Rat:=if 0≤v∧v<w.length then w.getD v.toNat 0 else 0
def ev (w:List Rat):NF→Rat
 |[]=>0
 |m::x=>m.2*vl w m.1+ev w x
theorem ev_append (w:List Rat)(a b:NF):ev w (a++b)=ev w a+ev w b:=by
 induction a with
 |nil=>show ev w b=0+ev w b;rw[Rat.zero_add]
 |cons m a ih=>show _+ev w (a++b)=_+ev w a+ev w b;rw[ih,Rat.add_assoc]
theorem ev_take_succ (w:List Rat)(x:NF){i:Nat}(h:i<x.length):ev w (x.take (i+1))=ev w (x.take i)+x[i].2*vl w x[i].1:=by
 rw[take_succ' x h,ev_append]
 show _+(_+0)=_
 rw[Rat.add_zero]
def Vs (u:Dt23)(V:Nat):Prop:=∀r∈u,Rt r (rv r) V
theorem vl_ft {u:Dt23}{V:Nat}(h:Vs u V)(hV:1≤V)(v:Int):Ft (vl (u.map rv) v) V:=by
 unfold vl
 split
 ·rename_i hv
  rw[List.length_map]at hv
  have hj:v.toNat<u.length:=by omega
  rw[List.getD_eq_getElem?_getD,List.getElem?_map,List.getElem?_eq_getElem hj]
  exact(h _ (List.getElem_mem hj)).ft
 ·exact Ft.zero.mono hV
theorem ev_ft {u:Dt23}{V:Nat}(hu:Vs u V)(hV:1≤V):∀{x:NF} {N:Nat},Wt x N→Ft (ev (u.map rv) x) (N+x.length*(V+1)+1):=by
 intro x N h
 induction h with
 |nil=>exact Ft.zero.mono (by omega)
 |cons h t hn ih=>
  refine((h.mul (vl_ft hu hV _)).add ih).mono ?_
  simp only[List.length_cons]
  rw[Nat.succ_mul];omega
theorem mul_le' {a b c:Nat}(h:a≤b):a*c≤b*c:=Nat.mul_le_mul_right c h
section
variable {f:Dt40} {x:NF} {N V:Nat} {u:Dt23}
theorem Value_F (h:Rf f x N)(hu:Vs u V)(hV:1≤V)(hN:N+V≤1099511627776)(hB:N+x.length*(V+1)+1≤1099511627776):linear_Value.F (f,u,())=some (rcan (ev (u.map rv) x),()):=by
 have hlen:=h.len
 have hw:=h.wt.len
 have hft:∀i,Ft (ev (u.map rv) (x.take i)) (N+x.length*(V+1)+1):=fun i=>(ev_ft hu hV (h.wt.take i)).mono (by
  have:=mul_le' (c:=V+1) (show (x.take i).length≤x.length by rw[List.length_take];omega)
  omega)
 have key:∀(d i:Nat) (r:Dt47),i+d=f.length→Rt r (ev (u.map rv) (x.take i)) (N+x.length*(V+1)+1)→∃j,∀k,linear_Value.L3 (k+j) u false r.1.1 r.1.2 r.2 f (f.length:Int) (i:Int)=some (rcan (ev (u.map rv) x),()):=by
  intro d
  induction d with
  |zero=>
   intro i r hi hr
   obtain rfl:i=f.length:=by omega
   rw[hlen,List.take_length]at hr
   exact⟨1,fun k=>(linear_Value.L3_succ _ _ _ _ _ _ _ _ _).trans (geb (Nat.lt_irrefl _) (st (hr.Norm_F (by omega)) rfl))⟩
  |succ d ih=>
   intro i r hid hr
   have hi:i<f.length:=by omega
   have hx:i<x.length:=by omega
   have e1:=getD_at f zt73 hi
   obtain⟨a1,a2⟩:=h.at i hi hx
   have e2:=ev_take_succ (u.map rv) x hx
   have e3:(List.getD f (Int.toNat (i:Int)) zt73).1=x[i].1:=by rw[e1];exact a1
   by_cases hv:0≤x[i].1∧x[i].1<u.length
   ·obtain ⟨j0,hj0⟩:∃j0:Nat,x[i].1=(j0:Int):=⟨x[i].1.toNat,by omega⟩
    have hj:j0<u.length:=by omega
    have eu:=getD_at u zt47 hj
    have hval:vl (u.map rv) x[i].1=rv u[j0]:=by
     unfold vl
     rw[if_pos (by rw[List.length_map];exact hv),hj0,Int.toNat_natCast,List.getD_eq_getElem?_getD,List.getElem?_map,List.getElem?_eq_getElem hj];rfl
    have g1:ratio_Mul.F ((List.getD f (Int.toNat (i:Int)) zt73).2,List.getD u (Int.toNat (List.getD f (Int.toNat (i:Int)) zt73).1) zt47,())=some (rcan (x[i].2*rv u[j0]),()):=by
     rw[e3,hj0,eu,e1]
     exact(a2.mono (show N≤N+V by omega)).Mul_F ((hu _ (List.getElem_mem hj)).mono (show V≤N+V by omega)) (by omega)
    have hp:=a2.ft.mul (hu _ (List.getElem_mem hj)).ft
    have g2:ratio_Add.F (r,rcan (x[i].2*rv u[j0]),())=some (rcan (ev (u.map rv) (x.take (i+1))),()):=by
     rw[e2,hval]
     exact(hr.mono (show _≤N+V+(N+x.length*(V+1)+1)by omega)).Add_F (hp.rt.mono (by omega)) (by omega)
    obtain⟨j,hj'⟩:=ih (i+1) (rcan (ev (u.map rv) (x.take (i+1)))) (by omega) (hft (i+1)).rt
    refine⟨j+1,fun k=>(linear_Value.L3_succ _ _ _ _ _ _ _ _ _).trans (ltb hi (inb hi (yes (decide_eq_true ?_) (yes (decide_eq_true ?_) (yes ?_ (st g1 (st g2 ?_)))))))⟩
    ·rw [e3];exact hv.1
    ·rw [e3];exact hv.2
    ·rw [e3,decide_eq_true hv.1,decide_eq_true hv.2];rfl
    ·show linear_Value.L3 (k+j) u false (rcan (ev (u.map rv) (x.take (i+1)))).1.1 (rcan (ev (u.map rv) (x.take (i+1)))).1.2 (rcan (ev (u.map rv) (x.take (i+1)))).2 f (f.length:Int) (IntKind.i64.wrap ((i:Int)+1))=_
     rw[up1 (by omega)];exact hj' k
   ·have hval:vl (u.map rv) x[i].1=0:=by unfold vl;rw[if_neg (by rw[List.length_map];exact hv)]
    rw[hval,Rat.mul_zero,Rat.add_zero]at e2
    obtain⟨j,hj'⟩:=ih (i+1) r (by omega) (by rw[e2];exact hr)
    have stp:∀k,linear_Value.L3 (k+j) u false r.1.1 r.1.2 r.2 f (f.length:Int) (IntKind.i64.wrap ((i:Int)+1))=some (rcan (ev (u.map rv) x),()):=fun k=>by rw[up1 (by omega)];exact hj' k
    refine⟨j+1,fun k=>(linear_Value.L3_succ _ _ _ _ _ _ _ _ _).trans (ltb hi (inb hi ?_))⟩
    by_cases hv0:0≤x[i].1
    ·exact yes (decide_eq_true (by rw[e3];exact hv0)) (no (decide_eq_false (by rw[e3];exact fun e=>hv ⟨hv0,e⟩)) (stp k))
    ·exact no (decide_eq_false (by rw[e3];exact hv0)) (stp k)
 have r0:Rt zt47 (ev (u.map rv) (x.take 0)) (N+x.length*(V+1)+1):=by
  rw[List.take_zero]
  refine⟨⟨fun c hc=>by simp at hc,rfl,Nat.zero_le _⟩,⟨fun c hc=>by simp at hc,rfl,Nat.zero_le _⟩,?_,by omega⟩
  show Rat.divInt _ (Num.val [])=0
  rw[show Num.val []=0 from rfl,Rat.divInt_zero]
 obtain⟨j,hj⟩:=key f.length 0 zt47 (by omega) r0
 exact linear_Value.of (0+j) f u (hj 0)
theorem rValue_F (h:Rf f x N)(hu:Vs u V)(hV:1≤V)(hN:N+V≤1099511627776)(hB:N+x.length*(V+1)+1≤1099511627776):r06_Value.F (f,u,())=some (rcan (ev (u.map rv) x),()):=by
 have hlen:=h.len
 have hw:=h.wt.len
 have hft:∀i,Ft (ev (u.map rv) (x.take i)) (N+x.length*(V+1)+1):=fun i=>(ev_ft hu hV (h.wt.take i)).mono (by
  have:=mul_le' (c:=V+1) (show (x.take i).length≤x.length by rw[List.length_take];omega)
  omega)
 obtain⟨j,hj⟩:=allR (L:=fun k i=>r06_Value.L3 k f u false (rcan (ev (u.map rv) (x.take i))).1.1 (rcan (ev (u.map rv) (x.take i))).1.2 (rcan (ev (u.map rv) (x.take i))).2 (i:Int)) (r:=(rcan (ev (u.map rv) x),())) (n:=f.length)
  (fun k=>(r06_Value.L3_succ _ _ _ _ _ _ _ _).trans (geb (Nat.lt_irrefl _) (by rw[hlen,List.take_length])))
  (fun i hi k=>by
   have hx:i<x.length:=by omega
   have e1:=getD_at f zt73 hi
   obtain⟨a1,a2⟩:=h.at i hi hx
   have e2:=ev_take_succ (u.map rv) x hx
   have e3:(List.getD f (Int.toNat (i:Int)) zt73).1=x[i].1:=by rw[e1];exact a1
   by_cases hv:0≤x[i].1∧x[i].1<u.length
   ·obtain ⟨j0,hj0⟩:∃j0:Nat,x[i].1=(j0:Int):=⟨x[i].1.toNat,by omega⟩
    have hj:j0<u.length:=by omega
    have eu:=getD_at u zt47 hj
    have hval:vl (u.map rv) x[i].1=rv u[j0]:=by
     unfold vl
     rw[if_pos (by rw[List.length_map];exact hv),hj0,Int.toNat_natCast,List.getD_eq_getElem?_getD,List.getElem?_map,List.getElem?_eq_getElem hj];rfl
    have g1:r03_Mul.F ((List.getD f (Int.toNat (i:Int)) zt73).2,List.getD u (Int.toNat (List.getD f (Int.toNat (i:Int)) zt73).1) zt47,())=some (rcan (x[i].2*rv u[j0]),()):=by
     rw[e3,hj0,eu,e1]
     exact(a2.mono (show N≤N+V by omega)).rMul_F ((hu _ (List.getElem_mem hj)).mono (show V≤N+V by omega)) (by omega)
    have hp:=a2.ft.mul (hu _ (List.getElem_mem hj)).ft
    have g2:r03_Add.F (rcan (ev (u.map rv) (x.take i)),rcan (x[i].2*rv u[j0]),())=some (rcan (ev (u.map rv) (x.take (i+1))),()):=by
     rw[e2,hval]
     exact((hft i).rt.mono (show _≤N+V+(N+x.length*(V+1)+1)by omega)).rAdd_F (hp.rt.mono (by omega)) (by omega)
    refine(r06_Value.L3_succ _ _ _ _ _ _ _ _).trans (ltb hi (inb hi (yes (decide_eq_true ?_) (inb hi (yes (decide_eq_true ?_) (inb hi (inb hi (yes ?_ (st g1 (st g2 ?_))))))))))
    ·rw [e3];exact hv.1
    ·rw [e3];exact hv.2
    ·rw [e3,decide_eq_true hv.1,decide_eq_true hv.2];rfl
    ·show r06_Value.L3 k f u false (rcan (ev (u.map rv) (x.take (i+1)))).1.1 (rcan (ev (u.map rv) (x.take (i+1)))).1.2 (rcan (ev (u.map rv) (x.take (i+1)))).2 (IntKind.i64.wrap ((i:Int)+1))=_
     rw[up1 (by omega)]
   ·have hval:vl (u.map rv) x[i].1=0:=by unfold vl;rw[if_neg (by rw[List.length_map];exact hv)]
    rw[hval,Rat.mul_zero,Rat.add_zero]at e2
    have stp:r06_Value.L3 k f u false (rcan (ev (u.map rv) (x.take i))).1.1 (rcan (ev (u.map rv) (x.take i))).1.2 (rcan (ev (u.map rv) (x.take i))).2 (IntKind.i64.wrap ((i:Int)+1))=r06_Value.L3 k f u false (rcan (ev (u.map rv) (x.take (i+1)))).1.1 (rcan (ev (u.map rv) (x.take (i+1)))).1.2 (rcan (ev (u.map rv) (x.take (i+1)))).2 ((i+1:Nat):Int):=by rw[up1 (by omega),e2]
    refine(r06_Value.L3_succ _ _ _ _ _ _ _ _).trans (ltb hi (inb hi ?_))
    by_cases hv0:0≤x[i].1
    ·exact yes (decide_eq_true (by rw[e3];exact hv0)) (inb hi (no (decide_eq_false (by rw[e3];exact fun e=>hv ⟨hv0,e⟩)) stp))
    ·exact no (decide_eq_false (by rw[e3];exact hv0)) stp)
 exact r06_Value.of (0+j) f u (st zero_F (hj 0))
end
theorem mRats_F {u:Dt23}{V:Nat}(hu:Vs u V)(hV:V≤1099511627776)(hn:u.length≤1099511627776):m_Rats.F (u,())=some (u,()):=by
 obtain⟨j,hj⟩:=allR (L:=fun k i=>m_Rats.L3 k u (u.take i) (i:Int)) (r:=(u,())) (n:=u.length)
  (fun k=>(m_Rats.L3_succ _ _ _ _).trans (geb (Nat.lt_irrefl _) (by rw[List.take_length])))
  (fun i hi k=>by
   have e1:=getD_at u zt47 hi
   have hr:=hu _ (List.getElem_mem hi)
   have g1:m_Rat.F (List.getD u (Int.toNat (i:Int)) zt47,())=some (u[i],()):=by rw[e1];exact mRat_F (by have:=hr.num.len;omega) (by have:=hr.den.len;omega)
   refine(m_Rats.L3_succ _ _ _ _).trans (ltb hi (inb hi (st g1 (yes (decide_eq_true ?_) ?_))))
   ·show (u.take i).length+1<_;rw[List.length_take];omega
   ·show m_Rats.L3 k u (u.take i++[u[i]]) (IntKind.i64.wrap ((i:Int)+1))=_
    rw[up1 (by omega),take_succ' u hi])
 exact m_Rats.of (0+j) u (hj 0)
structure AtM (a:Dt69):Prop where
 form:∃N,Rf a.2.1 (fv a.2.1) N∧4*(fv a.2.1).length≤1048576∧N≤549755551744
 bound:∃m,Rt a.2.2.1 (rv a.2.2.1) m∧m≤4194304
theorem lim {x N V:Nat}(h:4*x≤1048576)(hN:N≤549755813888)(hV:V≤1048576):N+x*(V+1)+1≤824634056705:=by
 have:=mul_small (a:=x) (b:=V+1) h (by omega)
 omega
theorem tri_rat (a b:Rat):a<b∨a=b∨b<a:=by
 by_cases h:a<b
 ·exact .inl h
 ·by_cases h2:a=b
  ·exact .inr (.inl h2)
  ·exact .inr (.inr (by grind))
theorem atM_of {a:Dt69}(w:K.wf Kt69 a)(b:K.bulk Kt69 a≤1048576):AtM a:=by
 have hb:(a.1.size+1)+(K.bulk Kt40 a.2.1+(K.bulk Kt47 a.2.2.1+1))≤1048576:=b
 have w1:K.wf Kt40 a.2.1:=w.2.1
 have w2:K.wf Kt47 a.2.2.1:=w.2.2.1
 obtain⟨h1,h2⟩:=form_b (f:=a.2.1) fun m hm=>w1 m hm
 have e3:((a.2.1:List Dt73).map (K.bulk Kt73)).sum+1=K.bulk Kt40 a.2.1:=rfl
 have hl:=h1.len
 exact⟨⟨_,h1,by omega,by omega⟩,⟨_,(rat_b w2).1,by omega⟩⟩
theorem Is_F (b:Dt103)(a:Dt69):atoms_Holds_1.F (b,a,())=some ((b.1.toList==a.1.toList),()):=atoms_Holds_1.of 0 b a rfl
def nmA (b:Dt103)(s:Bool):Bool×Int×Unit:=if b.2.1=1 then(b.2.2.1==s,0,())else(false,150,())
theorem names_F (nm:Dt24)(a:Dt69)(s:Bool)(hn:nm.length≤1048576):∀(d i:Nat),i+d=nm.length→∃r:Int,(∃j,∀k,slices_IndexFunc_Binding.L2 (k+j) nm a (nm.length:Int) (i:Int)=some (r,()))∧
  ((r= -1∧∃j,∀k,r17_Holds.L8 (k+j) nm a.1 a.2.1 a.2.2.1.1.1 a.2.2.1.1.2 a.2.2.1.2 a.2.2.2 s (i:Int)=some (false,150,()))∨
   ∃(q:Nat) (h:q<nm.length),r=(q:Int)∧∃j,∀k,r17_Holds.L8 (k+j) nm a.1 a.2.1 a.2.2.1.1.1 a.2.2.1.1.2 a.2.2.1.2 a.2.2.2 s (i:Int)=some (nmA nm[q] s)):=by
 intro d
 induction d with
 |zero=>
  intro i hi
  obtain rfl:i=nm.length:=by omega
  exact⟨-1,⟨1,fun k=>(slices_IndexFunc_Binding.L2_succ _ _ _ _ _).trans (geb (Nat.lt_irrefl _) rfl)⟩,.inl ⟨rfl,1,fun k=>(r17_Holds.L8_succ _ _ _ _ _ _ _ _ _ _).trans (geb (Nat.lt_irrefl _) rfl)⟩⟩
 |succ d ih=>
  intro i hid
  have hi:i<nm.length:=by omega
  have e1:=getD_at nm zt103 hi
  have g1:atoms_Holds_1.F (List.getD nm (Int.toNat (i:Int)) zt103,a,())=some ((nm[i].1.toList==a.1.toList),()):=by rw[e1];exact Is_F _ _
  cases hb:(nm[i].1.toList==a.1.toList)with
  |true=>
   have hb2:((List.getD nm (Int.toNat (i:Int)) zt103).1.toList==a.1.toList)=true:=by rw[e1];exact hb
   refine⟨i,⟨1,fun k=>(slices_IndexFunc_Binding.L2_succ _ _ _ _ _).trans (ltb hi (inb hi (st g1 (yes hb rfl))))⟩,.inr ⟨i,hi,rfl,1,fun k=>(r17_Holds.L8_succ _ _ _ _ _ _ _ _ _ _).trans (ltb hi (inb hi (yes hb2 (inb hi ?_))))⟩⟩
   unfold nmA
   by_cases hs:nm[i].2.1=1
   ·rw [if_pos hs]
    refine no (bne_eq_false_iff_eq.2 (by rw[e1];exact hs)) (inb hi ?_)
    show some (((List.getD nm (Int.toNat (i:Int)) zt103).2.2.1==s),0,())=_
    rw[e1]
   ·rw [if_neg hs]
    exact yes (bne_iff_ne.2 (by rw[e1];exact hs)) rfl
  |false=>
   have hb2:((List.getD nm (Int.toNat (i:Int)) zt103).1.toList==a.1.toList)=false:=by rw[e1];exact hb
   obtain⟨r,⟨j,hj⟩,h2⟩:=ih (i+1) (by omega)
   refine⟨r,⟨j+1,fun k=>(slices_IndexFunc_Binding.L2_succ _ _ _ _ _).trans (ltb hi (inb hi (st g1 (no hb ?_))))⟩,?_⟩
   ·show slices_IndexFunc_Binding.L2 (k+j) nm a (nm.length:Int) (IntKind.i64.wrap ((i:Int)+1))=_
    rw[up1 (by omega)];exact hj k
   ·have go:∀{x},(∃j,∀k,r17_Holds.L8 (k+j) nm a.1 a.2.1 a.2.2.1.1.1 a.2.2.1.1.2 a.2.2.1.2 a.2.2.2 s ((i+1:Nat):Int)=some x)→∃j,∀k,r17_Holds.L8 (k+j) nm a.1 a.2.1 a.2.2.1.1.1 a.2.2.1.1.2 a.2.2.1.2 a.2.2.2 s (i:Int)=some x:=by
     rintro x ⟨j,hj⟩
     refine⟨j+1,fun k=>(r17_Holds.L8_succ _ _ _ _ _ _ _ _ _ _).trans (ltb hi (inb hi (no hb2 ?_)))⟩
     show r17_Holds.L8 (k+j) nm a.1 a.2.1 a.2.2.1.1.1 a.2.2.1.1.2 a.2.2.1.2 a.2.2.2 s (IntKind.i64.wrap ((i:Int)+1))=_
     rw[up1 (by omega)];exact hj k
    rcases h2 with⟨e,h⟩|⟨q,hq,e,h⟩
    ·exact .inl ⟨e,go h⟩
    ·exact .inr ⟨q,hq,e,go h⟩
theorem Holds_both {l:Dt22}{u:Dt23}{nm:Dt24}{V:Nat}{i:Int}(hl:∀b∈l,AtR b)(hn:l.length≤1048576)(hM:∀b∈l,AtM b)(hu:Vs u V)(hV:1≤V)(hV2:V≤1048576)(hnm:nm.length≤1048576)(hi: -9223372036854775808≤i∧i≤9223372036854775807):
  ∃(v:Bool) (c:Int),atoms_Holds.F (l,i,u,nm,())=some (v,c,())∧r17_Holds.F (l,i,u,nm,())=some (v,c,()):=by
 obtain⟨t,v,h1,h2,_⟩:=load_F hl
 obtain⟨c,h3,h4,h5⟩:=rCheck_F hl
 obtain⟨a1,o1,q1,x1,y1⟩:∃(a:Dt69) (o q:Bool),atoms_literal.F (l,i,())=some (a,o,())∧r17_At.F (l,i,())=some (a,q,o,()):=by
  rcases lit_F l i hn hi with⟨n,h,_,e1,e2⟩|⟨e1,e2⟩
  ·exact ⟨_,_,_,e1,e2⟩
  ·exact ⟨_,_,_,e1,e2⟩
 by_cases hg:Good l
 case neg=>
  have hv:v=false:=by cases v;rfl;exact absurd (h2.1 rfl) hg
  have hc:c=170:=h5.resolve_left fun e=>hg (h4.1 e)
  subst hv;subst hc
  exact⟨false,170,atoms_Holds.of 0 l i u nm (st h1 (st x1 (yes rfl rfl))),r17_Holds.of 0 l i u nm (st y1 (st h3 (yes rfl rfl)))⟩
 obtain rfl:v=true:=h2.2 hg
 obtain rfl:c=0:=h4.2 hg
 rcases lit_F l i hn hi with⟨n,hnl,en,e1,e2⟩|⟨e1,e2⟩
 case inr=>exact⟨false,170,atoms_Holds.of 0 l i u nm (st h1 (st e1 (no rfl (yes rfl rfl)))),r17_Holds.of 0 l i u nm (st e2 (st h3 (no rfl (yes rfl rfl))))⟩
 by_cases hne:l[n].1=ByteArray.empty
 ·obtain ⟨⟨N,f1,f2,f3⟩,⟨m,b1,b2⟩⟩:=hM _ (List.getElem_mem hnl)
  have hB:=lim f2 (show N≤549755813888 by omega) hV2
  have fe:=ev_ft hu hV f1.wt
  have g1:=Value_F f1 hu hV (by omega) (by omega)
  have k1:=rValue_F f1 hu hV (by omega) (by omega)
  have g2:ratio_Cmp.F (rcan (ev (u.map rv) (fv l[n].2.1)),l[n].2.2.1,())=some (rcmp (ev (u.map rv) (fv l[n].2.1)) (rv l[n].2.2.1),()):=(fe.rt.mono (show _≤824634056705 by omega)).Cmp_F (b1.mono (show m≤824634056705 by omega)) (by decide)
  have k2:r03_Cmp.F (rcan (ev (u.map rv) (fv l[n].2.1)),l[n].2.2.1,())=some (rcmp (ev (u.map rv) (fv l[n].2.1)) (rv l[n].2.2.1),()):=(fe.rt.mono (show _≤824634056705 by omega)).rCmp_F (b1.mono (show m≤824634056705 by omega)) (by decide)
  have code:=fun r (h:_=some r)=>atoms_Holds.of 0 l i u nm (y:=r) (st h1 (st e1 (no rfl (no rfl (yes (str_yes hne) (st g1 (st g2 h)))))))
  have ref:=fun r (h:_=some r)=>r17_Holds.of 0 l i u nm (y:=r) (st e2 (st h3 (no rfl (no rfl (yes (str_yes hne) (st k1 (st k2 h)))))))
  rcases tri_rat (ev (u.map rv) (fv l[n].2.1)) (rv l[n].2.2.1)with d|d|d
  ·exact ⟨_,_,code _ (yes ((cmp_lt _ _).trans (decide_eq_true d)) rfl),ref _ (yes ((cmp_lt _ _).trans (decide_eq_true d)) rfl)⟩
  ·have d1:¬ev (u.map rv) (fv l[n].2.1)<rv l[n].2.2.1:=by grind
   exact⟨_,_,code _ (no ((cmp_lt _ _).trans (decide_eq_false d1)) (yes ((cmp_eq _ _).trans (decide_eq_true d)) rfl)),ref _ (no ((cmp_lt _ _).trans (decide_eq_false d1)) (yes ((cmp_eq _ _).trans (decide_eq_true d)) rfl))⟩
  ·have d1:¬ev (u.map rv) (fv l[n].2.1)<rv l[n].2.2.1:=by grind
   have d2:¬ev (u.map rv) (fv l[n].2.1)=rv l[n].2.2.1:=by grind
   exact⟨_,_,code _ (no ((cmp_lt _ _).trans (decide_eq_false d1)) (no ((cmp_eq _ _).trans (decide_eq_false d2)) rfl)),ref _ (no ((cmp_lt _ _).trans (decide_eq_false d1)) (no ((cmp_eq _ _).trans (decide_eq_false d2)) rfl))⟩
 ·obtain ⟨r,⟨j,hj⟩,h⟩:=names_F nm l[n] (decide (i>0)) hnm nm.length 0 (by omega)
  have hF:slices_IndexFunc_Binding.F (nm,l[n],())=some (r,()):=slices_IndexFunc_Binding.of (0+j) nm l[n] (hj 0)
  have code:=fun r (h:_=some r)=>atoms_Holds.of 0 l i u nm (y:=r) (st h1 (st e1 (no rfl (no rfl (no (str_no hne) (st hF h))))))
  have ref:=fun k r (h:_=some r)=>r17_Holds.of k l i u nm (y:=r) (st e2 (st h3 (no rfl (no rfl (no (str_no hne) h)))))
  rcases h with⟨rfl,j2,h⟩|⟨q,hq,rfl,j2,h⟩
  ·exact ⟨false,150,code _ (yes rfl rfl),ref _ _ (h 0)⟩
  ·have eq1:=getD_at nm zt103 hq
   by_cases hs:nm[q].2.1=1
   ·refine ⟨_,0,code _ (no (decide_eq_false (by omega)) (inb hq (no (bne_eq_false_iff_eq.2 (by rw[eq1];exact hs)) (inb hq rfl)))),ref _ _ ((h 0).trans ?_)⟩
    unfold nmA
    rw[if_pos hs,eq1]
   ·refine ⟨false,150,code _ (no (decide_eq_false (by omega)) (inb hq (yes (bne_iff_ne.2 (by rw[eq1];exact hs)) rfl))),ref _ _ ((h 0).trans ?_)⟩
    unfold nmA
    rw[if_neg hs]
theorem bindings_F {l:Dt24}(h:∀b∈l,Rq b.2.2.2)(hn:l.length≤1048576):w_bindings.F (l,())=some (l,()):=by
 obtain⟨j,hj⟩:=allR (L:=fun k i=>w_bindings.L3 k l (l.take i++(List.replicate l.length zt103).drop i) (i:Int)) (r:=(l,())) (n:=l.length)
  (fun k=>(w_bindings.L3_succ _ _ _ _).trans (geb (Nat.lt_irrefl _) (by
   rw[List.take_length,List.drop_of_length_le (by rw[List.length_replicate];exact Nat.le_refl _),List.append_nil])))
  (fun i hi k=>by
   have e1:=getD_at l zt103 hi
   have ha:=h _ (List.getElem_mem hi)
   have g2:m_Rat.F ((List.getD l (Int.toNat (i:Int)) zt103).2.2.2,())=some (l[i].2.2.2,()):=by rw[e1];exact ha.copy
   have hil:i<(l.take i++(List.replicate l.length zt103).drop i).length:=by simp only[List.length_append,List.length_take,List.length_drop,List.length_replicate];omega
   refine(w_bindings.L3_succ _ _ _ _).trans (ltb hi (inb hi (inb hi (inb hi (inb hi (st g2 (inb hil ?_)))))))
   show w_bindings.L3 k l (List.set (l.take i++(List.replicate l.length zt103).drop i) (Int.toNat (i:Int)) ((List.getD l (Int.toNat (i:Int)) zt103).1,((List.getD l (Int.toNat (i:Int)) zt103).2.1,((List.getD l (Int.toNat (i:Int)) zt103).2.2.1,l[i].2.2.2)))) (IntKind.i64.wrap ((i:Int)+1))=_
   rw[e1,up1 (by omega),Int.toNat_natCast]
   congr 1
   rw[List.set_append_right _ _ (by rw[List.length_take];omega),List.length_take,Nat.min_eq_left (by omega),Nat.sub_self,drop_at (List.replicate l.length zt103) (by rw[List.length_replicate];exact hi),take_succ' l hi,List.append_assoc]
   rfl)
 refine w_bindings.of (0+j) l (yes ?_ ?_)
 ·rw [decide_eq_true (by omega),decide_eq_true (by omega),decide_eq_true (by rw[Int.toNat_natCast];omega)];rfl
 ·show w_bindings.L3 (0+j) l (List.replicate (Int.toNat (l.length:Int)) zt103) 0=_
  rw[Int.toNat_natCast];exact hj 0
theorem atomsHolds_true (l:Dt22)(i:Int)(u:Dt26)(wl:K.wf Kt22 l)(wi:K.wf (.int .i64) i)(wu:K.wf Kt26 u)(bl:K.bulk Kt22 l≤1048576)(bi:K.bulk (.int .i64) i≤1048576)(bu:K.bulk Kt26 u≤1048576):w_AtomsHolds.F (l,i,u,())=some (true,()):=by
 obtain⟨h1,h2⟩:=atoms_at wl bl
 obtain⟨x,y⟩:=u
 have hbu:(((x:List Dt47).map (K.bulk Kt47)).sum+1)+(((y:List Dt103).map (K.bulk Kt103)).sum+1)≤1048576:=bu
 have wx:K.wf Kt23 x:=wu.1
 have wy:K.wf Kt24 y:=wu.2
 have hbl:((l:List Dt69).map (K.bulk Kt69)).sum+1≤1048576:=bl
 have hM:∀a∈l,AtM a:=fun a ha=>atM_of (wl a ha) (by have:=sum_mem (f:=K.bulk Kt69) ha;omega)
 have hxl:List.length (α:=Dt47) x≤((x:List Dt47).map (K.bulk Kt47)).sum:=sum_len (f:=K.bulk Kt47) (fun r=>by
  have e:K.bulk Kt47 r=(1+K.bulk Kt43 r.1.2)+K.bulk Kt43 r.2:=rfl
  omega) x
 have hyl:List.length (α:=Dt103) y≤((y:List Dt103).map (K.bulk Kt103)).sum:=sum_len (f:=K.bulk Kt103) (fun r=>by
  have e:K.bulk Kt103 r=(r.1.size+1)+(1+(1+K.bulk Kt47 r.2.2.2)):=rfl
  omega) y
 have hu:Vs x 1048576:=fun r hr=>by
  have h1:=sum_mem (f:=K.bulk Kt47) hr
  exact(rat_b (wx r hr)).1.mono (by omega)
 have hy:∀b∈y,Rq b.2.2.2:=fun b hb=>by
  have h1:=sum_mem (f:=K.bulk Kt103) hb
  have e:K.bulk Kt103 b=(b.1.size+1)+(1+(1+K.bulk Kt47 b.2.2.2)):=rfl
  have wb:K.wf Kt103 b:=wy b hb
  exact rat_rq wb.2.2.2 (by omega)
 have hxl2:x.length≤1099511627776:=by omega
 have hyl2:y.length≤1048576:=by omega
 obtain⟨v,c,h3,h4⟩:=Holds_both (V:=1048576) h1 h2 hM hu (by decide) (by decide) (show y.length≤1048576 by omega) (i64_wf wi)
 refine w_AtomsHolds.of 0 l i (x,y) (st (twin_F h1 h2) (st (mRats_F hu (by omega) hxl2) (st (bindings_F hy hyl2) (st h3 (st h4 (st lives_F (yes rfl (yes ?_ ?_))))))))
 ·show (v==v)=true;cases v<;>rfl
 ·show some ((c==c),())=_;rw[beq_self]
end Go.Fx.Tryz
