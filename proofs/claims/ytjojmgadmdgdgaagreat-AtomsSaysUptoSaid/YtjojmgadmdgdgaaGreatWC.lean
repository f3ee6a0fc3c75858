/- The laws of implications, and of one inequality and its multiples. -/
import Derived.Test.YtjojmgadmdgdgaaGreatWB
namespace Go.Fx.Tryz
open Go Go.Fx Go.Fx.Num
set_option linter.unusedVariables false
set_option linter.unusedSimpArgs false
theorem neg64 {i:Int}(h: -9223372036854775808<i)(h2:i<9223372036854775808):negI .i64 i= -i:=by
 unfold negI;rw[IntWalk.i64_in _ (by omega)];omega
theorem neg64_min:negI .i64 (-9223372036854775808)= -9223372036854775808:=by decide
theorem lsub1 {i:Int}(h: -9223372036854775808<i)(h2:i<9223372036854775808):IntKind.i64.wrap (i-1)=i-1:=IntWalk.i64_in _ (by omega)
theorem lit_F (l:Dt22)(i:Int)(hl:l.length≤1048576)(hi: -9223372036854775808≤i∧i≤9223372036854775807):
  (∃(n:Nat) (h:n<l.length),(i=(n:Int)+1∨i= -((n:Int)+1))∧atoms_literal.F (l,i,())=some (l[n],true,())∧r17_At.F (l,i,())=some (l[n],decide (i>0),true,()))∨
   (atoms_literal.F (l,i,())=some (zt69,false,())∧r17_At.F (l,i,())=some (zt69,false,false,())):=by
 by_cases h0:i<0
 ·by_cases hm:i= -9223372036854775808
  ·have em:negI .i64 i= -9223372036854775808:=by rw[hm];exact neg64_min
   refine .inr ⟨atoms_literal.of 0 l _ (yes (decide_eq_true h0) (yes (decide_eq_true ?_) rfl)),r17_At.of 0 l _ (no (decide_eq_false (by omega)) (yes (decide_eq_true h0) (no (decide_eq_false ?_) rfl)))⟩
   ·rw [em];omega
   ·rw [neg64 (by omega) (by omega)];omega
  have en:=neg64 (i:=i) (by omega) (by omega)
  have el:=neg64 (i:=(l.length:Int)) (by omega) (by omega)
  by_cases h1: -i≤l.length
  ·obtain ⟨n,hn⟩:∃n:Nat,i= -((n:Int)+1):=⟨(-i-1).toNat,by omega⟩
   have hnl:n<l.length:=by omega
   have ew:IntKind.i64.wrap (negI .i64 i-1)=(n:Int):=by rw[en,lsub1 (by omega) (by omega)];omega
   have e1:=getD_at l zt69 hnl
   have c1:decide (i<0)=true:=decide_eq_true h0
   have c3:(decide (0≤IntKind.i64.wrap (negI .i64 i-1))&&decide (IntKind.i64.wrap (negI .i64 i-1)<(l.length:Int)))=true:=by rw[ew,decide_eq_true (by omega),decide_eq_true (by omega)];rfl
   refine .inl ⟨n,hnl,.inr hn,atoms_literal.of 0 l _ (yes c1 (no (decide_eq_false ?_) (no (decide_eq_false ?_) (yes c3 ?_)))),r17_At.of 0 l _ (no (decide_eq_false (by omega)) (yes c1 (yes (decide_eq_true ?_) (yes c3 ?_))))⟩
   ·rw [en];omega
   ·rw [en];omega
   ·show some (List.getD l (Int.toNat (IntKind.i64.wrap (negI .i64 i-1))) zt69,true,())=_
    rw[ew,e1]
   ·rw [el];omega
   ·show some (List.getD l (Int.toNat (IntKind.i64.wrap (negI .i64 i-1))) zt69,false,true,())=_
    rw[ew,e1,decide_eq_false (by omega)]
  ·refine .inr ⟨atoms_literal.of 0 l _ (yes (decide_eq_true h0) (no (decide_eq_false ?_) (yes (decide_eq_true ?_) rfl))),r17_At.of 0 l _ (no (decide_eq_false (by omega)) (yes (decide_eq_true h0) (no (decide_eq_false ?_) rfl)))⟩
   ·rw [en];omega
   ·rw [en];omega
   ·rw [el];omega
 ·by_cases h1:i<1
  ·exact .inr ⟨atoms_literal.of 0 l _ (no (decide_eq_false h0) (yes (decide_eq_true h1) rfl)),r17_At.of 0 l _ (no (decide_eq_false (by omega)) (no (decide_eq_false h0) rfl))⟩
  ·by_cases h2:i≤l.length
   ·obtain ⟨n,hn⟩:∃n:Nat,i=(n:Int)+1:=⟨(i-1).toNat,by omega⟩
    have hnl:n<l.length:=by omega
    have ew:IntKind.i64.wrap (i-1)=(n:Int):=by rw[lsub1 (by omega) (by omega)];omega
    have e1:=getD_at l zt69 hnl
    have c3:(decide (0≤IntKind.i64.wrap (i-1))&&decide (IntKind.i64.wrap (i-1)<(l.length:Int)))=true:=by rw[ew,decide_eq_true (by omega),decide_eq_true (by omega)];rfl
    refine .inl ⟨n,hnl,.inl hn,atoms_literal.of 0 l _ (no (decide_eq_false h0) (no (decide_eq_false h1) (no (decide_eq_false (by omega)) (yes c3 ?_)))),r17_At.of 0 l _ (yes (decide_eq_true (by omega)) (yes (decide_eq_true h2) (yes c3 ?_)))⟩
    ·show some (List.getD l (Int.toNat (IntKind.i64.wrap (i-1))) zt69,true,())=_
     rw[ew,e1]
    ·show some (List.getD l (Int.toNat (IntKind.i64.wrap (i-1))) zt69,true,true,())=_
     rw[ew,e1,decide_eq_true (by omega)]
   ·exact .inr ⟨atoms_literal.of 0 l _ (no (decide_eq_false h0) (no (decide_eq_false h1) (yes (decide_eq_true (by omega)) rfl))),r17_At.of 0 l _ (yes (decide_eq_true (by omega)) (no (decide_eq_false h2) (no (decide_eq_false h0) rfl)))⟩
theorem i64_wf {i:Int}(w:K.wf (.int .i64) i): -9223372036854775808≤i∧i≤9223372036854775807:=by
 have this:(Lit.int .i64 i).wf=true:=w
 simp[Lit.wf,IntKind.min,IntKind.max,IntKind.bits,IntKind.signed]at this
 exact this
theorem canon_is_one {d:Int}(h:0≤d):canon d=[1]↔d=1:=by
 constructor
 ·intro e
  have:=val_canon h
  rw[e]at this
  exact this.symm.trans (by decide)
 ·rintro rfl;exact canon_one (by decide)
theorem Rt.rText_F {r:Dt47}{q:Rat}{n:Nat}(h:Rt r q n)(hn:n≤1099511627776):r03_Text.F (r,())=some (rtx q,()):=by
 have hd:=den_pos q
 have h1:=wtxt_size h.ft.num_ab
 have h2:=txt_size' (z:=(q.den:Int)) (by omega) h.ft.den
 rw[Int.toNat_natCast]at h2
 have e1:=(rSame_F (a:=canon (q.den:Int)) (b:=[1]) (by have:=(rden h.ft).len;omega)).iff ((canon_is_one (by omega)).trans (show ((q.den:Int)=1)↔q.den=1 by omega))
 by_cases hq:q.den=1
 ·refine r03_Text.of 0 r (st (h.rNorm_F (by omega)) (st (rText_W (rnum h.ft) hn) (st (e1.yes hq) (no rfl ?_))))
  unfold rtx;rw[if_pos hq]
 ·have ed:=Tryz.rText_F (b:=10) (rden h.ft).limbs (by have:=(rden h.ft).len;omega)
  rw[if_pos (by decide),(rden h.ft).val,Int.toNat_natCast]at ed
  have e2:r03_digits.F (canon (q.den:Int),())=some (txt 10 q.den,()):=r03_digits.of 0 _ (st ed rfl)
  refine r03_Text.of 0 r (st (h.rNorm_F (by omega)) (st (rText_W (rnum h.ft) hn) (st (e1.no hq) (yes rfl (st e2 (yes (decide_eq_true ?_) (yes (decide_eq_true ?_) ?_)))))))
  ·show 1+(txt 10 q.den).size≤_;omega
  ·show (wtxt q.num).size+((⟨#[47]⟩:ByteArray)++txt 10 q.den).size≤_
   rw[size_append];show _+(1+_)≤_;omega
  ·unfold rtx;rw[if_neg hq]
theorem Rf.rText_F {f x N}(h:Rf f x N)(hN:N≤1099511627776)(hv:InV x):r06_Text.F (f,())=some (ftx (nrm x),()):=by
 have hw:=h.wt.nrm
 have hv:=hv.nrm
 have hno:=h.rNorm_F hN
 generalize nrm x=y at hw hv hno
 have hwl:=hw.len
 by_cases hy:y=[]
 ·subst hy
  exact r06_Text.of 0 f (st hno (yes rfl rfl))
 obtain⟨j,hj⟩:=allR (L:=fun k i=>r06_Text.L6 k (fc y) (gtx (y.take i)) (i:Int)) (r:=(gtx y,())) (n:=y.length)
  (fun k=>(r06_Text.L6_succ _ _ _ _).trans (geb (n:=(fc y).length) (by rw[fc_len];omega) (by rw[List.take_length])))
  (fun i hi k=>by
   have hif:i<(fc y).length:=by rw[fc_len];exact hi
   have e1:List.getD (fc y) (Int.toNat (i:Int)) zt73=(y[i].1,rcan y[i].2):=(getD_at _ _ hif).trans (fc_get y hif)
   have hm:=hw.mem _ (List.getElem_mem hi)
   have hvi:=hv _ (List.getElem_mem hi)
   have g1:r03_Text.F ((List.getD (fc y) (Int.toNat (i:Int)) zt73).2,())=some (rtx y[i].2,()):=by rw[e1];exact hm.rt.rText_F hN
   have g2:r02_Of.F ((List.getD (fc y) (Int.toNat (i:Int)) zt73).1,())=some (wc y[i].1,()):=by rw[e1];exact rWOf_F hvi
   have g3:r02_Text.F (wc y[i].1,())=some (wtxt y[i].1,()):=rText_W (n:=2) (.of (by have:=var_lt hvi;unfold ab at this;split at this<;>omega)) (by decide)
   have s0:=gtx_size (hw.take i) (fun m hm=>hv m (List.mem_of_mem_take hm)) (⟨#[]⟩:ByteArray)
   have s1:(gtx (y.take i)).size≤73*N:=by unfold gtx;have e:(⟨#[]⟩:ByteArray).size=0:=rfl;omega
   have s2:=rtx_size hm
   have s3:=wtxt_size (var_lt hvi)
   have z1:(⟨#[42,120]⟩:ByteArray).size=2:=rfl
   have z2:(⟨#[43]⟩:ByteArray).size=1:=rfl
   have hgt:=gtx_take y hi
   refine(r06_Text.L6_succ _ _ _ _).trans (ltb hif ?_)
   by_cases h0:i=0
   ·subst h0
    refine no rfl (inb hif (st g1 (yes (decide_eq_true (by simp only;omega)) (yes (decide_eq_true (by simp only[size_append,z1];omega)) (inb hif (st g2 (st g3 (yes (decide_eq_true (by simp only[size_append,z1];omega)) ?_))))))))
    show r06_Text.L6 k (fc y) (gtx (y.take 0)++rtx y[0].2++(⟨#[42,120]⟩:ByteArray)++wtxt y[0].1) (IntKind.i64.wrap (((0:Nat):Int)+1))=_
    rw[up1 (by omega),hgt]
    unfold gst ptx
    rw[if_pos (show (gtx (y.take 0)).size=0 from rfl)]
    simp only[ba_assoc]
   ·have hp:(gtx (y.take i)).size≠0:=gtx_pos (by rw[Ne,List.take_eq_nil_iff];intro e;rcases e with e|e;exact h0 e;rw[e]at hi;simp at hi)
    refine yes (decide_eq_true (by omega)) (yes (decide_eq_true (by simp only[z2];omega)) (inb hif (st g1 (yes (decide_eq_true (by simp only[size_append,z2];omega)) (yes (decide_eq_true (by simp only[size_append,z1,z2];omega)) (inb hif (st g2 (st g3 (yes (decide_eq_true (by simp only[size_append,z1,z2];omega)) ?_)))))))))
    show r06_Text.L6 k (fc y) (gtx (y.take i)++(⟨#[43]⟩:ByteArray)++rtx y[i].2++(⟨#[42,120]⟩:ByteArray)++wtxt y[i].1) (IntKind.i64.wrap ((i:Int)+1))=_
    rw[up1 (by omega),hgt]
    unfold gst ptx
    rw[if_neg hp]
    simp only[ba_assoc])
 have hz:((((fc y).length:Nat):Int)==0)=false:=Bool.eq_false_iff.2 fun e=>hy (fc_nil_iff.1 (len_nil.1 e))
 refine r06_Text.of (0+j) f (st hno (no hz ?_))
 unfold ftx
 rw[if_neg hy]
 exact hj 0
theorem one_ft:Ft ((-1:Int):Rat) 1:=⟨by decide,by decide,by decide,by decide⟩
def Sm (a:Dt69):Prop:=∃N,Rf a.2.1 (fv a.2.1) N∧N≤1048576
theorem nam_t {s:ByteArray}(h:s≠ByteArray.empty):(!(s.toList==(⟨#[]⟩:ByteArray).toList))=true:=by rw[show (s.toList==(⟨#[]⟩:ByteArray).toList)=false from str_no h];rfl
theorem nam_f {s:ByteArray}(h:s=ByteArray.empty):(!(s.toList==(⟨#[]⟩:ByteArray).toList))=false:=by rw[show (s.toList==(⟨#[]⟩:ByteArray).toList)=true from str_yes h];rfl
structure SayB (l:Dt22) (i:Int) (f:Dt40) (r:Dt47) (s:Bool) (e:Int):Prop where
 code:atoms_Says.F (l,i,())=some ((f,r),s,e,())
 ref:r17_Says.F (l,i,())=some ((f,r),s,e,())
 lf:LbF f
 lr:Lb r
 er:e=0∨e≠0∧f=[]
theorem sayB {l:Dt22}{i:Int}(hl:∀a∈l,AtR a)(hS:∀a∈l,Sm a)(hn:l.length≤1048576)(hi: -9223372036854775808≤i∧i≤9223372036854775807):∃f r s e,SayB l i f r s e:=by
 obtain⟨t,v,h1,h2,_⟩:=load_F hl
 obtain⟨c,h3,h4,h5⟩:=rCheck_F hl
 have lf0:LbF ([]:Dt40):=⟨by decide,fun m hm=>by simp at hm⟩
 have lr0:Lb zt47:=⟨by decide,by decide⟩
 obtain⟨a1,o1,q1,x1,y1⟩:∃(a:Dt69) (o q:Bool),atoms_literal.F (l,i,())=some (a,o,())∧r17_At.F (l,i,())=some (a,q,o,()):=by
  rcases lit_F l i hn hi with⟨n,h,_,e1,e2⟩|⟨e1,e2⟩
  ·exact ⟨_,_,_,e1,e2⟩
  ·exact ⟨_,_,_,e1,e2⟩
 by_cases hg:Good l
 case neg=>
  have hv:v=false:=by cases v;rfl;exact absurd (h2.1 rfl) hg
  have hc:c=170:=h5.resolve_left fun e=>hg (h4.1 e)
  subst hv;subst hc
  exact⟨[],zt47,false,170,atoms_Says.of 0 l i (st h1 (st x1 (yes rfl rfl))),r17_Says.of 0 l i (st y1 (st h3 (yes rfl rfl))),lf0,lr0,.inr ⟨by decide,rfl⟩⟩
 obtain rfl:v=true:=h2.2 hg
 obtain rfl:c=0:=h4.2 hg
 clear x1 y1
 rcases lit_F l i hn hi with⟨n,hnl,en,e1,e2⟩|⟨e1,e2⟩
 case inr=>exact⟨[],zt47,false,170,atoms_Says.of 0 l i (st h1 (st e1 (no rfl (yes rfl rfl)))),r17_Says.of 0 l i (st e2 (st h3 (no rfl (yes rfl rfl)))),lf0,lr0,.inr ⟨by decide,rfl⟩⟩
 have ha:=hl _ (List.getElem_mem hnl)
 obtain⟨N,hf,hN⟩:=hS _ (List.getElem_mem hnl)
 obtain⟨m,hr,hm⟩:=ha.bound
 by_cases hnm:l[n].1=ByteArray.empty
 case neg=>exact⟨[],zt47,false,170,atoms_Says.of 0 l i (st h1 (st e1 (no rfl (no rfl (yes (nam_t hnm) rfl))))),r17_Says.of 0 l i (st e2 (st h3 (no rfl (no rfl (yes (nam_t hnm) rfl))))),lf0,lr0,.inr ⟨by decide,rfl⟩⟩
 have g1:linear_Norm.F (l[n].2.1,())=some (fc (nrm (fv l[n].2.1)),()):=hf.Norm_F (by omega)
 have g2:ratio_Neg.F (l[n].2.2.1,())=some (rcan (-(rv l[n].2.2.1)),()):=hr.Neg_F (by omega)
 have hw:=hf.wt.nrm
 by_cases c1:i>0
 ·have d1:r06_Norm.F (l[n].2.1,())=some (fc (nrm (fv l[n].2.1)),()):=hf.rNorm_F (by omega)
  have d2:r03_Neg.F (l[n].2.2.1,())=some (rcan (-(rv l[n].2.2.1)),()):=hr.rNeg_F (by omega)
  exact⟨_,_,_,0,atoms_Says.of 0 l i (st h1 (st e1 (no rfl (no rfl (no (nam_f hnm) (st g1 (st g2 (yes (decide_eq_true c1) rfl)))))))),r17_Says.of 0 l i (st e2 (st h3 (no rfl (no rfl (no (nam_f hnm) (yes (decide_eq_true c1) (st d1 (st d2 rfl)))))))),hw.lb (by omega),hr.ft.neg.lb hm,.inl rfl⟩
 ·have hlen:=hf.wt.len
  have g3:linear_Scale.F (rcan ((-1:Int):Rat),fc (nrm (fv l[n].2.1)),())=some (fc (scl ((-1:Int):Rat) (nrm (fv l[n].2.1))),()):=by
   have:=hw.rf.Scale_F one_ft.rt (by decide) (by omega)
   rwa[nrm_self (nrm_nf _).1]at this
  have g4:ratio_Neg.F (rcan (-(rv l[n].2.2.1)),())=some (rcan (rv l[n].2.2.1),()):=by have:=hr.ft.neg.rt.Neg_F (by omega);rwa[Rat.neg_neg]at this
  have d1:r06_Scale.F (rcan ((-1:Int):Rat),l[n].2.1,())=some (fc (scl ((-1:Int):Rat) (nrm (fv l[n].2.1))),()):=by
   have:=hf.rScale_F one_ft.rt (by omega)
   rwa[nrm_scl (by decide)]at this
  have d2:r03_Norm.F (l[n].2.2.1,())=some (rcan (rv l[n].2.2.1),()):=hr.rNorm_F (by omega)
  have hlw:=hw.len
  exact⟨_,_,_,0,atoms_Says.of 0 l i (st h1 (st e1 (no rfl (no rfl (no (nam_f hnm) (st g1 (st g2 (no (decide_eq_false c1) (st (Whole_F (z:= -1) (by decide)) (st g3 (st g4 rfl))))))))))),r17_Says.of 0 l i (st e2 (st h3 (no rfl (no rfl (no (nam_f hnm) (no (decide_eq_false c1) (st (rWhole_F (z:= -1) (by decide)) (st d1 (st d2 rfl))))))))),(hw.scl one_ft).lb (by omega),hr.ft.lb hm,.inl rfl⟩
theorem textB {l:Dt22}{i:Int}(hl:∀a∈l,AtR a)(hn:l.length≤1048576)(hi: -9223372036854775808≤i∧i≤9223372036854775807):∃s e,atoms_Text.F (l,i,())=some (s,e,())∧r17_Text.F (l,i,())=some (s,e,()):=by
 obtain⟨t,v,h1,h2,_⟩:=load_F hl
 obtain⟨c,h3,h4,h5⟩:=rCheck_F hl
 obtain⟨a1,o1,q1,x1,y1⟩:∃(a:Dt69) (o q:Bool),atoms_literal.F (l,i,())=some (a,o,())∧r17_At.F (l,i,())=some (a,q,o,()):=by
  rcases lit_F l i hn hi with⟨n,h,_,e1,e2⟩|⟨e1,e2⟩
  ·exact ⟨_,_,_,e1,e2⟩
  ·exact ⟨_,_,_,e1,e2⟩
 by_cases hg:Good l
 case neg=>
  have hv:v=false:=by cases v;rfl;exact absurd (h2.1 rfl) hg
  have hc:c=170:=h5.resolve_left fun e=>hg (h4.1 e)
  subst hv;subst hc
  exact⟨_,170,atoms_Text.of 0 l i (st h1 (st x1 (yes rfl rfl))),r17_Text.of 0 l i (st y1 (st h3 (yes rfl rfl)))⟩
 obtain rfl:v=true:=h2.2 hg
 obtain rfl:c=0:=h4.2 hg
 clear x1 y1
 rcases lit_F l i hn hi with⟨n,hnl,en,e1,e2⟩|⟨e1,e2⟩
 case inr=>exact⟨_,170,atoms_Text.of 0 l i (st h1 (st e1 (no rfl (yes rfl rfl)))),r17_Text.of 0 l i (st e2 (st h3 (no rfl (yes rfl rfl))))⟩
 have code:=fun r (h:_=some r)=>atoms_Text.of 0 l i (y:=r) (st h1 (st e1 (no rfl (no rfl h))))
 have ref:=fun r (h:_=some r)=>r17_Text.of 0 l i (y:=r) (st e2 (st h3 (no rfl (no rfl h))))
 by_cases c1:i=1
 ·exact ⟨_,_,code _ (yes (beq_iff_eq.2 c1) rfl),ref _ (yes (beq_iff_eq.2 c1) rfl)⟩
 by_cases c2:i= -1
 ·exact ⟨_,_,code _ (no (beq_f c1) (yes (beq_iff_eq.2 c2) rfl)),ref _ (no (beq_f c1) (yes (beq_iff_eq.2 c2) rfl))⟩
 have code:=fun r (h:_=some r)=>code r (no (beq_f c1) (no (beq_f c2) h))
 have ref:=fun r (h:_=some r)=>ref r (no (beq_f c1) (no (beq_f c2) h))
 have ha:=hl _ (List.getElem_mem hnl)
 obtain⟨hv,N,k,hf,hc,hN⟩:=ha.form
 obtain⟨m,hr,hm⟩:=ha.bound
 have hsz:=ha.name
 have z0:(⟨#[110,111,116,32]⟩:ByteArray).size=4:=rfl
 by_cases hnm:l[n].1=ByteArray.empty
 case neg=>
  by_cases c3:i>0
  ·exact ⟨_,_,code _ (yes (nam_t hnm) (yes (decide_eq_true c3) rfl)),ref _ (yes (nam_t hnm) (yes (decide_eq_true c3) rfl))⟩
  ·have hz:decide ((⟨#[110,111,116,32]⟩:ByteArray).size+l[n].1.size≤9223372036854775807)=true:=decide_eq_true (by rw[z0];omega)
   exact⟨_,_,code _ (yes (nam_t hnm) (no (decide_eq_false c3) (yes (nam_t hnm) (yes hz rfl)))),ref _ (yes (nam_t hnm) (no (decide_eq_false c3) (yes (nam_t hnm) (yes hz rfl))))⟩
 have code:=fun r (h:_=some r)=>code r (no (nam_f hnm) (no (nam_f hnm) h))
 have ref:=fun r (h:_=some r)=>ref r (no (nam_f hnm) (no (nam_f hnm) h))
 have g1:=hf.Text_F (by omega) hv
 have g2:=hr.Text_F hm
 have d1:=hf.rText_F (by omega) hv
 have d2:=hr.rText_F hm
 have s1:=ftx_size hf.wt.nrm hv.nrm
 have s2:=rtx_size hr.ft
 have za:(⟨#[32,62,61,32]⟩:ByteArray).size=4:=rfl
 have zb:(⟨#[32,62,32]⟩:ByteArray).size=3:=rfl
 have zc:(⟨#[32,60,32]⟩:ByteArray).size=3:=rfl
 have zd:(⟨#[32,60,61,32]⟩:ByteArray).size=4:=rfl
 have b1:∀{q:ByteArray},q.size≤4→decide ((ftx (nrm (fv l[n].2.1))).size+q.size≤9223372036854775807)=true:=fun h=>decide_eq_true (by omega)
 have b2:∀{q:ByteArray},q.size≤4→decide ((ftx (nrm (fv l[n].2.1))++q).size+(rtx (rv l[n].2.2.1)).size≤9223372036854775807)=true:=fun h=>decide_eq_true (by rw[size_append];omega)
 by_cases hs:l[n].2.2.2=true
 ·by_cases c3:i>0
  ·exact ⟨_,_,code _ (yes hs (no (decide_eq_false (by omega)) (st g1 (yes (b1 (by rw[zc];decide)) (st g2 (yes (b2 (by rw[zc];decide)) rfl)))))),ref _ (yes (decide_eq_true c3) (yes hs (st d1 (yes (b1 (by rw[zc];decide)) (st d2 (yes (b2 (by rw[zc];decide)) rfl))))))⟩
  ·exact ⟨_,_,code _ (yes hs (yes (decide_eq_true (by omega)) (st g1 (yes (b1 (by rw[za];decide)) (st g2 (yes (b2 (by rw[za];decide)) rfl)))))),ref _ (no (decide_eq_false c3) (no (decide_eq_false c3) (no (by rw[hs];rfl) (st d1 (yes (b1 (by rw[za];decide)) (st d2 (yes (b2 (by rw[za];decide)) rfl)))))))⟩
 ·have hs:=Bool.eq_false_iff.2 hs
  by_cases c3:i>0
  ·exact ⟨_,_,code _ (no hs (no (decide_eq_false (by omega)) (st g1 (yes (b1 (by rw[zd];decide)) (st g2 (yes (b2 (by rw[zd];decide)) rfl)))))),ref _ (yes (decide_eq_true c3) (no hs (yes (decide_eq_true c3) (st d1 (yes (b1 (by rw[zd];decide)) (st d2 (yes (b2 (by rw[zd];decide)) rfl)))))))⟩
  ·exact ⟨_,_,code _ (no hs (yes (decide_eq_true (by omega)) (st g1 (yes (b1 (by rw[zb];decide)) (st g2 (yes (b2 (by rw[zb];decide)) rfl)))))),ref _ (no (decide_eq_false c3) (no (decide_eq_false c3) (yes (by rw[hs];rfl) (st d1 (yes (b1 (by rw[zb];decide)) (st d2 (yes (b2 (by rw[zb];decide)) rfl)))))))⟩
theorem sm_of {l:Dt22}(w:K.wf Kt22 l)(b:K.bulk Kt22 l≤1048576):∀a∈l,Sm a:=fun a ha=>by
 have hb:((l:List Dt69).map (K.bulk Kt69)).sum+1≤1048576:=b
 have h1:=sum_mem (f:=K.bulk Kt69) ha
 have e:K.bulk Kt69 a=(a.1.size+1)+(K.bulk Kt40 a.2.1+(K.bulk Kt47 a.2.2.1+1)):=rfl
 have w1:K.wf Kt40 a.2.1:=(w a ha).2.1
 obtain⟨N,k1,_,_,k4,_⟩:=form_ok w1 (by omega)
 exact⟨N,k1,k4⟩
theorem atomsSays_true (l:Dt22)(i:Int)(wl:K.wf Kt22 l)(wi:K.wf (.int .i64) i)(bl:K.bulk Kt22 l≤1048576)(bi:K.bulk (.int .i64) i≤1048576):w_AtomsSays.F (l,i,())=some (true,()):=by
 obtain⟨h1,h2⟩:=atoms_at wl bl
 have hi:=i64_wf wi
 obtain⟨f,r,s,e,h⟩:=sayB h1 (sm_of wl bl) h2 hi
 obtain⟨tx,te,k1,k2⟩:=textB h1 h2 hi
 have htw:=twin_F h1 h2
 have es:(!(s==s))=false:=by cases s<;>rfl
 have ht:(tx.toList==tx.toList)=true:=str_yes rfl
 by_cases he:e=0
 ·have hsa:=(SameAffine_F (f:=(f,r)) (g:=(f,r)) h.lf h.lr).yes rfl
  refine w_AtomsSays.of 0 l i (st htw (st h.code (st h.ref (no (bne_self _) (no es (yes (beq_iff_eq.2 he) (st hsa (no rfl (no (bne_eq_false_iff_eq.2 he) (st htw (st k1 (st k2 (st lives_F (yes rfl (yes ht ?_)))))))))))))))
  show some ((te==te),())=_;rw[beq_self]
 ·have hf0:=(h.er.resolve_left he).2
  refine w_AtomsSays.of 0 l i (st htw (st h.code (st h.ref (no (bne_self _) (no es (no (beq_f he) (yes (bne_iff_ne.2 he) (no (decide_eq_false ?_) (st htw (st k1 (st k2 (st lives_F (yes rfl (yes ht ?_))))))))))))))
  ·show ¬((f.length:Int)>0);rw[hf0];decide
  ·show some ((te==te),())=_;rw[beq_self]
end Go.Fx.Tryz
