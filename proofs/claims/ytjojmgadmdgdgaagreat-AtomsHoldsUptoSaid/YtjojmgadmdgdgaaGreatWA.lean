/- Tables of atoms: which are good, the code's check and the reference's. -/
import Derived.Test.YtjojmgadmdgdgaaGreatVB
namespace Go.Fx.Tryz
open Go Go.Fx Go.Fx.Num
set_option linter.unusedVariables false
set_option linter.unusedSimpArgs false
theorem mpFind_put (s k:ByteArray)(v:Int):∀t:List (ByteArray×Int),mpFind s (mpPut k v t)=if s=k then some v else mpFind s t
 |[]=>by simp only[mpPut,mpFind]
 |x::t=>by
  simp only[mpPut]
  by_cases h:k=x.1
  ·rw [if_pos h]
   simp only[mpFind]
   by_cases h2:s=k
   ·rw [if_pos h2,if_pos h2]
   ·rw [if_neg h2,if_neg h2,if_neg (by rw[←h];exact h2)]
  ·rw [if_neg h]
   simp only[mpFind]
   rw[mpFind_put s k v t]
   by_cases h2:s=x.1
   ·rw [if_pos h2,if_pos h2,if_neg (fun e=>h (by rw[←e,h2]))]
   ·rw [if_neg h2,if_neg h2]
def Tabs (q:Dt22)(t:List (ByteArray×Int)):Prop:=∀s,(∃(j:Nat) (h:j<q.length),ktx q[j]=s∧mpFind s t=some ((j:Int)+2))∨((∀a∈q,ktx a≠s)∧mpFind s t=none)
theorem Tabs.nil:Tabs [] []:=fun s=> .inr ⟨fun a h=>by simp at h,rfl⟩
theorem Tabs.snoc {q:Dt22} {t}{b:Dt69}(h:Tabs q t)(hb:∀a∈q,ktx a≠ktx b):Tabs (q++[b]) (mpPut (ktx b) ((q.length:Int)+2) t):=by
 intro s
 rw[mpFind_put]
 by_cases e:s=ktx b
 ·rw [if_pos e]
  exact .inl ⟨q.length,by simp,by rw[List.getElem_append_right (Nat.le_refl _)];simp[e],rfl⟩
 ·rw [if_neg e]
  rcases h s with⟨j,hj,h1,h2⟩|⟨h1,h2⟩
  ·exact .inl ⟨j,by simp;omega,by rw[List.getElem_append_left hj];exact h1,h2⟩
  ·refine .inr ⟨fun a ha=> ?_,h2⟩
   rcases List.mem_append.1 ha with ha|ha
   ·exact h1 a ha
   ·simp only[List.mem_singleton]at ha
    subst ha;exact fun e'=>e e'.symm
def GoodT (q:Dt22):Prop:=(∀a∈q,Ok a)∧q.Nodup
def Good:Dt22→Prop
 |[]=>False
 |a::q=>q.length+1≤262144∧a=tru∧GoodT q
theorem tru_not_ok:¬Ok tru:=by
 rintro(h|h)
 ·exact h.1 rfl
 ·exact h.2.1 rfl
theorem Good.ow {l:Dt22}(h:Good l):∀a∈l,ow a=a:=by
 match l,h with
 |b::q,h=>
  intro a ha
  rcases List.mem_cons.1 ha with rfl|ha
  ·rw [h.2.1];exact tru_ow
  ·exact (h.2.2.1 a ha).ow
theorem Good.nodup {l:Dt22}(h:Good l):l.Nodup:=by
 match l,h with
 |b::q,h=>exact List.nodup_cons.2 ⟨fun hb=>tru_not_ok (h.2.1▸h.2.2.1 b hb),h.2.2.2⟩
theorem Good.len {l:Dt22}(h:Good l):l.length≤262144:=by
 match l,h with
 |b::q,h=>exact h.1
theorem take_succ' {α:Type}(q:List α){i:Nat}(h:i<q.length):q.take (i+1)=q.take i++[q[i]]:=by
 rw[List.take_add_one,List.getElem?_eq_getElem h];rfl
theorem load_loop {q:Dt22}(hq:∀a∈q,AtR a)(hl:q.length≤262144):∀(d i:Nat) (t:List (ByteArray×Int)),i+d=q.length→GoodT (q.take i)→Tabs (q.take i) t→
  ∃j,∃t' v,(v=true↔GoodT q)∧(v=true→Tabs q t')∧∀k,atoms_load.L8 (k+j) t q (q.length:Int) (i:Int)=some (t',v,()):=by
 intro d
 induction d with
 |zero=>
  intro i t h hg ht
  obtain rfl:i=q.length:=by omega
  rw[List.take_length]at hg ht
  exact⟨1,t,true,⟨fun _=>hg,fun _=>rfl⟩,fun _=>ht,fun k=>(atoms_load.L8_succ _ _ _ _ _).trans (geb (Nat.lt_irrefl _) rfl)⟩
 |succ d ih=>
  intro i t h hg ht
  have hi:i<q.length:=by omega
  have e1:=getD_at q zt69 hi
  have ha:=hq _ (List.getElem_mem hi)
  have hk:atoms_key.F (List.getD q (Int.toNat (i:Int)) zt69,())=some (ktx q[i],()):=by rw[e1];exact key_F ha
  have hlt:(q.take i).length=i:=by rw[List.length_take];omega
  rcases ht (ktx q[i])with⟨j,hj,h1,h2⟩|⟨h1,h2⟩
  ·refine ⟨1,[],false,⟨fun e=>(by cases e),fun e=> ?_⟩,fun e=>(by cases e),fun k=>(atoms_load.L8_succ _ _ _ _ _).trans (ltb hi (inb hi (st hk (yes ?_ rfl))))⟩
   ·have hji:j<i:=by omega
    have hm1:(q.take i)[j]∈q.take i:=List.getElem_mem hj
    have hx:=key_inj (hg.1 _ hm1).ow (e.1 _ (List.getElem_mem hi)).ow h1
    have hn:=e.2
    have:q.take (i+1)=q.take i++[q[i]]:=take_succ' q hi
    have hs:=hn.sublist (List.take_sublist (i+1) q)
    rw[this,List.nodup_append]at hs
    exact(hs.2.2 _ hm1 _ List.mem_cons_self hx).elim
   ·rw [h2];rfl
  ·have hm:=may_F ha
   have hm':Tells (atoms_may.F (List.getD q (Int.toNat (i:Int)) zt69,())) (Ok q[i]):=by rw[e1];exact hm
   by_cases ho:Ok q[i]
   case neg=>
    refine⟨1,[],false,⟨fun e=>(by cases e),fun e=>absurd (e.1 _ (List.getElem_mem hi)) ho⟩,fun e=>(by cases e),fun k=>(atoms_load.L8_succ _ _ _ _ _).trans (ltb hi (inb hi (st hk (no ?_ (st (hm'.no ho) (yes rfl rfl))))))⟩
    rw[h2];rfl
   have hts:=take_succ' q hi
   have hg':GoodT (q.take (i+1)):=by
    rw[hts]
    refine⟨fun a ha=> ?_,List.nodup_append.2 ⟨hg.2,by simp,fun a ha b hb=> ?_⟩⟩
    ·rcases List.mem_append.1 ha with ha|ha
     ·exact hg.1 a ha
     ·simp only[List.mem_singleton]at ha;rw[ha];exact ho
    ·simp only[List.mem_singleton]at hb
     rw[hb]
     intro e
     exact h1 a ha (by rw[e])
   have ht':Tabs (q.take (i+1)) (mpPut (ktx q[i]) ((i:Int)+2) t):=by
    have:=ht.snoc (b:=q[i]) h1
    rw[hlt]at this
    rw[hts];exact this
   obtain⟨j,t',v,h3,h4,h5⟩:=ih (i+1) _ (by omega) hg' ht'
   refine⟨j+1,t',v,h3,h4,fun k=>(atoms_load.L8_succ _ _ _ _ _).trans (ltb hi (inb hi (st hk (no ?_ (st (hm'.yes ho) (no rfl ?_))))))⟩
   ·rw [h2];rfl
   ·show atoms_load.L8 (k+j) (mpPut (ktx q[i]) (IntKind.i64.wrap ((i:Int)+2)) t) q (q.length:Int) (IntKind.i64.wrap ((i:Int)+1))=_
    rw[up1 (by omega),IntWalk.i64_in _ (by omega)];exact h5 k
theorem load_F {l:Dt22}(h:∀a∈l,AtR a):∃t v,atoms_load.F (l,())=some (t,v,())∧(v=true↔Good l)∧(v=true→Tabs l.tail t):=by
 match l,h with
 |[],_=>exact⟨[],false,atoms_load.of 0 _ rfl,⟨fun e=>(by cases e),fun e=>e.elim⟩,fun e=>(by cases e)⟩
 |a::q,h=>
  have ha:=h a List.mem_cons_self
  have fin:¬Good (a::q)→∀k,atoms_load.e (atoms_load.L8 k) (a::q)=some ([],false,())→∃t v,atoms_load.F (a::q,())=some (t,v,())∧(v=true↔Good (a::q))∧(v=true→Tabs (a::q).tail t):=
   fun hg k e=>⟨[],false,atoms_load.of k _ e,⟨fun e=>(by cases e),fun e=>absurd e hg⟩,fun e=>(by cases e)⟩
  have hz:((((a::q).length:Nat):Int)==0)=false:=Bool.eq_false_iff.2 fun e=>by cases len_nil.1 e
  by_cases h1:q.length+1≤262144
  case neg=>exact fin (fun e=>h1 e.1) 0 ((yes (decide_eq_true (by simp only[List.length_cons];omega)) rfl))
  have hd1:decide (((a::q).length:Int)>262144)=false:=decide_eq_false (by simp only[List.length_cons];omega)
  by_cases h2:a.1=ByteArray.empty
  case neg=>
   refine fin (fun e=>h2 (by rw[e.2.1];rfl)) 0 ((no hd1 (at0 (yes ?_ rfl))))
   show(!(a.1.toList==(⟨#[]⟩:ByteArray).toList))=true
   rw[show (a.1.toList==(⟨#[]⟩:ByteArray).toList)=false from str_no h2];rfl
  have s1:(!(a.1.toList==(⟨#[]⟩:ByteArray).toList))=false:=by rw[show (a.1.toList==(⟨#[]⟩:ByteArray).toList)=true from str_yes h2];rfl
  by_cases h3:a.2.1=[]
  case neg=>
   refine fin (fun e=>h3 (by rw[e.2.1];rfl)) 0 ((no hd1 (at0 (no s1 (yes (decide_eq_true ?_) rfl)))))
   show((a.2.1.length:Nat):Int)>0
   have:a.2.1.length≠0:=fun e=>h3 (List.length_eq_zero_iff.1 e)
   omega
  have s2:decide (((a.2.1.length:Nat):Int)>0)=false:=by rw[h3];rfl
  obtain⟨m,hr,hm⟩:=ha.bound
  have hs:ratio_Sign.F (a.2.2.1,())=some (sgn (rv a.2.2.1).num,()):=hr.Sign_F (by omega)
  by_cases h4:rv a.2.2.1=0
  case neg=>
   refine fin (fun e=>h4 (by rw[e.2.1];exact rv_rcan 0)) 0 ((no hd1 (at0 (no s1 (no s2 (st hs (yes ?_ rfl)))))))
   exact bne_iff_ne.2 fun e=>h4 (sgn_beq.1 (beq_iff_eq.2 e))
  have s3:(sgn (rv a.2.2.1).num != 0)=false:=by rw[h4];rfl
  cases h5:a.2.2.2 with
  |true=>exact fin (fun e=>by rw[e.2.1]at h5;cases h5) 0 ((no hd1 (at0 (no s1 (no s2 (st hs (no s3 (yes h5 rfl))))))))
  |false=>
   have hn:=normal_F ha
   by_cases h6:ow a=a
   case neg=>exact fin (fun e=>h6 (by rw[e.2.1];exact tru_ow)) 0 ((no hd1 (at0 (no s1 (no s2 (st hs (no s3 (no h5 (st (hn.no h6) (yes rfl rfl))))))))))
   have hat:a=tru:=by
    rw[atom_iff]
    refine⟨h2,h5,?_,h3⟩
    have:=((ow_iff a).1 h6).1
    rw[h4]at this;exact this.symm
   obtain⟨j,t,v,g1,g2,g3⟩:=load_loop (fun b hb=>h b (List.mem_cons_of_mem _ hb)) (by omega) q.length 0 [] (by omega) ⟨fun a ha=>by simp at ha,by simp⟩ .nil
   refine⟨t,v,atoms_load.of (0+j) _ ((no hd1 (at0 (no s1 (no s2 (st hs (no s3 (no h5 (st (hn.yes h6) (no rfl (drop1 (g3 0)))))))))))),?_,g2⟩
   rw[g1]
   exact⟨fun e=>⟨h1,hat,e⟩,fun e=>e.2.2⟩
theorem zero17_F:r17_zero.F ()=some (rcan 0,()):=r17_zero.of 0 (st (rWhole_F (z:=0) (by decide)) rfl)
theorem AtR.lb {a:Dt69}(h:AtR a):LbA a:=by
 obtain⟨_,N,n,hf,hc,hN⟩:=h.form
 obtain⟨m,hr,hm⟩:=h.bound
 exact⟨hf.lb (by omega),hr.lb hm⟩
theorem truth_F {a:Dt69}(h:AtR a):Tells (r17_truth.F (a,())) (a=tru):=by
 rw[atom_iff]
 show Tells _ (a.1=ByteArray.empty∧a.2.2.2=false∧a.2.2.1=rcan 0∧a.2.1=[])
 by_cases h1:a.1=ByteArray.empty
 case neg=>exact .of_no (fun e=>h1 e.1) (r17_truth.of 0 a (no (str_no h1) rfl))
 by_cases h2:a.2.1=[]
 case neg=>exact .of_no (fun e=>h2 e.2.2.2) (r17_truth.of 0 a (yes (str_yes h1) (no (Bool.eq_false_iff.2 fun e=>h2 (len_nil.1 e)) rfl)))
 cases h3:a.2.2.2 with
 |true=>exact .of_no (fun e=>by cases e.2.1) (r17_truth.of 0 a (yes (str_yes h1) (yes (len_nil.2 h2) (no (by rw[h3];rfl) rfl))))
 |false=>
  obtain⟨v,hv,hw⟩:=rSameRat_F (r:=a.2.2.1) (s:=rcan 0) h.lb.2
  exact⟨v,r17_truth.of 0 a (yes (str_yes h1) (yes (len_nil.2 h2) (yes (by rw[h3];rfl) (st zero17_F (st hv rfl))))),hw.trans ⟨fun e=>⟨h1,rfl,e,h2⟩,fun e=>e.2.2.1⟩⟩
theorem constant_F {a:Dt69}(h:AtR a):Tells (r17_constant.F (a,())) (OkC a):=by
 by_cases h1:a.1=ByteArray.empty
 ·refine .of_no (fun e=>e.1 h1) (r17_constant.of 0 a (no ?_ rfl))
  show(!(a.1.toList==(⟨#[]⟩:ByteArray).toList))=false
  rw[show (a.1.toList==(⟨#[]⟩:ByteArray).toList)=true from str_yes h1];rfl
 have s1:(!(a.1.toList==(⟨#[]⟩:ByteArray).toList))=true:=by rw[show (a.1.toList==(⟨#[]⟩:ByteArray).toList)=false from str_no h1];rfl
 by_cases h2:a.2.1=[]
 case neg=>exact .of_no (fun e=>h2 e.2.1) (r17_constant.of 0 a (yes s1 (no (Bool.eq_false_iff.2 fun e=>h2 (len_nil.1 e)) rfl)))
 cases h3:a.2.2.2 with
 |true=>exact .of_no (fun e=>by have:=e.2.2.2;rw[h3]at this;cases this) (r17_constant.of 0 a (yes s1 (yes (len_nil.2 h2) (no (by rw[h3];rfl) rfl))))
 |false=>
  obtain⟨v,hv,hw⟩:=rSameRat_F (r:=a.2.2.1) (s:=rcan 0) h.lb.2
  exact⟨v,r17_constant.of 0 a (yes s1 (yes (len_nil.2 h2) (yes (by rw[h3];rfl) (st zero17_F (st hv rfl))))),hw.trans ⟨fun e=>⟨h1,h2,e,h3⟩,fun e=>e.2.2.1⟩⟩
theorem inequality_F {a:Dt69}(h:AtR a):Tells (r17_inequality.F (a,())) (OkI a):=by
 have hlb:=h.lb
 obtain⟨_,N,n,hf,hc,hN⟩:=h.form
 obtain⟨m,hr,hm⟩:=h.bound
 have hp:r06_Prime.F (a.2.1,())=some (fc (pr (nrm (fv a.2.1))),rcan (pc (nrm (fv a.2.1))),()):=hf.rPrime_F (by omega) hc hN
 by_cases h1:a.1=ByteArray.empty
 case neg=>exact .of_no (fun e=>h1 e.1) (r17_inequality.of 0 a (st hp (no (str_no h1) rfl)))
 by_cases h2:a.2.1=[]
 ·refine .of_no (fun e=>e.2.1 h2) (r17_inequality.of 0 a (st hp (yes (str_yes h1) (no (decide_eq_false ?_) rfl))))
  show ¬((a.2.1.length:Nat):Int)>0
  rw[h2];decide
 have s2:decide (((a.2.1.length:Nat):Int)>0)=true:=decide_eq_true (by
  have:a.2.1.length≠0:=fun e=>h2 (List.length_eq_zero_iff.1 e)
  omega)
 have t1:=rSameForm_F (f:=a.2.1) (g:=fc (pr (nrm (fv a.2.1)))) hlb.1
 by_cases h3:a.2.1=fc (pr (nrm (fv a.2.1)))
 case neg=>exact .of_no (fun e=>h3 e.2.2.1) (r17_inequality.of 0 a (st hp (yes (str_yes h1) (yes s2 (st (t1.no h3) rfl)))))
 obtain⟨v,hv,hw⟩:=rSameRat_F (r:=a.2.2.1) (s:=rcan (rv a.2.2.1)) hlb.2
 exact⟨v,r17_inequality.of 0 a (st hp (yes (str_yes h1) (yes s2 (st (t1.yes h3) (yes rfl (st (hr.rNorm_F (by omega)) (st hv rfl))))))),hw.trans ⟨fun e=>⟨h1,h2,h3,e⟩,fun e=>e.2.2.2⟩⟩
theorem Check_in {l:Dt22}(h:∀a∈l,LbA a)(hl:l.length≤262144){i:Nat}(hi:i<l.length):(l[i]∉l.take i∧∃j,∀k,r17_Check.L9 (k+j) l (i:Int) 0=r17_Check.L4 k l ((i+1:Nat):Int))∨(l[i]∈l.take i∧∃j,∀k,r17_Check.L9 (k+j) l (i:Int) 0=some (170,())):=by
 have e1:=getD_at l zt69 hi
 have tel:∀j (hj:j<l.length),Tells (r17_Alike.F (List.getD l (Int.toNat (i:Int)) zt69,List.getD l (Int.toNat (j:Int)) zt69,())) (l[i]=l[j]):=fun j hj=>by
  rw[e1,getD_at l zt69 hj];exact Alike_F (h _ (List.getElem_mem hi))
 by_cases hm:l[i]∈l.take i
 ·refine .inr ⟨hm,?_⟩
  obtain⟨j0,hj0,he⟩:=List.getElem_of_mem hm
  have hlt:(l.take i).length=i:=by rw[List.length_take];omega
  have hji:j0<i:=by omega
  have he:l[i]=l[j0]:=by rw[←he,List.getElem_take]
  have yes170:∀j (hj:j<i) (e:l[i]=l[j]'(by omega)) k,r17_Check.L9 (k+1) l (i:Int) (j:Int)=some (170,()):=fun j hj e k=>
   (r17_Check.L9_succ _ _ _ _).trans (ltb hj (inb hi (inb (by omega) (st ((tel j (by omega)).yes e) (yes rfl rfl)))))
  obtain⟨j,r,h1,h2⟩:=downR (L:=fun k j=>r17_Check.L9 k l (i:Int) (j:Int)) (P:=fun _ r=>r=(170,())) (n:=j0) ⟨(170,()),rfl,yes170 j0 hji he⟩ (fun j hj=>by
   by_cases e:l[i]=l[j]
   ·exact .inl ⟨(170,()),rfl,yes170 j (by omega) e⟩
   ·refine .inr ⟨fun _ h=>h,fun k=>(r17_Check.L9_succ _ _ _ _).trans (ltb (by omega) (inb hi (inb (by omega) (st ((tel j (by omega)).no e) (no rfl ?_)))))⟩
    show r17_Check.L9 k l (i:Int) (IntKind.i64.wrap ((j:Int)+1))=_
    rw[up1 (by omega)]) 0 (Nat.zero_le _)
  exact⟨j,fun k=>(h2 k).trans (by rw[h1])⟩
 ·refine .inl ⟨hm,?_⟩
  exact downM (L:=fun k j=>r17_Check.L9 k l (i:Int) (j:Int)) (M:=fun k=>r17_Check.L4 k l ((i+1:Nat):Int)) (Inv:=fun _=>True) (n:=i)
   (fun _=>⟨1,fun k=>(r17_Check.L9_succ _ _ _ _).trans (geb (Nat.lt_irrefl _) (by
    show r17_Check.L4 k l (IntKind.i64.wrap ((i:Int)+1))=_
    rw[up1 (by omega)]))⟩)
   (fun j hj _=> .inr ⟨trivial,fun k=>by
    have hne:¬l[i]=l[j]:=fun e=>hm (by rw[e];exact List.mem_take_iff_getElem.2 ⟨j,by omega,rfl⟩)
    refine(r17_Check.L9_succ _ _ _ _).trans (ltb hj (inb hi (inb (by omega) (st ((tel j (by omega)).no hne) (no rfl ?_)))))
    show r17_Check.L9 k l (i:Int) (IntKind.i64.wrap ((j:Int)+1))=_
    rw[up1 (by omega)]⟩) 0 (Nat.zero_le _) trivial
theorem Check_out {l:Dt22}(h:∀a∈l,AtR a)(hl:l.length≤262144):∀(d i:Nat),i+d=l.length→(l.take i).Nodup→
  ∃j,∃v:Int,(v=0↔(∀a∈l.drop i,Ok a)∧l.Nodup)∧(v=0∨v=170)∧∀k,r17_Check.L4 (k+j) l (i:Int)=some (v,()):=by
 intro d
 induction d with
 |zero=>
  intro i hi hn
  obtain rfl:i=l.length:=by omega
  rw[List.take_length]at hn
  exact⟨1,0,⟨fun _=>⟨fun a ha=>by simp at ha,hn⟩,fun _=>rfl⟩,.inl rfl,fun k=>(r17_Check.L4_succ _ _ _).trans (geb (Nat.lt_irrefl _) rfl)⟩
 |succ d ih=>
  intro i hid hn
  have hi:i<l.length:=by omega
  have e1:=getD_at l zt69 hi
  have ha:=h _ (List.getElem_mem hi)
  have t1:Tells (r17_constant.F (List.getD l (Int.toNat (i:Int)) zt69,())) (OkC l[i]):=by rw[e1];exact constant_F ha
  have t2:Tells (r17_inequality.F (List.getD l (Int.toNat (i:Int)) zt69,())) (OkI l[i]):=by rw[e1];exact inequality_F ha
  by_cases ho:Ok l[i]
  case neg=>
   refine⟨1,170,⟨fun e=>(by cases e),fun e=>absurd (e.1 _ (by rw[drop_at l hi];exact List.mem_cons_self)) ho⟩,.inr rfl,fun k=>(r17_Check.L4_succ _ _ _).trans (ltb hi (inb hi (st (t1.no fun e=>ho (.inl e)) (yes rfl (inb hi (st (t2.no fun e=>ho (.inr e)) (yes rfl rfl)))))))⟩
  have stp:∀k,r17_Check.L4 (k+1) l (i:Int)=r17_Check.L9 k l (i:Int) 0:=fun k=>by
   refine(r17_Check.L4_succ _ _ _).trans (ltb hi (inb hi ?_))
   by_cases hc:OkC l[i]
   ·exact st (t1.yes hc) (no rfl rfl)
   ·have hi':OkI l[i]:=ho.resolve_left hc
    exact st (t1.no hc) (yes rfl (inb hi (st (t2.yes hi') (no rfl rfl))))
  have hts:=take_succ' l hi
  rcases Check_in (fun a ha=>(h a ha).lb) hl hi with⟨hm,j,hj⟩|⟨hm,j,hj⟩
  ·have hn':(l.take (i+1)).Nodup:=by
    rw[hts]
    refine List.nodup_append.2 ⟨hn,by simp,fun a ha b hb=> ?_⟩
    simp only[List.mem_singleton]at hb
    rw[hb];intro e;exact hm (e▸ha)
   obtain⟨j',v,h1,h2,h3⟩:=ih (i+1) (by omega) hn'
   refine⟨j'+j+1,v,h1.trans ?_,h2,fun k=> ?_⟩
   ·rw [drop_at l hi]
    simp only[List.mem_cons,forall_eq_or_imp]
    exact⟨fun e=>⟨⟨ho,e.1⟩,e.2⟩,fun e=>⟨e.1.2,e.2⟩⟩
   ·rw [show k+(j'+j+1)=(k+j'+j)+1 by omega,stp,hj,h3]
  ·refine ⟨j+1,170,⟨fun e=>(by cases e),fun e=> ?_⟩,.inr rfl,fun k=> ?_⟩
   ·exfalso
    have hs:=e.2.sublist (List.take_sublist (i+1) l)
    rw[hts,List.nodup_append]at hs
    exact hs.2.2 _ hm _ List.mem_cons_self rfl
   ·rw [show k+(j+1)=(k+j)+1 by omega,stp,hj]
theorem rCheck_F {l:Dt22}(h:∀a∈l,AtR a):∃v:Int,r17_Check.F (l,())=some (v,())∧(v=0↔Good l)∧(v=0∨v=170):=by
 match l,h with
 |[],_=>exact⟨170,r17_Check.of 0 _ rfl,⟨fun e=>(by cases e),fun e=>e.elim⟩,.inr rfl⟩
 |a::q,h=>
  have hz:((((a::q).length:Nat):Int)==0)=false:=Bool.eq_false_iff.2 fun e=>by cases len_nil.1 e
  by_cases h1:q.length+1≤262144
  case neg=>exact⟨170,r17_Check.of 0 _ ((yes (decide_eq_true (by simp only[List.length_cons];omega)) rfl)),⟨fun e=>(by cases e),fun e=>absurd e.1 h1⟩,.inr rfl⟩
  have hd1:decide (((a::q).length:Int)>262144)=false:=decide_eq_false (by simp only[List.length_cons];omega)
  have ht:=truth_F (h a List.mem_cons_self)
  by_cases h2:a=tru
  case neg=>exact⟨170,r17_Check.of 0 _ ((no hd1 (at0 (st (ht.no h2) (yes rfl rfl))))),⟨fun e=>(by cases e),fun e=>absurd e.2.1 h2⟩,.inr rfl⟩
  obtain⟨j,v,h3,h4,h5⟩:=Check_out h (by simp only[List.length_cons];omega) q.length 1 (by simp only[List.length_cons];omega) (by simp)
  refine⟨v,r17_Check.of (0+j) _ ((no hd1 (at0 (st (ht.yes h2) (no rfl (h5 0)))))),h3.trans ?_,h4⟩
  constructor
  ·rintro ⟨e1,e2⟩
   exact⟨h1,h2,e1,(List.nodup_cons.1 e2).2⟩
  ·intro e
   exact⟨e.2.2.1,Good.nodup (l:=a::q) e⟩
theorem Fm.nil:Fm ([]:Dt40) []:=⟨fun m h=>by simp at h,0,1,.nil,by rw[nrm_nil];exact⟨by decide,by decide,by decide,by decide⟩,by rw[nrm_nil];decide⟩
theorem Rq.of {q:Rat}{n:Nat}(h:Ft q n)(hn:n≤1099511627776):Rq (rcan q):=⟨n,by rw[rv_rcan];exact h.rt,hn⟩
theorem Rq.zero:Rq (rcan 0):= .of Ft.zero (by decide)
noncomputable def nam (s:ByteArray):Dt69:=(s,(([]:Dt40),(rcan 0,false)))
theorem nam_at {s:ByteArray}(h:s.size≤1099511627776):AtR (nam s):=⟨Fm.nil,Rq.zero,h⟩
theorem tru_at:AtR tru:=nam_at (s:=ByteArray.empty) (by decide)
theorem New_F:atoms_New.F ()=some (([tru]:Dt22),()):=atoms_New.of 0 (st (Whole_F (z:=0) (by decide)) rfl)
theorem Good.new:Good [tru]:=⟨by decide,rfl,fun a h=>by simp at h,by simp⟩
inductive Put (l:Dt22) (a:Dt69):Dt22×Int×Int→Prop where
 |there (i:Nat) (h:i<l.length) (e:l[i]=a):Put l a (l,(i:Int)+1,0)
 |full (h:a∉l) (e:l.length=262144):Put l a ([],0,2)
 |new (h:a∉l) (e:l.length≠262144):Put l a (l++[a],(l.length:Int)+1,0)
theorem Put.one {l a r r'}(hn:l.Nodup)(h:Put l a r)(g:Put l a r'):r=r':=by
 cases h with
 |there i h e=>
  cases g with
  |there j g e'=>rw[(List.getElem_inj hn).1 (e.trans e'.symm)]
  |full g e'=>exact absurd (e▸List.getElem_mem h) g
  |new g e'=>exact absurd (e▸List.getElem_mem h) g
 |full h e=>
  cases g with
  |there j g e'=>exact absurd (e'▸List.getElem_mem g) h
  |full g e'=>rfl
  |new g e'=>exact absurd e e'
 |new h e=>
  cases g with
  |there j g e'=>exact absurd (e'▸List.getElem_mem g) h
  |full g e'=>exact absurd e' e
  |new g e'=>rfl
def Told (l:Dt22)(t:List (ByteArray×Int))(a:Dt69):Prop:=(∃(i:Nat) (h:i<l.length),l[i]=a∧mpFind (ktx a) t=some ((i:Int)+1))∨(a∉l∧mpFind (ktx a) t=none)
theorem Tabs.told {l:Dt22} {t}{a:Dt69}(hg:Good l)(h:Tabs l.tail t)(ha:ow a=a)(hn:a≠tru):Told l t a:=by
 match l,hg,h with
 |b::q,hg,h=>
  rcases h (ktx a)with⟨j,hj,h1,h2⟩|⟨h1,h2⟩
  ·have hj':j<q.length:=hj
   refine .inl ⟨j+1,by simp only[List.length_cons];omega,?_,?_⟩
   ·rw [List.getElem_cons_succ]
    exact key_inj (hg.2.2.1 _ (List.getElem_mem hj')).ow ha h1
   ·rw [h2];congr 1
  ·refine .inr ⟨fun hm=> ?_,h2⟩
   rcases List.mem_cons.1 hm with e|hm
   ·exact hn (e.trans hg.2.1)
   ·exact h1 a hm rfl
theorem put_loop {l:Dt22}{a:Dt69}(hl:∀b∈l,AtR b)(hw:∀b∈l,ow b=b)(ha:AtR a)(hn:l.length≤262144)(v:Int)(b:Bool):
  ∃j,∀k,atoms_put.L7 (k+j) a.1 a.2.1 a.2.2.1.1.1 a.2.2.1.1.2 a.2.2.1.2 a.2.2.2 v b l (l.length:Int) 0=some (if b=true then(l,v,0,())else(l++[ow a],(l.length:Int)+1,0,())):=by
 refine allR (L:=fun k i=>atoms_put.L7 k a.1 a.2.1 a.2.2.1.1.1 a.2.2.1.1.2 a.2.2.1.2 a.2.2.2 v b l (l.length:Int) (i:Int)) (n:=l.length) (fun k=> ?_) (fun i hi k=> ?_)
 ·refine (atoms_put.L7_succ _ _ _ _ _ _ _ _ _ _ _ _).trans (geb (Nat.lt_irrefl _) ?_)
  cases b with
  |true=>rfl
  |false=>
   refine yes rfl (st (aown_F ha) (yes (decide_eq_true ?_) ?_))
   ·show l.length+1<_;omega
   ·show some (l++[ow a],((l++[ow a]).length:Int),0,())=_
    rw[List.length_append,List.length_singleton];rfl
 ·have e1:=getD_at l zt69 hi
  have hb:=hl _ (List.getElem_mem hi)
  have ho:atoms_own.F (List.getD l (Int.toNat (i:Int)) zt69,())=some (l[i],()):=by
   rw[e1];have:=aown_F hb;rw[hw _ (List.getElem_mem hi)]at this;exact this
  refine(atoms_put.L7_succ _ _ _ _ _ _ _ _ _ _ _ _).trans (ltb hi (inb hi (st ho (inb hi ?_))))
  show atoms_put.L7 k a.1 a.2.1 a.2.2.1.1.1 a.2.2.1.1.2 a.2.2.1.2 a.2.2.2 v b (List.set l (Int.toNat (i:Int)) l[i]) (l.length:Int) (IntKind.i64.wrap ((i:Int)+1))=_
  rw[up1 (by omega),Int.toNat_natCast,List.set_getElem_self]
theorem take_rep {l:Dt22}{n:Nat}(h:n=l.length):List.take (List.length (List.replicate n zt69)) l++List.drop (List.length l) (List.replicate n zt69)=l:=by
 subst h
 rw[List.length_replicate,List.take_length,List.drop_of_length_le (by rw[List.length_replicate];exact Nat.le_refl _),List.append_nil]
theorem put_F {l:Dt22} {t}{a:Dt69}(hl:∀b∈l,AtR b)(hw:∀b∈l,ow b=b)(ha:AtR a)(hn:l.length≤262144)(hoa:ow a=a)(ht:Told l t a):
  ∃r,atoms_put.F (l,t,a,())=some (r.1,r.2.1,r.2.2,())∧Put l a r:=by
 have hk:=key_F ha
 have hmk:(decide (0≤(l.length:Int))&&(decide ((l.length:Int)≤IntKind.i64.wrap ((l.length:Int)+1))&&(decide (Int.toNat (IntKind.i64.wrap ((l.length:Int)+1))*104≤281474976710656)&&Nat.blt 0 104)))=true:=by
  rw[up1 (by omega),decide_eq_true (by omega),decide_eq_true (by omega),decide_eq_true (by rw[Int.toNat_natCast];omega)];rfl
 have hrep:=take_rep (l:=l) (n:=Int.toNat (l.length:Int)) (Int.toNat_natCast _)
 rcases ht with⟨i,hi,he,hf⟩|⟨hm,hf⟩
 ·obtain ⟨j,hj⟩:=put_loop hl hw ha hn ((i:Int)+1) true
  refine⟨(l,(i:Int)+1,0),atoms_put.of (0+j) _ _ _ (st hk (no ?_ (yes hmk ?_))),.there i hi he⟩
  ·show (!(mpFind (ktx a) t).isSome)=false
   rw[hf];rfl
  ·show atoms_put.L7 (0+j) a.1 a.2.1 a.2.2.1.1.1 a.2.2.1.1.2 a.2.2.1.2 a.2.2.2 (Option.getD (mpFind (ktx a) t) 0) (mpFind (ktx a) t).isSome (List.take (List.length (List.replicate (Int.toNat (l.length:Int)) zt69)) l++List.drop (List.length l) (List.replicate (Int.toNat (l.length:Int)) zt69)) ((List.take (List.length (List.replicate (Int.toNat (l.length:Int)) zt69)) l++List.drop (List.length l) (List.replicate (Int.toNat (l.length:Int)) zt69)).length:Int) 0=_
   rw[hrep,hf];exact hj 0
 ·have hno:(!(mpFind (ktx a) t).isSome)=true:=by rw[hf];rfl
  by_cases hc:l.length=262144
  ·exact ⟨([],0,2),atoms_put.of 0 _ _ _ (st hk (yes hno (yes (beq_iff_eq.2 (by omega)) rfl))),.full hm hc⟩
  ·obtain ⟨j,hj⟩:=put_loop hl hw ha hn 0 false
   rw[hoa]at hj
   refine⟨(l++[a],(l.length:Int)+1,0),atoms_put.of (0+j) _ _ _ (st hk (yes hno (no (beq_f (by omega)) (yes hmk ?_)))),.new hm hc⟩
   show atoms_put.L7 (0+j) a.1 a.2.1 a.2.2.1.1.1 a.2.2.1.1.2 a.2.2.1.2 a.2.2.2 (Option.getD (mpFind (ktx a) t) 0) (mpFind (ktx a) t).isSome (List.take (List.length (List.replicate (Int.toNat (l.length:Int)) zt69)) l++List.drop (List.length l) (List.replicate (Int.toNat (l.length:Int)) zt69)) ((List.take (List.length (List.replicate (Int.toNat (l.length:Int)) zt69)) l++List.drop (List.length l) (List.replicate (Int.toNat (l.length:Int)) zt69)).length:Int) 0=_
   rw[hrep,hf];exact hj 0
noncomputable def ine (x:NF)(q:Rat)(s:Bool):Dt69:=(ByteArray.empty,(fc (pr (nrm x)),(rcan (q/ -(pc (nrm x))),s)))
theorem ine_ow (x:NF)(q:Rat)(s:Bool):ow (ine x q s)=ine x q s:=by
 rw[ow_iff]
 show rcan (rv (rcan _))=rcan _∧fc (nrm (fv (fc _)))=fc _
 rw[rv_rcan,fv_fc,nrm_self (pr_nf (nrm_nf x).1)];exact⟨rfl,rfl⟩
theorem ine_ne {x:NF}(q:Rat)(s:Bool)(h:nrm x≠[]):ine x q s≠tru:=by
 intro e
 have e2:fc (pr (nrm x))=fc []:=congrArg (·.2.1) e
 exact h (pr_nil_iff.1 (fc_inj e2))
theorem neg_ne {q:Rat}(h:q≠0): -q≠0:=by grind
theorem div_ft {p q:Rat}{n m:Nat}(h:Ft p n)(g:Ft q m)(hq:q≠0):Ft (p/q) (n+m):=by rw[←div_eq];exact h.mul (inv_ft g hq)
structure BelA (f:Dt40) (r:Dt47):Prop where
 form:∃N n m,Rf f (fv f) N∧Ft (pc (nrm (fv f))) n∧Rt r (rv r) m∧N+n≤1099511627776∧m+n≤1099511627776
 prim:Fm (fc (pr (nrm (fv f)))) (pr (nrm (fv f)))
theorem ine_at {f r}(h:BelA f r)(s:Bool):AtR (ine (fv f) (rv r) s):=by
 obtain⟨N,n,m,hf,hc,hr,h1,h2⟩:=h.form
 refine⟨?_,.of (div_ft hr.ft hc.neg (neg_ne (pc_ne (nrm_nf _).1))) (by omega),by show 0≤_;omega⟩
 show Fm (fc (pr (nrm (fv f)))) (fv (fc (pr (nrm (fv f)))))
 rw[fv_fc];exact h.prim
theorem gt_beq (q:Rat):decide (sgn q.num>0)=decide (0<q):=by
 have:sgn q.num>0↔0<q:=by
  rw[Rat.lt_iff,show(0:Rat).den=1 from rfl,show(0:Rat).num=0 from rfl];unfold sgn;split<;>(try split)<;>omega
 exact decide_eq_decide.2 this
theorem lt_beq (q:Rat):decide (sgn q.num<0)=decide (q<0):=decide_eq_decide.2 neg_iff
theorem eq_beq (q:Rat):(sgn q.num==0)=decide (q=0):=by
 by_cases h:q=0
 ·rw [decide_eq_true h];exact sgn_beq.2 h
 ·rw [decide_eq_false h];exact Bool.eq_false_iff.2 fun e=>h (sgn_beq.1 e)
noncomputable def cst (q:Rat)(s:Bool):Int:=if q<0 then 1 else if q=0 then(if s=true then -1 else 1)else -1
inductive Bel (l:Dt22) (x:NF) (q:Rat) (s:Bool):Dt22×Int×Int→Prop where
 |bad (h:¬Good l):Bel l x q s ([],0,170)
 |const (h:Good l) (hx:nrm x=[]):Bel l x q s (l,cst q s,0)
 |up (h:Good l) (hx:nrm x≠[]) (hp:0<pc (nrm x)) {r} (hr:Put l (ine x q s) r):Bel l x q s r
 |dn (h:Good l) (hx:nrm x≠[]) (hp:¬0<pc (nrm x)) {r} (hr:Put l (ine x q (!s)) r):Bel l x q s (r.1,negI .i64 r.2.1,r.2.2)
theorem fc_nil_iff {y:NF}:fc y=[]↔y=[]:=⟨fun h=>fc_inj (y:=[]) h,fun h=>by rw[h];rfl⟩
theorem zero_put {l:Dt22}(hl:∀b∈l,AtR b)(hg:Good l):∃a q,l=a::q∧atoms_key.F (a,())=some (ktx a,())∧atoms_put.F (l,mpPut (ktx a) 1 [],a,())=some (l,1,0,()):=by
 match l,hl,hg with
 |a::q,hl,hg=>
  have ha:=hl a List.mem_cons_self
  have ht:Told (a::q) (mpPut (ktx a) 1 []) a:= .inl ⟨0,by simp,rfl,by rw[mpFind_put,if_pos rfl];rfl⟩
  obtain⟨r,h1,h2⟩:=put_F hl hg.ow ha hg.len (hg.ow a List.mem_cons_self) ht
  have:=h2.one hg.nodup (.there 0 (by simp) rfl)
  subst this
  exact⟨a,q,rfl,key_F ha,h1⟩
theorem Below_F {l:Dt22}{f:Dt40}{r:Dt47}{s:Bool}(hl:∀b∈l,AtR b)(h:BelA f r):∃y:Dt22×Int×Int,atoms_Below.F (l,(f,r),s,())=some (y.1,y.2.1,y.2.2,())∧Bel l (fv f) (rv r) s y:=by
 obtain⟨t,v,h1,h2,h3⟩:=load_F hl
 obtain⟨N,n,m,hf,hc,hr,h4,h5⟩:=h.form
 have hp:linear_Prime.F (f,())=some (fc (pr (nrm (fv f))),rcan (pc (nrm (fv f))),()):=hf.Prime_F (by omega) hc h4
 by_cases hg:Good l
 case neg=>
  have hv:v=false:=by cases v;rfl;exact absurd (h2.1 rfl) hg
  subst hv
  exact⟨([],0,170),atoms_Below.of 0 l (f,r) s (st h1 (yes rfl rfl)),.bad hg⟩
 obtain rfl:v=true:=h2.2 hg
 by_cases hx:nrm (fv f)=[]
 ·obtain ⟨a,q,hl2,hk,hput⟩:=zero_put hl hg
  subst hl2
  have hz:((((fc (pr (nrm (fv f)))).length:Nat):Int)==0)=true:=by rw[hx];rfl
  have hs:ratio_Sign.F (r,())=some (sgn (rv r).num,()):=hr.Sign_F (by omega)
  refine⟨(a::q,cst (rv r) s,0),?_,.const hg hx⟩
  refine atoms_Below.of 0 (a::q) (f,r) s (st h1 (no rfl (st hp (yes hz (st hs ?_)))))
  unfold cst
  by_cases c1:rv r<0
  ·rw [if_pos c1]
   exact yes ((lt_beq _).trans (decide_eq_true c1)) (at0 (st hk (at0 (st hput rfl))))
  rw[if_neg c1]
  refine no ((lt_beq _).trans (decide_eq_false c1)) ?_
  by_cases c2:rv r=0
  ·rw [if_pos c2]
   refine yes ((eq_beq _).trans (decide_eq_true c2)) ?_
   cases s with
   |true=>exact no rfl (at0 (st hk (at0 (st hput rfl))))
   |false=>exact yes rfl (at0 (st hk (at0 (st hput rfl))))
  ·rw [if_neg c2]
   exact no ((eq_beq _).trans (decide_eq_false c2)) (at0 (st hk (at0 (st hput rfl))))
 ·have hz:((((fc (pr (nrm (fv f)))).length:Nat):Int)==0)=false:=Bool.eq_false_iff.2 fun e=>hx (pr_nil_iff.1 (fc_nil_iff.1 (len_nil.1 e)))
  have hcn:=pc_ne (nrm_nf (fv f)).1
  have g1:ratio_Neg.F (rcan (pc (nrm (fv f))),())=some (rcan (-(pc (nrm (fv f)))),()):=hc.rt.Neg_F (by omega)
  have g2:ratio_Div.F (r,rcan (-(pc (nrm (fv f)))),())=some (rcan (rv r/ -(pc (nrm (fv f)))),0,()):=(hr.mono (show m≤m+n by omega)).Div_F (hc.neg.rt.mono (show n≤m+n by omega)) (by omega) (neg_ne hcn)
  have g3:ratio_Sign.F (rcan (pc (nrm (fv f))),())=some (sgn (pc (nrm (fv f))).num,()):=hc.rt.Sign_F (by omega)
  have put:=fun s=>put_F (t:=t) hl hg.ow (ine_at h s) hg.len (ine_ow _ _ s) ((h3 rfl).told hg (ine_ow _ _ s) (ine_ne _ s hx))
  by_cases c:0<pc (nrm (fv f))
  ·obtain ⟨y,p1,p2⟩:=put s
   refine⟨y,?_,.up hg hx c p2⟩
   have e:(s==decide (sgn (pc (nrm (fv f))).num>0))=s:=by rw[gt_beq,decide_eq_true c];cases s<;>rfl
   have p1':atoms_put.F (l,t,(ByteArray.empty,(fc (pr (nrm (fv f))),(rcan (rv r/ -(pc (nrm (fv f)))),(s==decide (sgn (pc (nrm (fv f))).num>0))))),())=some (y.1,y.2.1,y.2.2,()):=by rw[e];exact p1
   refine atoms_Below.of 0 l (f,r) s (st h1 (no rfl (st hp (no hz (st g1 (st g2 (st g3 (st p1' ?_))))))))
   by_cases ce:y.2.2=0
   ·exact no (bne_eq_false_iff_eq.2 ce) (yes ((gt_beq _).trans (decide_eq_true c)) rfl)
   ·exact yes (bne_iff_ne.2 ce) rfl
  ·obtain ⟨y,p1,p2⟩:=put (!s)
   refine⟨(y.1,negI .i64 y.2.1,y.2.2),?_,.dn hg hx c p2⟩
   have e:(s==decide (sgn (pc (nrm (fv f))).num>0))= !s:=by rw[gt_beq,decide_eq_false c];cases s<;>rfl
   have p1':atoms_put.F (l,t,(ByteArray.empty,(fc (pr (nrm (fv f))),(rcan (rv r/ -(pc (nrm (fv f)))),(s==decide (sgn (pc (nrm (fv f))).num>0))))),())=some (y.1,y.2.1,y.2.2,()):=by rw[e];exact p1
   refine atoms_Below.of 0 l (f,r) s (st h1 (no rfl (st hp (no hz (st g1 (st g2 (st g3 (st p1' ?_))))))))
   by_cases ce:y.2.2=0
   ·refine no (bne_eq_false_iff_eq.2 ce) (no ((gt_beq _).trans (decide_eq_false c)) ?_)
    show some (y.1,negI .i64 y.2.1,0,())=some (y.1,negI .i64 y.2.1,y.2.2,())
    rw[ce]
   ·refine yes (bne_iff_ne.2 ce) ?_
    have:negI .i64 y.2.1=y.2.1:=by
     cases p2 with
     |there i h e=>exact absurd rfl ce
     |full h e=>decide
     |new h e=>exact absurd rfl ce
    rw[this]
end Go.Fx.Tryz
