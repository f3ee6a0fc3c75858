/- Straight-line steps of a printed function. -/
import Derived.Test.YtjojmgadmdgdgaaGreatNA
import Derived.Test.YtjojmgadmdgdgaaGreatNB
import Derived.Test.YtjojmgadmdgdgaaGreatND
namespace Go.Fx.Tryz
open Go Go.Fx Go.Fx.Num
set_option linter.unusedVariables false
set_option linter.unusedSimpArgs false
section
variable {α β:Type}
theorem st {x:Option α}{a:α}{f:α→Option β}{r:Option β}(h:x=some a)(g:f a=r):x.bind f=r:=by rw[h];exact g
theorem yes {b:Bool}{x y r:Option β}(h:b=true)(g:x=r):(bif b then x else y)=r:=by rw[h];exact g
theorem no {b:Bool}{x y r:Option β}(h:b=false)(g:y=r):(bif b then x else y)=r:=by rw[h];exact g
end
def rv (r:Dt47):Rat:=Rat.divInt (wv r.1) (val r.2)
noncomputable def rcan (q:Rat):Dt47:=(wc q.num,canon (q.den:Int))
theorem gcd_ab (z d:Int):gcdI (ab z) d=(Int.gcd d z:Int):=by
 unfold gcdI ab
 rw[Int.gcd_comm]
 split<;>simp
theorem q_num {z d:Int}(hd:0<d):(Rat.divInt z d).num=z/gcdI (ab z) d:=by
 rw[Rat.num_divInt,gcd_ab,Int.sign_eq_one_of_pos hd,Int.one_mul]
theorem q_den {z d:Int}(hd:0<d):((Rat.divInt z d).den:Int)=d/gcdI (ab z) d:=by
 rw[Rat.den_divInt,if_neg (by omega),gcd_ab]
 have:(d.natAbs:Int)=d:=by omega
 rw[Int.natCast_ediv,this]
theorem rcan_zero:rcan 0=((false,[]),[1]):=by
 unfold rcan
 rw[show (0:Rat).num=0 from rfl,show((0:Rat).den:Int)=1 from rfl,canon_one (by decide),wc_pos (by decide),canon_zero]
structure Rt (r:Dt47) (q:Rat) (n:Nat):Prop where
 num:Wn r.1 (wv r.1) n
 den:Nm r.2 (val r.2) n
 val:rv r=q
 pos:1≤n
theorem den_pos (q:Rat):0<(q.den:Int):=by have:=q.den_nz;omega
theorem rv_rcan (q:Rat):rv (rcan q)=q:=by
 unfold rv rcan
 rw[wv_wc,val_canon (by omega),Rat.num_divInt_den]
theorem Rt.mono {r q n m}(h:Rt r q n)(hm:n≤m):Rt r q m:=⟨h.num.mono hm,h.den.mono hm,h.val,by have:=h.pos;omega⟩
theorem ediv_bound {z g b:Int}(hg:0<g)(h: -b<z∧z<b): -b<z/g∧z/g<b:=by
 have h1:z/g*g≤z:=Int.ediv_mul_le z (by omega)
 have h2:z<(z/g+1)*g:=Int.lt_ediv_add_one_mul_self z hg
 rcases Int.lt_trichotomy z 0 with h0|h0|h0
 ·have h3:z/g<0:=Int.ediv_neg_of_neg_of_pos h0 hg
  have h4:(z/g+1)*g≤(z/g+1)*1:=Int.mul_le_mul_of_nonpos_left (by omega) (by omega)
  omega
 ·subst h0;simp;omega
 ·have h3:0≤z/g:=Int.ediv_nonneg (by omega) (by omega)
  have h4:z/g*1≤z/g*g:=Int.mul_le_mul_of_nonneg_left (by omega) h3
  omega
theorem pw_ge_one {n:Nat}(h:1≤n):1<pw n:=by
 have:=pw_mono h
 have e:pw 1=4294967296:=by decide
 omega
theorem Rt.bounds {r q n}(h:Rt r q n):(-pw n<q.num∧q.num<pw n)∧(q.den:Int)<pw n:=by
 have hb:=h.num.bound
 have hd:=h.den.lt
 have hv:=h.val
 have h1:=pw_ge_one h.pos
 unfold rv at hv
 rcases Int.lt_or_eq_of_le h.den.pos with h0|h0
 ·have hg:=gcdI_pos (x:=ab (wv r.1)) (y:=Num.val r.2) (by omega)
  have e1:=q_num (z:=wv r.1) h0
  have e2:=q_den (z:=wv r.1) h0
  rw[hv]at e1 e2
  refine⟨by rw[e1];exact ediv_bound hg hb,?_⟩
  rw[e2]
  exact(ediv_bound hg ⟨by omega,hd⟩).2
 ·rw [←h0,Rat.divInt_zero]at hv
  subst hv
  have:=pw_pos n
  refine⟨⟨?_,?_⟩,h1⟩
  ·show -pw n<0;omega
  ·show 0<pw n;omega
theorem Rt.of_q {q:Rat}{n:Nat}(hn:1≤n)(h1: -pw n<q.num∧q.num<pw n)(h2:(q.den:Int)<pw n):Rt (rcan q) q n where
 num:=by
  show Wn (wc q.num) (wv (wc q.num)) n
  rw[wv_wc];exact .of h1
 den:=by
  show Nm (canon (q.den:Int)) (Num.val (canon (q.den:Int))) n
  rw[val_canon (by omega)];exact .canon (by omega) h2
 val:=rv_rcan q
 pos:=hn
theorem blen_nought {x:Int}(h:0≤x):(blen x.toNat:Int)=0↔x=0:=by
 have key:∀n:Nat,blen n=0↔n=0:=by
  intro n
  constructor
  ·intro h
   unfold blen at h
   split at h
   ·assumption
   ·omega
  ·intro h;subst h;unfold blen;rfl
 have:=key x.toNat
 omega
theorem parts {p:Dt45}{z d:Int}{n:Nat}(hp:Wn p z n)(hd:0<d):Wn (p.1,canon (ab z/gcdI (ab z) d)) (z/gcdI (ab z) d) n:=by
 have hg:=gcdI_pos (x:=ab z) (y:=d) (by omega)
 have ha:=ab_nonneg z
 have hz:0≤ab z/gcdI (ab z) d:=Int.ediv_nonneg ha (by omega)
 have hnm:=hp.nm.lt
 have hb:=ediv_bound hg ⟨show -pw n<ab z by have:=pw_pos n;omega,hnm⟩
 refine⟨canon_limbs _,?_,canon_len_le hz hb.2⟩
 have he:=hp.made_eq
 unfold wv
 show(if p.1=true then -(Num.val (canon (ab z/gcdI (ab z) d)))else Num.val (canon (ab z/gcdI (ab z) d)))=z/gcdI (ab z) d
 rw[val_canon hz]
 cases hb1:p.1 with
 |true=>
  rw[hb1]at he
  simp only[if_true]at he⊢
  have hdv:gcdI (ab z) d∣ab z:=gcdI_dvd_left _ _
  rw[←Int.neg_ediv_of_dvd hdv,he]
 |false=>
  rw[hb1]at he
  simp only[Bool.false_eq_true,if_false]at he⊢
  rw[he]
theorem made_F {p:Dt45}{e:Dt43}{z d:Int}{n:Nat}(hp:Wn p z n)(he:Nm e d n)(hd:0<d)(hn:n<70368744177664):ratio_made.F (p,e,())=some (rcan (Rat.divInt z d),()):=by
 have hg:=gcdI_pos (x:=ab z) (y:=d) (by omega)
 have g1:=hp.nm
 have hgn:Nm (canon (gcdI (ab z) d)) (gcdI (ab z) d) n:= .canon (by omega) (gcdI_lt g1.pos he.pos g1.lt he.lt)
 refine ratio_made.of 0 p e (st (g1.Gcd_F he hn) (st ((g1.Div_F hgn hn hn).trans (congrArg some (divI_pos (by omega)))) (st ((he.Div_F hgn hn hn).trans (congrArg some (divI_pos (by omega)))) (st ((parts hp hd).Norm_F (by omega)) ?_))))
 show some ((wc (z/gcdI (ab z) d),canon (d/gcdI (ab z) d)),())=_
 unfold rcan
 rw[q_num hd,q_den hd]
theorem Rt.Norm_F {r q n}(h:Rt r q n)(hn:n<70368744177664):ratio_Norm.F (r,())=some (rcan q,()):=by
 have hb:=Bits_F h.den.limbs (by have:=h.den.len;omega)
 refine ratio_Norm.of 0 r (st hb ?_)
 have hv:=h.val
 unfold rv at hv
 rcases Int.lt_or_eq_of_le h.den.pos with h0|h0
 ·refine no ?_ (st (made_F h.num h.den h0 hn) ?_)
  ·refine beq_eq_false_iff_ne.2 fun e=> ?_
   have:=(blen_nought h.den.pos).1 e
   omega
  ·rw [hv]
 ·refine yes ?_ ?_
  ·rw [←h0];rfl
  ·rw [←h0,Rat.divInt_zero]at hv
   subst hv
   rw[rcan_zero]
theorem canon_len_pos {x:Int}(h:0<x):((canon x).length:Int)≠0:=by
 have:=canon_len_zero (n:=x) (by omega)
 omega
theorem Rt.rNorm_F {r q n}(h:Rt r q n)(hn:n<70368744177664):r03_Norm.F (r,())=some (rcan q,()):=by
 refine r03_Norm.of 0 r (st (h.num.rNorm_F (by omega)) (st (h.den.rNorm_F (by omega)) ?_))
 have hv:=h.val
 unfold rv at hv
 rcases Int.lt_or_eq_of_le h.den.pos with h0|h0
 ·refine no (beq_eq_false_iff_ne.2 (canon_len_pos h0)) ?_
  have hw:(wc (wv r.1)).2=canon (ab (wv r.1)):=rfl
  by_cases hz:wv r.1=0
  ·refine yes ?_ ?_
   ·show (((canon (ab (wv r.1))).length:Int)==0)=true
    rw[hz,show ab 0=0 from rfl,canon_zero];rfl
   ·rw [hz,Rat.zero_divInt]at hv
    subst hv
    rw[rcan_zero]
  ·have hab:0<ab (wv r.1):=by have:=tri (wv r.1);omega
   refine no (beq_eq_false_iff_ne.2 (canon_len_pos hab)) ?_
   have g1:Nm (canon (ab (wv r.1))) (ab (wv r.1)) n:=h.num.norm.nm
   have g2:=h.den.norm
   have hg:=gcdI_pos (x:=ab (wv r.1)) (y:=Num.val r.2) (by omega)
   have hgn:Nm (canon (gcdI (ab (wv r.1)) (Num.val r.2))) (gcdI (ab (wv r.1)) (Num.val r.2)) n:= .canon (by omega) (gcdI_lt g1.pos g2.pos g1.lt g2.lt)
   refine st (g1.rGcd_F g2 hn) (st ((g1.rDiv_F hgn hn hn).trans (congrArg some (divI_pos (by omega)))) (st ((g2.rDiv_F hgn hn hn).trans (congrArg some (divI_pos (by omega)))) ?_))
   show some (((decide (wv r.1<0),canon (ab (wv r.1)/gcdI (ab (wv r.1)) (Num.val r.2))),canon (Num.val r.2/gcdI (ab (wv r.1)) (Num.val r.2))),())=_
   rw[←hv]
   unfold rcan
   rw[q_num h0,q_den h0]
   have hp:=parts h.num.norm h0
   have e1:((wc (wv r.1)).1,canon (ab (wv r.1)/gcdI (ab (wv r.1)) (Num.val r.2)))=wc (wv r.1/gcdI (ab (wv r.1)) (Num.val r.2)):=by
    have hdv:gcdI (ab (wv r.1)) (Num.val r.2)∣ab (wv r.1):=gcdI_dvd_left _ _
    have hpos:0<ab (wv r.1)/gcdI (ab (wv r.1)) (Num.val r.2):=Int.ediv_pos_of_pos_of_dvd hab (by omega) hdv
    have key:(wv r.1<0↔wv r.1/gcdI (ab (wv r.1)) (Num.val r.2)<0)∧ab (wv r.1)/gcdI (ab (wv r.1)) (Num.val r.2)=ab (wv r.1/gcdI (ab (wv r.1)) (Num.val r.2)):=by
     have t:=tri (wv r.1/gcdI (ab (wv r.1)) (Num.val r.2))
     by_cases hs:wv r.1<0
     ·have e2:ab (wv r.1)= -wv r.1:=by have:=tri (wv r.1);omega
      have hdv':gcdI (ab (wv r.1)) (Num.val r.2)∣wv r.1:=by
       have:=Int.dvd_neg.2 hdv
       have e: -ab (wv r.1)=wv r.1:=by omega
       rwa[e]at this
      have e3:ab (wv r.1)/gcdI (ab (wv r.1)) (Num.val r.2)= -(wv r.1/gcdI (ab (wv r.1)) (Num.val r.2)):=by
       rw[←Int.neg_ediv_of_dvd hdv',←e2]
      omega
     ·have e2:ab (wv r.1)=wv r.1:=by have:=tri (wv r.1);omega
      have e3:ab (wv r.1)/gcdI (ab (wv r.1)) (Num.val r.2)=wv r.1/gcdI (ab (wv r.1)) (Num.val r.2):=congrArg (· /_) e2
      omega
    show(decide (wv r.1<0),_)=(decide (wv r.1/gcdI (ab (wv r.1)) (Num.val r.2)<0),canon (ab (wv r.1/gcdI (ab (wv r.1)) (Num.val r.2))))
    rw[decide_eq_decide.2 key.1,key.2]
   exact congrArg (fun a=>some ((a,_),())) e1
 ·refine yes ?_ ?_
  ·show (((canon (Num.val r.2)).length:Int)==0)=true
   rw[←h0,canon_zero];rfl
  ·rw [←h0,Rat.divInt_zero]at hv
   subst hv
   rw[rcan_zero]
theorem bytes_toList (s:ByteArray):s.toList=s.data.toList:=by simp[ByteArray.toList_eq]
def lets (s:ByteArray):List Int:=s.data.toList.map fun c=>(c.toNat:Int)
theorem ba_ext {s t:ByteArray}(h:lets s=lets t):s=t:=by
 have h1:s.data.toList=t.data.toList:=by
  unfold lets at h
  have inj:∀(x y:List UInt8),x.map (fun c=>(c.toNat:Int))=y.map (fun c=>(c.toNat:Int))→x=y:=by
   intro x
   induction x with
   |nil=>intro y h;cases y with
    |nil=>rfl
    |cons=>simp at h
   |cons a x ih=>intro y h;cases y with
    |nil=>simp at h
    |cons b y=>
     simp only[List.map_cons,List.cons.injEq]at h
     have e:a=b:=UInt8.toNat_inj.1 (by omega)
     rw[e,ih y h.2]
  exact inj _ _ h
 cases s;cases t
 simp only at h1
 congr 1
 exact Array.toList_inj.1 h1
theorem str_eq (s t:ByteArray):(s.toList==t.toList)=decide (s=t):=by
 by_cases h:s=t
 ·rw [h];simp
 ·rw [decide_eq_false h]
  refine beq_eq_false_iff_ne.2 fun e=>h (ba_ext ?_)
  rw[bytes_toList,bytes_toList]at e
  unfold lets;rw[e]
theorem lets_append (s t:ByteArray):lets (s++t)=lets s++lets t:=by
 unfold lets;rw[ByteArray.data_append,Array.toList_append,List.map_append]
theorem strOf_data (l:List Int):(strOfNums l).data.toList=l.map fun x=>(UInt8.ofNat x.toNat):=by
 simp[strOfNums]
theorem lets_strOf {l:List Int}(h:∀c∈l,0≤c∧c<256):lets (strOfNums l)=l:=by
 unfold lets
 rw[strOf_data,List.map_map]
 conv=>rhs;rw[←List.map_id l]
 refine List.map_congr_left fun c hc=> ?_
 have:=h c hc
 simp only[Function.comp,id]
 rw[UInt8.toNat_ofNat',Nat.mod_eq_of_lt (by omega)];omega
theorem lets_len (s:ByteArray):(lets s).length=s.size:=by
 unfold lets
 rw[List.length_map,Array.length_toList];rfl
theorem size_append (s t:ByteArray):(s++t).size=s.size+t.size:=by rw[←lets_len,lets_append,List.length_append,lets_len,lets_len]
def isDig (c:Int):Prop:=48≤c∧c≤57
theorem dtab_fin:∀i:Fin 10,btI dtab ((i.val:Nat):Int)=(i.val:Int)+48:=by decide
theorem dtab_at {d:Nat}(h:d<10):btI dtab (d:Int)=(d:Int)+48:=dtab_fin ⟨d,h⟩
theorem digs_dig (n:Nat):∀c∈digs 10 n,isDig c:=by
 induction n using Nat.strongRecOn with
 |ind n ih=>
  by_cases h0:n=0
  ·subst h0;rw[digs_zero];simp
  ·rw [digs_pos (by decide) h0]
   have hlt:n%10<10:=Nat.mod_lt _ (by decide)
   intro c hc
   rcases List.mem_cons.1 hc with rfl|hc
   ·rw [dtab_at hlt];unfold isDig;omega
   ·exact ih (n/10) (Nat.div_lt_self (by omega) (by decide)) c hc
theorem digs_val (n:Nat):(digs 10 n).foldr (fun c v=>v*10+(c-48)) 0=(n:Int):=by
 induction n using Nat.strongRecOn with
 |ind n ih=>
  by_cases h0:n=0
  ·subst h0;rw[digs_zero];rfl
  ·rw [digs_pos (by decide) h0,List.foldr_cons,ih (n/10) (Nat.div_lt_self (by omega) (by decide)),dtab_at (Nat.mod_lt _ (by decide))]
   omega
theorem digs_inj {m n:Nat}(h:digs 10 m=digs 10 n):m=n:=by
 have h1:=digs_val m
 rw[h,digs_val n]at h1
 omega
theorem lets_txt (n:Nat):lets (txt 10 n)=if n=0 then[48]else(digs 10 n).reverse:=by
 unfold txt
 split
 ·rfl
 ·exact lets_strOf fun c hc=>by have:=digs_dig n c (by simpa using hc);unfold isDig at this;omega
theorem txt_dig (n:Nat):∀c∈lets (txt 10 n),isDig c:=by
 rw[lets_txt]
 split
 ·intro c hc;simp at hc;subst hc;unfold isDig;omega
 ·intro c hc;exact digs_dig n c (by simpa using hc)
theorem digs_last (n:Nat):∀c,(digs 10 n).getLast? =some c→c≠48:=by
 induction n using Nat.strongRecOn with
 |ind n ih=>
  intro c hc
  by_cases h0:n=0
  ·subst h0;rw[digs_zero]at hc;simp at hc
  ·rw [digs_pos (by decide) h0]at hc
   by_cases h1:n/10=0
   ·rw [h1,digs_zero]at hc
    simp only[List.getLast?_singleton,Option.some.injEq]at hc
    rw[dtab_at (Nat.mod_lt _ (by decide))]at hc
    omega
   ·refine ih (n/10) (Nat.div_lt_self (by omega) (by decide)) c ?_
    rw[digs_pos (by decide) h1]at hc⊢
    rw[List.getLast?_cons_cons]at hc
    exact hc
theorem txt_inj {m n:Nat}(h:lets (txt 10 m)=lets (txt 10 n)):m=n:=by
 rw[lets_txt,lets_txt]at h
 have key:∀{k:Nat},k≠0→[48]≠(digs 10 k).reverse:=by
  intro k hk e
  have e2:digs 10 k=[48]:=by have:=congrArg List.reverse e;simpa using this.symm
  exact digs_last k 48 (by rw[e2];rfl) rfl
 split at h<;>split at h
 ·omega
 ·exact absurd h (key (by assumption))
 ·exact absurd h.symm (key (by assumption))
 ·exact digs_inj (List.reverse_inj.1 h)
theorem txt_size {n k:Nat}(h:n<2^k):(txt 10 n).size≤k+1:=by
 rw[←lets_len,lets_txt]
 split
 ·simp
 ·rw [List.length_reverse]
  exact Nat.le_trans (digs_len (by decide) k n h) (Nat.le_succ k)
def wtxt (z:Int):ByteArray:=if z<0 then(⟨#[45]⟩:ByteArray)++txt 10 (-z).toNat else txt 10 z.toNat
theorem lets_wtxt (z:Int):lets (wtxt z)=if z<0 then 45::lets (txt 10 (-z).toNat)else lets (txt 10 z.toNat):=by
 unfold wtxt
 split
 ·rw [lets_append];rfl
 ·rfl
theorem wtxt_chr (z:Int):∀c∈lets (wtxt z),c=45∨isDig c:=by
 rw[lets_wtxt]
 split
 ·intro c hc
  rcases List.mem_cons.1 hc with rfl|hc
  ·exact .inl rfl
  ·exact .inr (txt_dig _ c hc)
 ·exact fun c hc=> .inr (txt_dig _ c hc)
theorem wtxt_inj {y z:Int}(h:lets (wtxt y)=lets (wtxt z)):y=z:=by
 rw[lets_wtxt,lets_wtxt]at h
 have key:∀{m n:Nat},(45:Int)::lets (txt 10 m)≠lets (txt 10 n):=by
  intro m n e
  have:=txt_dig n 45 (by rw[←e];simp)
  unfold isDig at this;omega
 split at h<;>split at h
 ·have:=txt_inj (List.cons.inj h).2;omega
 ·exact absurd h key
 ·exact absurd h.symm key
 ·have:=txt_inj h;omega
theorem ab_toNat (z:Int):(ab z).toNat=if z<0 then(-z).toNat else z.toNat:=by unfold ab;split<;>rfl
theorem pw_bin (m:Nat):pw m=((2^(32*m):Nat):Int):=by
 induction m with
 |zero=>rfl
 |succ m ih=>
  rw[pw_succ,ih,Nat.mul_succ,Nat.pow_add,Int.natCast_mul,show((2^32:Nat):Int)=4294967296 by decide];omega
theorem wtxt_size {z:Int}{n:Nat}(h:ab z<pw n):(wtxt z).size≤32*n+2:=by
 have hn:=ab_nonneg z
 rw[pw_bin]at h
 have h1:(ab z).toNat<2^(32*n):=by omega
 rw[ab_toNat]at h1
 unfold wtxt
 split
 ·rename_i hz
  rw[if_pos hz]at h1
  have:=txt_size h1
  rw[size_append]
  show 1+_≤_
  omega
 ·rename_i hz
  rw[if_neg hz]at h1
  have:=txt_size h1
  omega
theorem Text_W {p:Bool×List Int}{z:Int}{n:Nat}(h:Wn p z n)(hn:n≤1099511627776):whole_Text.F (p,())=some (wtxt z,()):=by
 have e1:=Text_F (b:=10) h.nm.limbs (by have:=h.len;omega)
 rw[if_pos (by decide),h.nm.val]at e1
 refine whole_Text.of 0 p (st e1 (st (h.Sign_F (by omega)) ?_))
 have hs:=wtxt_size h.nm.lt
 rw[ab_toNat]
 unfold wtxt at hs⊢
 rcases tri z with⟨h1,h2,_⟩|⟨h1,h2,_⟩|⟨h1,h2,_⟩
 ·rw [if_pos h1,if_pos h1]
  rw[if_pos h1,size_append]at hs
  exact yes (decide_eq_true (by simp only;omega)) (yes (decide_eq_true (Nat.le_trans hs (by omega))) rfl)
 ·rw [if_neg (by omega),if_neg (by omega)]
  exact no (decide_eq_false (by simp only;omega)) rfl
 ·rw [if_neg (by omega),if_neg (by omega)]
  exact no (decide_eq_false (by simp only;omega)) rfl
theorem cut_at {c:Int}:∀{a a' b b':List Int},c∉a→c∉a'→a++c::b=a'++c::b'→a=a'∧b=b'
 |[],[],b,b',_,_,h=>by simp at h;exact⟨rfl,h⟩
 |[],x::a',b,b',_,h',h=>by simp at h h';omega
 |x::a,[],b,b',h',_,h=>by simp at h h';omega
 |x::a,y::a',b,b',h1,h2,h=>by
  simp only[List.cons_append,List.cons.injEq]at h
  obtain⟨h3,h4⟩:=cut_at (fun e=>h1 (by simp[e])) (fun e=>h2 (by simp[e])) h.2
  exact⟨by rw[h.1,h3],h4⟩
theorem no_cut {c:Int}{a a' b:List Int}(h:c∉a):a≠a'++c::b:=fun e=>h (by rw[e];simp)
structure Ft (q:Rat) (n:Nat):Prop where
 pos:1≤n
 lo: -pw n<q.num
 hi:q.num<pw n
 den:(q.den:Int)<pw n
theorem Rt.ft {r q n}(h:Rt r q n):Ft q n:=⟨h.pos,h.bounds.1.1,h.bounds.1.2,h.bounds.2⟩
theorem Ft.rt {q n}(h:Ft q n):Rt (rcan q) q n:= .of_q h.pos ⟨h.lo,h.hi⟩ h.den
theorem Ft.mono {q n m}(h:Ft q n)(hm:n≤m):Ft q m:=by
 have:=pw_mono hm
 exact⟨by have:=h.pos;omega,by have:=h.lo;omega,by have:=h.hi;omega,by have:=h.den;omega⟩
theorem rnum {q:Rat}{n:Nat}(h:Ft q n):Wn (wc q.num) q.num n:= .of ⟨h.lo,h.hi⟩
theorem rden {q:Rat}{n:Nat}(h:Ft q n):Nm (canon (q.den:Int)) (q.den:Int) n:= .canon (by omega) h.den
theorem Ft.of_div {z d:Int}{n:Nat}(hn:1≤n)(hd:0<d)(h1: -pw n<z∧z<pw n)(h2:d<pw n):Ft (Rat.divInt z d) n:=by
 have hg:=gcdI_pos (x:=ab z) (y:=d) (by omega)
 have b1:=ediv_bound hg h1
 have b2:=ediv_bound hg (z:=d) (b:=pw n) ⟨by omega,h2⟩
 refine⟨hn,?_,?_,?_⟩
 ·rw [q_num hd];exact b1.1
 ·rw [q_num hd];exact b1.2
 ·rw [q_den hd];exact b2.2
theorem mul_divInt (p q:Rat):Rat.divInt (p.num*q.num) ((p.den:Int)*q.den)=p*q:=by
 rw[Rat.mul_def',←Rat.divInt_ofNat,Int.natCast_mul]
theorem add_divInt (p q:Rat):Rat.divInt (p.num*q.den+q.num*p.den) ((p.den:Int)*q.den)=p+q:=by
 rw[Rat.add_def',←Rat.divInt_ofNat,Int.natCast_mul]
theorem dd_pos (p q:Rat):0<(p.den:Int)*q.den:=Int.mul_pos (den_pos p) (den_pos q)
theorem Ft.mul {p q n m}(h:Ft p n)(g:Ft q m):Ft (p*q) (n+m):=by
 rw[←mul_divInt]
 have h1:=((rnum h).mul (rnum g)).bound
 have h2:=((rden h).mul (rden g)).lt
 exact .of_div (by have:=h.pos;omega) (dd_pos p q) h1 h2
theorem Ft.add {p q n m}(h:Ft p n)(g:Ft q m):Ft (p+q) (n+m+1):=by
 rw[←add_divInt]
 have h0:=(rnum h).mul (rden g).wn
 have g0:Wn (wc (q.num*p.den)) (q.num*p.den) (n+m):=by rw[Nat.add_comm];exact(rnum g).mul (rden h).wn
 have h1:=(h0.add g0).bound
 have h2:=((rden h).mul (rden g)).lt
 have:=pw_mono (show n+m≤n+m+1 by omega)
 exact .of_div (by omega) (dd_pos p q) h1 (by omega)
theorem Ft.neg {q n}(h:Ft q n):Ft (-q) n:=⟨h.pos,by rw[Rat.neg_num];have:=h.hi;omega,by rw[Rat.neg_num];have:=h.lo;omega,by rw[Rat.neg_den];exact h.den⟩
theorem Ft.sub {p q n m}(h:Ft p n)(g:Ft q m):Ft (p-q) (n+m+1):=by rw[Rat.sub_eq_add_neg];exact h.add g.neg
theorem Ft.zero:Ft 0 1:=⟨by omega,by decide,by decide,by decide⟩
theorem Ft.int {z:Int}(h: -18446744073709551616<z∧z<18446744073709551616):Ft (z:Rat) 2:=by
 have e:pw 2=18446744073709551616:=by decide
 exact⟨by omega,by rw[e];exact h.1,by rw[e];exact h.2,by rw[e];show(1:Int)<_;decide⟩
def rcmp (p q:Rat):Int:=sgn (p.num*q.den-q.num*p.den)
theorem rcmp_lt {p q:Rat}:rcmp p q<0↔p<q:=by
 rw[Rat.lt_iff]
 unfold rcmp sgn
 split<;>(try split)<;>omega
theorem rcmp_eq {p q:Rat}:rcmp p q=0↔p=q:=by
 constructor
 ·intro h
  have h1:=(Rat.le_iff p q).2 (by unfold rcmp sgn at h;split at h<;>(try split at h)<;>omega)
  have h2:=(Rat.le_iff q p).2 (by unfold rcmp sgn at h;split at h<;>(try split at h)<;>omega)
  exact Rat.le_antisymm h1 h2
 ·rintro rfl
  unfold rcmp
  rw[Int.sub_self];rfl
theorem sgn_ediv {z g:Int}(hg:0<g)(hd:g∣z):sgn (z/g)=sgn z:=by
 have he:z/g*g=z:=Int.ediv_mul_cancel hd
 rcases Int.lt_trichotomy z 0 with h|h|h
 ·have:z/g<0:=Int.ediv_neg_of_neg_of_pos h hg
  unfold sgn
  rw[if_pos h,if_pos this]
 ·subst h;simp
 ·have:0<z/g:=Int.ediv_pos_of_pos_of_dvd h (by omega) hd
  unfold sgn
  rw[if_neg (by omega),if_neg (by omega),if_neg (by omega),if_neg (by omega)]
theorem dvd_of_ab {z g:Int}(h:g∣ab z):g∣z:=by
 unfold ab at h
 split at h
 ·have:=Int.dvd_neg.2 h;rwa[Int.neg_neg]at this
 ·exact h
theorem sgn_sub (p q:Rat):sgn (p-q).num=rcmp p q:=by
 have e:p-q=Rat.divInt (p.num*q.den-q.num*p.den) ((p.den:Int)*q.den):=by
  rw[Rat.sub_def',←Rat.divInt_ofNat,Int.natCast_mul]
 rw[e,q_num (dd_pos p q)]
 exact sgn_ediv (gcdI_pos (by have:=dd_pos p q;omega)) (dvd_of_ab (gcdI_dvd_left _ _))
theorem sgn_zero {z:Int}:sgn z=0↔z=0:=by unfold sgn;split<;>(try split)<;>omega
theorem num_zero {q:Rat}:q.num=0↔q=0:=Rat.num_eq_zero
section
variable {r s:Dt47} {p q:Rat} {n:Nat}
theorem Rt.Sign_F (h:Rt r q n)(hn:n<70368744177664):ratio_Sign.F (r,())=some (sgn q.num,()):=
 ratio_Sign.of 0 r (st (h.Norm_F hn) (st ((rnum h.ft).Sign_F (by omega)) rfl))
theorem Rt.Cmp_F (h:Rt r p n)(g:Rt s q n)(hn:n+n<70368744177664):ratio_Cmp.F (r,s,())=some (rcmp p q,()):=by
 refine ratio_Cmp.of 0 r s (st (h.Norm_F (by omega)) (st (g.Norm_F (by omega)) ?_))
 exact st ((rnum h.ft).Mul_F (rden g.ft).wn (by omega)) (st ((rnum g.ft).Mul_F (rden h.ft).wn (by omega)) (st (((rnum h.ft).mul (rden g.ft).wn).Cmp_F ((rnum g.ft).mul (rden h.ft).wn) (by omega)) rfl))
theorem rcan_neg (q:Rat):rcan (-q)=(wc (-q.num),canon (q.den:Int)):=by unfold rcan;rw[Rat.neg_num,Rat.neg_den]
theorem Rt.Neg_F (h:Rt r q n)(hn:n<70368744177664):ratio_Neg.F (r,())=some (rcan (-q),()):=by
 rw[rcan_neg]
 exact ratio_Neg.of 0 r (st (h.Norm_F hn) (st ((rnum h.ft).Neg_F (by omega)) rfl))
theorem rcan_int (z:Int):rcan (z:Rat)=(wc z,[1]):=by
 unfold rcan
 rw[show ((z:Rat).num)=z from rfl,show(((z:Rat).den:Nat):Int)=1 from rfl,canon_one (by decide)]
theorem Whole_F {z:Int}(hz: -9223372036854775808≤z∧z≤9223372036854775807):ratio_Whole.F (z,())=some (rcan (z:Rat),()):=by
 rw[rcan_int]
 exact ratio_Whole.of 0 z (st (WOf_F hz) rfl)
theorem divInt_neg_neg (z d:Int):Rat.divInt (-z) (-d)=Rat.divInt z d:=Rat.neg_divInt_neg z d
theorem Of_R {a b:Dt45}{y z:Int}(h:Wn a y n)(g:Wn b z n)(hn:n<70368744177664)(hz:z≠0):ratio_Of.F (a,b,())=some (rcan (Rat.divInt y z),0,()):=by
 have hs:=g.Sign_F (Nat.le_of_lt hn)
 refine ratio_Of.of 0 a b (st hs (no (beq_eq_false_iff_ne.2 fun e=>hz (sgn_zero.1 e)) (st hs ?_)))
 rcases Int.lt_or_lt_of_ne hz with h1|h1
 ·refine yes (decide_eq_true (by unfold sgn;rw[if_pos h1];decide)) (st (h.Neg_F (by omega)) (st (made_F h.neg g.nm ?_ hn) ?_))
  ·have:=tri z;omega
  ·rw [show ab z= -z by have:=tri z;omega,divInt_neg_neg]
 ·refine no (decide_eq_false (by unfold sgn;rw[if_neg (by omega),if_neg (by omega)];decide)) (st (made_F h g.nm ?_ hn) ?_)
  ·have:=tri z;omega
  ·rw [show ab z=z by have:=tri z;omega]
theorem Rt.Inv_F (h:Rt r q n)(hn:n<70368744177664)(hq:q≠0):ratio_Inv.F (r,())=some (rcan q⁻¹,0,()):=by
 refine ratio_Inv.of 0 r (st (h.Norm_F hn) (st (Of_R (rden h.ft).wn (rnum h.ft) hn fun e=>hq (num_zero.1 e)) ?_))
 rw[Rat.inv_def]
theorem Rt.Mul_F (h:Rt r p n)(g:Rt s q n)(hn:n+n<70368744177664):ratio_Mul.F (r,s,())=some (rcan (p*q),()):=by
 have h1:=(rnum h.ft).mul (rnum g.ft)
 have h2:=(rden h.ft).mul (rden g.ft)
 refine ratio_Mul.of 0 r s (st (h.Norm_F (by omega)) (st (g.Norm_F (by omega)) (st ((rnum h.ft).Mul_F (rnum g.ft) (by omega)) (st ((rden h.ft).Mul_F (rden g.ft) (by omega)) (st (made_F h1 h2 (dd_pos p q) hn) ?_)))))
 rw[mul_divInt]
theorem Rt.Add_F (h:Rt r p n)(g:Rt s q n)(hn:n+n+1<70368744177664):ratio_Add.F (r,s,())=some (rcan (p+q),()):=by
 have h0:=(rnum h.ft).mul (rden g.ft).wn
 have g0:=(rnum g.ft).mul (rden h.ft).wn
 have h2:=(rden h.ft).mul (rden g.ft)
 refine ratio_Add.of 0 r s (st (h.Norm_F (by omega)) (st (g.Norm_F (by omega)) (st ((rnum h.ft).Mul_F (rden g.ft).wn (by omega)) (st ((rnum g.ft).Mul_F (rden h.ft).wn (by omega)) (st (h0.Add_F g0 (by omega)) (st ((rden h.ft).Mul_F (rden g.ft) (by omega)) (st (made_F (h0.add g0) (h2.mono (by omega)) (dd_pos p q) hn) ?_)))))))
 rw[add_divInt]
theorem inv_ft (h:Ft q n)(hq:q≠0):Ft q⁻¹ n:=by
 rw[Rat.inv_def]
 have h1:=h.lo;have h2:=h.hi;have h3:=h.den;have h4:=den_pos q
 have hz:q.num≠0:=fun e=>hq (num_zero.1 e)
 rcases Int.lt_or_lt_of_ne hz with h5|h5
 ·rw [←divInt_neg_neg]
  exact .of_div h.pos (by omega) (by omega) (by omega)
 ·exact .of_div h.pos h5 (by omega) h2
theorem div_eq (p q:Rat):p*q⁻¹=p/q:=(Rat.div_def p q).symm
theorem Rt.Div_F (h:Rt r p n)(g:Rt s q n)(hn:n+n<70368744177664)(hq:q≠0):ratio_Div.F (r,s,())=some (rcan (p/q),0,()):=by
 refine ratio_Div.of 0 r s (st (g.Inv_F (by omega) hq) (no rfl (st (h.Mul_F (inv_ft g.ft hq).rt hn) ?_)))
 rw[div_eq]
theorem Rt.rSign_F (h:Rt r q n)(hn:n<70368744177664):r03_Sign.F (r,())=some (sgn q.num,()):=
 r03_Sign.of 0 r (st (h.rNorm_F hn) (st ((rnum h.ft).rSign_F (by omega)) rfl))
theorem positive_F (a:Dt43):r03_positive.F (a,())=some ((false,a),()):=r03_positive.of 0 a rfl
theorem Rt.of_parts {a:Dt45}{b:Dt43}{z d:Int}{n:Nat}(hn:1≤n)(h:Wn a z n)(g:Nm b d n):Rt (a,b) (Rat.divInt z d) n:=
 ⟨⟨h.limbs,rfl,h.len⟩,⟨g.limbs,rfl,g.len⟩,by unfold rv;rw[h.val,g.val],hn⟩
theorem Rt.rNeg_F (h:Rt r q n)(hn:n<70368744177664):r03_Neg.F (r,())=some (rcan (-q),()):=by
 have hm:=Rt.of_parts h.pos (rnum h.ft).neg (rden h.ft)
 rw[←Rat.neg_divInt,Rat.num_divInt_den]at hm
 exact r03_Neg.of 0 r (st (h.rNorm_F hn) (st ((rnum h.ft).rNeg_F (by omega)) (st (hm.rNorm_F hn) rfl)))
theorem rWhole_F {z:Int}(hz: -9223372036854775808≤z∧z≤9223372036854775807):r03_Whole.F (z,())=some (rcan (z:Rat),()):=by
 have h:Rt (rcan (z:Rat)) (z:Rat) 2:=(Ft.int (by omega)).rt
 have e:=h.rNorm_F (by decide)
 rw[rcan_int]at e⊢
 exact r03_Whole.of 0 z (st (rWOf_F hz) (st e rfl))
theorem Rt.rAdd_F (h:Rt r p n)(g:Rt s q n)(hn:n+n+1<70368744177664):r03_Add.F (r,s,())=some (rcan (p+q),()):=by
 have h0:=(rnum h.ft).mul (rden g.ft).wn
 have g0:=(rnum g.ft).mul (rden h.ft).wn
 have h2:=(rden h.ft).mul (rden g.ft)
 have hs:=Rt.of_parts (by omega) (h0.add g0) (h2.mono (Nat.le_succ _))
 rw[add_divInt]at hs
 exact r03_Add.of 0 r s (st (h.rNorm_F (by omega)) (st (g.rNorm_F (by omega)) (st (positive_F _) (st ((rnum h.ft).rMul_F (rden g.ft).wn (by omega)) (st (positive_F _) (st ((rnum g.ft).rMul_F (rden h.ft).wn (by omega)) (st (h0.rAdd_F g0 (by omega)) (st ((rden h.ft).rMul_F (rden g.ft) (by omega)) (st (hs.rNorm_F hn) rfl)))))))))
theorem Rt.rSub_F (h:Rt r p n)(g:Rt s q n)(hn:n+n+1<70368744177664):r03_Sub.F (r,s,())=some (rcan (p-q),()):=by
 refine r03_Sub.of 0 r s (st (g.rNeg_F (by omega)) (st (h.rAdd_F g.ft.neg.rt hn) ?_))
 rw[Rat.sub_eq_add_neg]
theorem Rt.rCmp_F (h:Rt r p n)(g:Rt s q n)(hn:n+n+1<70368744177664):r03_Cmp.F (r,s,())=some (rcmp p q,()):=by
 rw[←sgn_sub]
 exact r03_Cmp.of 0 r s (st (h.rSub_F g hn) (st ((h.ft.sub g.ft).rt.rSign_F hn) rfl))
theorem Rt.rMul_F (h:Rt r p n)(g:Rt s q n)(hn:n+n<70368744177664):r03_Mul.F (r,s,())=some (rcan (p*q),()):=by
 have h1:=(rnum h.ft).mul (rnum g.ft)
 have h2:=(rden h.ft).mul (rden g.ft)
 have hs:=Rt.of_parts (by have:=h.pos;omega) h1 h2
 rw[mul_divInt]at hs
 exact r03_Mul.of 0 r s (st (h.rNorm_F (by omega)) (st (g.rNorm_F (by omega)) (st ((rnum h.ft).rMul_F (rnum g.ft) (by omega)) (st ((rden h.ft).rMul_F (rden g.ft) (by omega)) (st (hs.rNorm_F hn) rfl)))))
theorem rOf_R {a b:Dt45}{y z:Int}(hp:1≤n)(h:Wn a y n)(g:Wn b z n)(hn:n<70368744177664)(hz:z≠0):r03_Of.F (a,b,())=some (rcan (Rat.divInt y z),0,()):=by
 have ha:=ab_nonneg z
 have hl:((canon (ab z)).length:Int)≠0:=canon_len_pos (by have:=tri z;omega)
 have e1:(wc z).2=canon (ab z):=rfl
 have e2:(wc y).2=canon (ab y):=rfl
 refine r03_Of.of 0 a b (st (h.rNorm_F (by omega)) (st (g.rNorm_F (by omega)) (no (beq_eq_false_iff_ne.2 hl) (st (?_:r03_Norm.F (((!((wc y).1==(wc z).1),(wc y).2),(wc z).2),())=some (rcan (Rat.divInt y z),())) rfl))))
 have hy:=h.norm.nm
 have hg:=g.norm.nm
 have hw:Wn (!((wc y).1==(wc z).1),canon (ab y)) (if (!((wc y).1==(wc z).1))=true then -(ab y)else ab y) n:=⟨hy.limbs,by unfold wv;rw[show Num.val (canon (ab y))=ab y from hy.val],hy.len⟩
 have hr:=Rt.of_parts hp hw hg
 have e3:Rat.divInt (if (!((wc y).1==(wc z).1))=true then -(ab y)else ab y) (ab z)=Rat.divInt y z:=by
  unfold wc
  simp only
  have ty:=tri y
  have tz:=tri z
  rcases ty with⟨h1,_,h2⟩|⟨h1,_,h2⟩|⟨h1,_,h2⟩<;>rcases tz with⟨k1,_,k2⟩|⟨k1,_,k2⟩|⟨k1,_,k2⟩
  ·rw [decide_eq_true h1,decide_eq_true k1,h2,k2];exact divInt_neg_neg y z
  ·omega
  ·rw [decide_eq_true h1,decide_eq_false (by omega),h2,k2];simp
  ·subst h1;rw[h2];simp
  ·omega
  ·subst h1;rw[h2];simp
  ·rw [decide_eq_false (by omega),decide_eq_true k1,h2,k2]
   have:=divInt_neg_neg y z
   simpa using this
  ·omega
  ·rw [decide_eq_false (by omega),decide_eq_false (by omega),h2,k2];simp
 rw[e3]at hr
 exact hr.rNorm_F hn
theorem Rt.rInv_F (h:Rt r q n)(hn:n<70368744177664)(hq:q≠0):r03_Inv.F (r,())=some (rcan q⁻¹,0,()):=by
 refine r03_Inv.of 0 r (st (h.rNorm_F hn) (st (positive_F _) (st (rOf_R h.pos (rden h.ft).wn (rnum h.ft) hn fun e=>hq (num_zero.1 e)) ?_)))
 rw[Rat.inv_def]
end
theorem downR {R:Type}{L:Nat→Nat→Option R}{P:Nat→R→Prop}{n:Nat}(last:∃r,P n r∧∀k,L (k+1) n=some r)
    (step:∀i,i<n→(∃r,P i r∧∀k,L (k+1) i=some r)∨((∀r,P (i+1) r→P i r)∧∀k,L (k+1) i=L k (i+1))):∀i,i≤n→∃j r,P i r∧∀k,L (k+j) i=some r:=by
  have key:∀d i,i+d=n→∃j r,P i r∧∀k,L (k+j) i=some r:=by
    intro d
    induction d with
    | zero => intro i h; obtain rfl : i = n := by omega
              obtain⟨r,h1,h2⟩:=last
              exact⟨1,r,h1,h2⟩
    |succ d ih=>
      intro i h
      rcases step i (by omega)with⟨r,h1,h2⟩|⟨h1,h2⟩
      · exact⟨1,r,h1,h2⟩
      · obtain ⟨j, r, h3, hj⟩ := ih (i + 1) (by omega)
        exact⟨j+1,r,h1 r h3,fun k=>by rw[←Nat.add_assoc,h2,hj]⟩
  exact fun i hi=>key (n-i) i (by omega)
theorem allR {R:Type}{L:Nat→Nat→Option R}{r:R}{n:Nat}(last:∀k,L (k+1) n=some r)(step:∀i,i<n→∀k,L (k+1) i=L k (i+1)):∃j,∀k,L (k+j) 0=some r:=by
  obtain⟨j,r',rfl,h⟩:=downR (P:=fun _ r'=>r'=r) ⟨r,rfl,last⟩ (fun i hi=> .inr ⟨fun _ h=>h,step i hi⟩) 0 (Nat.zero_le _)
  exact⟨j,h⟩
section
variable {β:Type} {i n:Nat} {x y r:β}
theorem inb (h:i<n)(g:x=r):(bif decide ((0:Int)≤(i:Int))&&decide ((i:Int)<(n:Int))then x else y)=r:=by
  rw[decide_eq_true (by omega),decide_eq_true (by omega)];exact g
theorem ltb (h:i<n)(g:x=r):(bif decide ((i:Int)<(n:Int))then x else y)=r:=by rw[decide_eq_true (by omega)];exact g
theorem geb (h:¬i<n)(g:y=r):(bif decide ((i:Int)<(n:Int))then x else y)=r:=by rw[decide_eq_false (by omega)];exact g
end
theorem getD_at {α:Type}(l:List α)(z:α){i:Nat}(h:i<l.length):List.getD l (Int.toNat (i:Int)) z=l[i]:=by
  rw[Int.toNat_natCast,List.getD_eq_getElem?_getD,List.getElem?_eq_getElem h];rfl
theorem drop_at {α:Type}(l:List α){i:Nat}(h:i<l.length):l.drop i=l[i]::l.drop (i+1):=List.drop_eq_getElem_cons h
def Tells (x:Option (Bool×Unit))(P:Prop):Prop:=∃v:Bool,x=some (v,())∧(v=true↔P)
theorem Tells.iff {x P Q}(h:Tells x P)(e:P↔Q):Tells x Q:=h.imp fun v h=>⟨h.1,h.2.trans e⟩
theorem Tells.yes {x P}(h:Tells x P)(p:P):x=some (true,()):=by
  obtain⟨v,h1,h2⟩:=h
  rw[h1,h2.2 p]
theorem Tells.no {x P}(h:Tells x P)(p:¬P):x=some (false,()):=by
  obtain⟨v,h1,h2⟩:=h
  cases v with
  |false=>exact h1
  |true=>exact absurd (h2.1 rfl) p
theorem Tells.of_yes {x P}(p:P)(h:x=some (true,())):Tells x P:=⟨true,h,⟨fun _=>p,fun _=>rfl⟩⟩
theorem Tells.of_no {x P}(p:¬P)(h:x=some (false,())):Tells x P:=⟨false,h,⟨fun e=>(by cases e),fun e=>absurd e p⟩⟩
theorem same_loop {α:Type}{L:Nat→Nat→Option (Bool×Unit)}{a b:List α}(hn:a.length=b.length)(last:∀k,L (k+1) a.length=some (true,()))
    (step:∀i (ha:i<a.length) (hb:i<b.length),(a[i]=b[i]∧∀k,L (k+1) i=L k (i+1))∨(a[i]≠b[i]∧∀k,L (k+1) i=some (false,()))):∃j,Tells (L j 0) (a=b):=by
  obtain⟨j,r,h1,h2⟩:=downR (P:=fun i (r:Bool×Unit)=>(r.1=true↔a.drop i=b.drop i)) (n:=a.length) (L:=L) ⟨(true,()),by simp[hn],last⟩ (fun i hi=>by
    have hb:i<b.length:=by omega
    rw[drop_at a hi,drop_at b hb]
    rcases step i hi hb with⟨h1,h2⟩|⟨h1,h2⟩
    · refine .inr ⟨fun r hr => hr.trans ?_, h2⟩
      rw[h1,List.cons.injEq]
      exact⟨fun h=>⟨rfl,h⟩,fun h=>h.2⟩
    · exact .inl ⟨(false,()),by rw[List.cons.injEq];exact⟨fun e=>(by cases e),fun e=>absurd e.1 h1⟩,h2⟩) 0 (Nat.zero_le _)
  exact⟨0+j,r.1,(h2 0).trans rfl,by simpa using h1⟩
theorem EqNat_F {a b:List Int}(hl:a.length≤70368744177664):Tells (slices_Equal_Nat.F (a,b,())) (a=b):=by
  by_cases hn:a.length=b.length
  · obtain ⟨j, v, h1, h2⟩ := same_loop (L := fun k i => slices_Equal_Nat.L4 k a b (a.length : Int) (i : Int)) hn
      (fun k=>(slices_Equal_Nat.L4_succ _ _ _ _ _).trans (geb (Nat.lt_irrefl _) rfl))
      (fun i ha hb=>by
        have e1:=getD_at a (0:Int) ha
        have e2:=getD_at b (0:Int) hb
        by_cases h:a[i]=b[i]
        · refine .inl ⟨h, fun k => (slices_Equal_Nat.L4_succ _ _ _ _ _).trans (ltb ha (inb ha (inb hb (no ?_ ?_))))⟩
          · rw[e1,e2];exact bne_eq_false_iff_eq.2 h
          · show slices_Equal_Nat.L4 k a b (a.length : Int) (IntKind.i64.wrap ((i : Int) + 1)) = _
            rw[up1 (by omega)]
        · refine .inr ⟨h, fun k => (slices_Equal_Nat.L4_succ _ _ _ _ _).trans (ltb ha (inb ha (inb hb (yes ?_ rfl))))⟩
          rw[e1,e2];exact bne_iff_ne.2 h)
    exact⟨v,slices_Equal_Nat.of j a b (no (bne_eq_false_iff_eq.2 (by rw[hn])) h1),h2⟩
  · exact .of_no (fun e=>hn (by rw[e])) (slices_Equal_Nat.of 0 a b (yes (bne_iff_ne.2 (by omega)) rfl))
theorem rSame_F {a b:List Int}(hl:a.length≤70368744177664):Tells (r01_Same.F (a,b,())) (a=b):=by
  by_cases hn:a.length=b.length
  · obtain ⟨j, v, h1, h2⟩ := same_loop (L := fun k i => r01_Same.L4 k a b (i : Int)) hn
      (fun k=>(r01_Same.L4_succ _ _ _ _).trans (geb (Nat.lt_irrefl _) rfl))
      (fun i ha hb=>by
        have e1:=getD_at a (0:Int) ha
        have e2:=getD_at b (0:Int) hb
        by_cases h:a[i]=b[i]
        · refine .inl ⟨h, fun k => (r01_Same.L4_succ _ _ _ _).trans (ltb ha (inb ha (inb hb (no ?_ ?_))))⟩
          · rw[e1,e2];exact bne_eq_false_iff_eq.2 h
          · show r01_Same.L4 k a b (IntKind.i64.wrap ((i : Int) + 1)) = _
            rw[up1 (by omega)]
        · refine .inr ⟨h, fun k => (r01_Same.L4_succ _ _ _ _).trans (ltb ha (inb ha (inb hb (yes ?_ rfl))))⟩
          rw[e1,e2];exact bne_iff_ne.2 h)
    exact⟨v,r01_Same.of j a b (no (bne_eq_false_iff_eq.2 (by rw[hn])) h1),h2⟩
  · exact .of_no (fun e=>hn (by rw[e])) (r01_Same.of 0 a b (yes (bne_iff_ne.2 (by omega)) rfl))
def Lb (r:Dt47):Prop:=r.1.2.length≤70368744177664∧r.2.length≤70368744177664
theorem rat_iff (r s:Dt47):r=s↔r.1.1=s.1.1∧r.1.2=s.1.2∧r.2=s.2:=by
  obtain⟨⟨a,b⟩,c⟩:=r
  obtain⟨⟨d,e⟩,f⟩:=s
  simp only[Prod.mk.injEq]
  exact⟨fun h=>⟨h.1.1,h.1.2,h.2⟩,fun h=>⟨⟨h.1,h.2.1⟩,h.2.2⟩⟩
theorem beq_no {x y:Bool}(h:¬x=y):(x==y)=false:=by cases x<;>cases y<;>simp_all
theorem beq_yes {x y:Bool}(h:x=y):(x==y)=true:=by subst h;cases x<;>rfl
theorem sameRat_F {r s:Dt47}(h:Lb r):Tells (atoms_sameRat.F (r,s,())) (r=s):=by
  rw[rat_iff]
  by_cases h1:r.1.1=s.1.1
  case neg=>exact .of_no (fun e=>h1 e.1) (atoms_sameRat.of 0 r s (no (beq_no h1) rfl))
  by_cases h2:r.1.2=s.1.2
  case neg=>exact .of_no (fun e=>h2 e.2.1) (atoms_sameRat.of 0 r s (yes (beq_yes h1) (st ((EqNat_F h.1).no h2) rfl)))
  by_cases h3:r.2=s.2
  case neg=>exact .of_no (fun e=>h3 e.2.2) (atoms_sameRat.of 0 r s (yes (beq_yes h1) (st ((EqNat_F h.1).yes h2) (st ((EqNat_F h.2).no h3) rfl))))
  exact .of_yes ⟨h1,h2,h3⟩ (atoms_sameRat.of 0 r s (yes (beq_yes h1) (st ((EqNat_F h.1).yes h2) (st ((EqNat_F h.2).yes h3) rfl))))
theorem rSameRat_F {r s:Dt47}(h:Lb r):Tells (r03_Same.F (r,s,())) (r=s):=by
  rw[rat_iff]
  by_cases h1:r.1.1=s.1.1
  case neg=>exact .of_no (fun e=>h1 e.1) (r03_Same.of 0 r s (no (beq_no h1) rfl))
  by_cases h2:r.1.2=s.1.2
  case neg=>exact .of_no (fun e=>h2 e.2.1) (r03_Same.of 0 r s (yes (beq_yes h1) (st ((rSame_F h.1).no h2) rfl)))
  by_cases h3:r.2=s.2
  case neg=>exact .of_no (fun e=>h3 e.2.2) (r03_Same.of 0 r s (yes (beq_yes h1) (st ((rSame_F h.1).yes h2) (st ((rSame_F h.2).no h3) rfl))))
  exact .of_yes ⟨h1,h2,h3⟩ (r03_Same.of 0 r s (yes (beq_yes h1) (st ((rSame_F h.1).yes h2) (st ((rSame_F h.2).yes h3) rfl))))
theorem pair_iff {α β:Type}(a b:α×β):a=b↔a.1=b.1∧a.2=b.2:=by
  obtain⟨x,y⟩:=a
  obtain⟨z,w⟩:=b
  simp only[Prod.mk.injEq]
def LbF (f:Dt40):Prop:=f.length≤70368744177664∧∀m∈f,Lb m.2
theorem sameMono_F {m l:Dt73}(h:Lb m.2):Tells (atoms_sameForm_1.F (m,l,())) (m=l):=by
  rw[pair_iff]
  by_cases h1:m.1=l.1
  case neg=>exact .of_no (fun e=>h1 e.1) (atoms_sameForm_1.of 0 m l (no (beq_eq_false_iff_ne.2 h1) rfl))
  by_cases h2:m.2=l.2
  case neg=>exact .of_no (fun e=>h2 e.2) (atoms_sameForm_1.of 0 m l (yes (beq_iff_eq.2 h1) (st ((sameRat_F h).no h2) rfl)))
  exact .of_yes ⟨h1,h2⟩ (atoms_sameForm_1.of 0 m l (yes (beq_iff_eq.2 h1) (st ((sameRat_F h).yes h2) rfl)))
theorem sameForm_F {f g:Dt40}(h:LbF f):Tells (atoms_sameForm.F (f,g,())) (f=g):=by
  suffices H:Tells (slices_EqualFunc_Form.F (f,g,(),())) (f=g)from H.imp fun v hv=>⟨atoms_sameForm.of 0 f g (st hv.1 rfl),hv.2⟩
  have hb0:=h.1
  by_cases hn:f.length=g.length
  · obtain ⟨j, v, h1, h2⟩ := same_loop (L := fun k i => slices_EqualFunc_Form.L4 k g () f (f.length : Int) (i : Int)) hn
      (fun k=>(slices_EqualFunc_Form.L4_succ _ _ _ _ _ _).trans (geb (Nat.lt_irrefl _) rfl))
      (fun i ha hb=>by
        have e1:=getD_at f zt73 ha
        have e2:=getD_at g zt73 hb
        have hm:=sameMono_F (m:=List.getD f (Int.toNat (i:Int)) zt73) (l:=List.getD g (Int.toNat (i:Int)) zt73) (by rw[e1];exact h.2 _ (List.getElem_mem ha))
        have hm:=hm.iff (by rw[e1,e2])
        by_cases hq:f[i]=g[i]
        · refine .inl ⟨hq, fun k => (slices_EqualFunc_Form.L4_succ _ _ _ _ _ _).trans (ltb ha (inb ha (inb hb (st (hm.yes hq) (no rfl ?_)))))⟩
          show slices_EqualFunc_Form.L4 k g () f (f.length:Int) (IntKind.i64.wrap ((i:Int)+1))=_
          rw[up1 (by omega)]
        · exact .inr ⟨hq,fun k=>(slices_EqualFunc_Form.L4_succ _ _ _ _ _ _).trans (ltb ha (inb ha (inb hb (st (hm.no hq) (yes rfl rfl)))))⟩)
    exact⟨v,slices_EqualFunc_Form.of j f g () (no (bne_eq_false_iff_eq.2 (by rw[hn])) h1),h2⟩
  · exact .of_no (fun e=>hn (by rw[e])) (slices_EqualFunc_Form.of 0 f g () (yes (bne_iff_ne.2 (by omega)) rfl))
theorem rSameForm_F {f g:Dt40}(h:LbF f):Tells (r07_SameForm.F (f,g,())) (f=g):=by
  have hb0:=h.1
  by_cases hn:f.length=g.length
  · obtain ⟨j, v, h1, h2⟩ := same_loop (L := fun k i => r07_SameForm.L4 k f g (i : Int)) hn
      (fun k=>(r07_SameForm.L4_succ _ _ _ _).trans (geb (Nat.lt_irrefl _) rfl))
      (fun i ha hb=>by
        have e1:=getD_at f zt73 ha
        have e2:=getD_at g zt73 hb
        have hm:=rSameRat_F (r:=(List.getD f (Int.toNat (i:Int)) zt73).2) (s:=(List.getD g (Int.toNat (i:Int)) zt73).2) (by rw[e1];exact h.2 _ (List.getElem_mem ha))
        have hm:=hm.iff (Q:=f[i].2=g[i].2) (by rw[e1,e2])
        have hp:=pair_iff f[i] g[i]
        by_cases q1:f[i].1=g[i].1
        case neg=>
          refine .inr ⟨fun e=>q1 (hp.1 e).1,fun k=>(r07_SameForm.L4_succ _ _ _ _).trans (ltb ha (inb ha (inb hb (yes ?_ rfl))))⟩
          rw[e1,e2];exact bne_iff_ne.2 q1
        have q1':((List.getD f (Int.toNat (i:Int)) zt73).1 != (List.getD g (Int.toNat (i:Int)) zt73).1)=false:=by rw[e1,e2];exact bne_eq_false_iff_eq.2 q1
        by_cases q2:f[i].2=g[i].2
        case neg=>exact .inr ⟨fun e=>q2 (hp.1 e).2,fun k=>(r07_SameForm.L4_succ _ _ _ _).trans (ltb ha (inb ha (inb hb (no q1' (inb ha (inb hb (st (hm.no q2) (yes rfl rfl))))))))⟩
        refine .inl ⟨hp.2 ⟨q1,q2⟩,fun k=>(r07_SameForm.L4_succ _ _ _ _).trans (ltb ha (inb ha (inb hb (no q1' (inb ha (inb hb (st (hm.yes q2) (no rfl ?_))))))))⟩
        show r07_SameForm.L4 k f g (IntKind.i64.wrap ((i:Int)+1))=_
        rw[up1 (by omega)])
    exact⟨v,r07_SameForm.of j f g (no (bne_eq_false_iff_eq.2 (by rw[hn])) h1),h2⟩
  · exact .of_no (fun e=>hn (by rw[e])) (r07_SameForm.of 0 f g (yes (bne_iff_ne.2 (by omega)) rfl))
def LbA (a:Dt69):Prop:=LbF a.2.1∧Lb a.2.2.1
theorem atom_iff (a b:Dt69):a=b↔a.1=b.1∧a.2.2.2=b.2.2.2∧a.2.2.1=b.2.2.1∧a.2.1=b.2.1:=by
  obtain⟨n,f,r,s⟩:=a
  obtain⟨n',f',r',s'⟩:=b
  simp only[Prod.mk.injEq]
  exact⟨fun h=>⟨h.1,h.2.2.2,h.2.2.1,h.2.1⟩,fun h=>⟨h.1,h.2.2.2,h.2.2.1,h.2.1⟩⟩
theorem str_yes {s t:ByteArray}(h:s=t):(s.toList==t.toList)=true:=by rw[str_eq];exact decide_eq_true h
theorem str_no {s t:ByteArray}(h:¬s=t):(s.toList==t.toList)=false:=by rw[str_eq];exact decide_eq_false h
theorem Alike_F {a b:Dt69}(h:LbA a):Tells (r17_Alike.F (a,b,())) (a=b):=by
  rw[atom_iff]
  by_cases h1:a.1=b.1
  case neg=>exact .of_no (fun e=>h1 e.1) (r17_Alike.of 0 a b (no (str_no h1) rfl))
  by_cases h2:a.2.2.2=b.2.2.2
  case neg=>exact .of_no (fun e=>h2 e.2.1) (r17_Alike.of 0 a b (yes (str_yes h1) (no (beq_no h2) rfl)))
  by_cases h3:a.2.2.1=b.2.2.1
  case neg=>exact .of_no (fun e=>h3 e.2.2.1) (r17_Alike.of 0 a b (yes (str_yes h1) (yes (beq_yes h2) (st ((rSameRat_F h.2).no h3) rfl))))
  by_cases h4:a.2.1=b.2.1
  case neg=>exact .of_no (fun e=>h4 e.2.2.2) (r17_Alike.of 0 a b (yes (str_yes h1) (yes (beq_yes h2) (st ((rSameRat_F h.2).yes h3) (st ((rSameForm_F h.1).no h4) rfl)))))
  exact .of_yes ⟨h1,h2,h3,h4⟩ (r17_Alike.of 0 a b (yes (str_yes h1) (yes (beq_yes h2) (st ((rSameRat_F h.2).yes h3) (st ((rSameForm_F h.1).yes h4) rfl)))))
abbrev NF:Type:=List (Int×Rat)
def cf:NF→Int→Rat
 |[],_=>0
 |m::x,v=>(if m.1=v then m.2 else 0)+cf x v
theorem cf_append (a b:NF)(v:Int):cf (a++b) v=cf a v+cf b v:=by
 induction a with
 |nil=>show cf b v=0+cf b v;rw[Rat.zero_add]
 |cons m a ih=>show _+cf (a++b) v=_+cf a v+cf b v;rw[ih,Rat.add_assoc]
def mg:NF→NF→NF
 |[],b=>b
 |a,[]=>a
 |m::a,l::b=>if m.1<l.1 then m::mg a (l::b)else if l.1<m.1 then l::mg (m::a) b else if m.2+l.2=0 then mg a b else(m.1,m.2+l.2)::mg a b
termination_by a b=>a.length+b.length
theorem mg_nil_left (b:NF):mg [] b=b:=by rw[mg]
theorem mg_nil_right (a:NF):mg a []=a:=by cases a with|nil=>rw[mg]|cons=>rw[mg];simp
def nrm (l:NF):NF:=match h:l with
 |[]=>[]
 |[m]=>if m.2=0 then[]else[m]
 |x::y::z=>mg (nrm (l.take (l.length/2))) (nrm (l.drop (l.length/2)))
termination_by l.length
decreasing_by
 ·subst h;simp only[List.length_take,List.length_cons];omega
 ·subst h;simp only[List.length_drop,List.length_cons];omega
theorem nrm_nil:nrm []=[]:=by rw[nrm]
theorem nrm_one (m:Int×Rat):nrm [m]=if m.2=0 then[]else[m]:=by rw[nrm]
theorem nrm_more {l:NF}(h:2≤l.length):nrm l=mg (nrm (l.take (l.length/2))) (nrm (l.drop (l.length/2))):=by
 match l,h with
 |x::y::z,_=>rw[nrm]
structure Nf (x:NF):Prop where
 up:x.Pairwise (fun a b=>a.1<b.1)
 nz:∀m∈x,m.2≠0
theorem Nf.nil:Nf []:=⟨List.Pairwise.nil,fun m h=>by simp at h⟩
theorem Nf.cons {m:Int×Rat}{x:NF}(h:Nf x)(hz:m.2≠0)(hl:∀l∈x,m.1<l.1):Nf (m::x):=
 ⟨List.pairwise_cons.2 ⟨hl,h.up⟩,fun l hm=>by rcases List.mem_cons.1 hm with rfl|hm;exact hz;exact h.nz l hm⟩
theorem Nf.tail {m:Int×Rat}{x:NF}(h:Nf (m::x)):Nf x:=⟨(List.pairwise_cons.1 h.up).2,fun l hl=>h.nz l (List.mem_cons_of_mem _ hl)⟩
theorem Nf.head {m:Int×Rat}{x:NF}(h:Nf (m::x)):m.2≠0∧∀l∈x,m.1<l.1:=⟨h.nz m List.mem_cons_self,(List.pairwise_cons.1 h.up).1⟩
theorem cf_out {x:NF}{v:Int}(h:∀m∈x,m.1≠v):cf x v=0:=by
 induction x with
 |nil=>rfl
 |cons m x ih=>
  show(if m.1=v then m.2 else 0)+cf x v=0
  rw[if_neg (h m List.mem_cons_self),ih fun l hl=>h l (List.mem_cons_of_mem _ hl),Rat.zero_add]
theorem Nf.cf_head {m:Int×Rat}{x:NF}(h:Nf (m::x)):cf (m::x) m.1=m.2:=by
 show(if m.1=m.1 then m.2 else 0)+cf x m.1=m.2
 rw[if_pos rfl,cf_out fun l hl=>by have:=h.head.2 l hl;omega,Rat.add_zero]
theorem Nf.cf_low {m:Int×Rat}{x:NF}(h:Nf (m::x)){v:Int}(hv:v<m.1):cf (m::x) v=0:=
 cf_out fun l hl=>by rcases List.mem_cons.1 hl with rfl|hl;omega;have:=h.head.2 l hl;omega
theorem Nf.ext:∀{a b:NF},Nf a→Nf b→(∀v,cf a v=cf b v)→a=b
 |[],[],_,_,_=>rfl
 |[],m::b,_,hb,h=>absurd ((h m.1).symm.trans rfl) (by rw[hb.cf_head];exact hb.head.1)
 |m::a,[],ha,_,h=>absurd ((h m.1).trans rfl) (by rw[ha.cf_head];exact ha.head.1)
 |m::a,l::b,ha,hb,h=>by
  have hv:m.1=l.1:=by
   rcases Int.lt_trichotomy m.1 l.1 with h1|h1|h1
   ·have:=h m.1;rw[ha.cf_head,hb.cf_low h1]at this;exact absurd this ha.head.1
   ·exact h1
   ·have:=h l.1;rw[hb.cf_head,ha.cf_low h1]at this;exact absurd this.symm hb.head.1
  have hq:m.2=l.2:=by have:=h m.1;rw[ha.cf_head,hv,hb.cf_head]at this;exact this
  have hm:m=l:=Prod.ext hv hq
  subst hm
  rw[Nf.ext ha.tail hb.tail fun v=> ?_]
  have e:(if m.1=v then m.2 else 0)+cf a v=(if m.1=v then m.2 else 0)+cf b v:=h v
  generalize (if m.1=v then m.2 else 0)=t at e
  grind
theorem mg_mem:∀{a b:NF} {m:Int×Rat},m∈mg a b→(∃l∈a,l.1=m.1)∨(∃l∈b,l.1=m.1):=by
 intro a b
 induction a,b using mg.induct with
 |case1 b=>intro m h;rw[mg_nil_left]at h;exact .inr ⟨m,h,rfl⟩
 |case2 a ha=>intro m h;rw[mg_nil_right]at h;exact .inl ⟨m,h,rfl⟩
 |case3 m a l b h1 ih=>
  intro k h
  rw[mg,if_pos h1]at h
  rcases List.mem_cons.1 h with rfl|h
  ·exact .inl ⟨_,List.mem_cons_self,rfl⟩
  ·rcases ih h with⟨q,hq,e⟩|h
   ·exact .inl ⟨q,List.mem_cons_of_mem _ hq,e⟩
   ·exact .inr h
 |case4 m a l b h1 h2 ih=>
  intro k h
  rw[mg,if_neg h1,if_pos h2]at h
  rcases List.mem_cons.1 h with rfl|h
  ·exact .inr ⟨_,List.mem_cons_self,rfl⟩
  ·rcases ih h with h|⟨q,hq,e⟩
   ·exact .inl h
   ·exact .inr ⟨q,List.mem_cons_of_mem _ hq,e⟩
 |case5 m a l b h1 h2 h3 ih=>
  intro k h
  rw[mg,if_neg h1,if_neg h2,if_pos h3]at h
  rcases ih h with⟨q,hq,e⟩|⟨q,hq,e⟩
  ·exact .inl ⟨q,List.mem_cons_of_mem _ hq,e⟩
  ·exact .inr ⟨q,List.mem_cons_of_mem _ hq,e⟩
 |case6 m a l b h1 h2 h3 ih=>
  intro k h
  rw[mg,if_neg h1,if_neg h2,if_neg h3]at h
  rcases List.mem_cons.1 h with rfl|h
  ·exact .inl ⟨m,List.mem_cons_self,rfl⟩
  rcases ih h with⟨q,hq,e⟩|⟨q,hq,e⟩
  ·exact .inl ⟨q,List.mem_cons_of_mem _ hq,e⟩
  ·exact .inr ⟨q,List.mem_cons_of_mem _ hq,e⟩
theorem mg_nf:∀{a b:NF},Nf a→Nf b→Nf (mg a b)∧∀v,cf (mg a b) v=cf a v+cf b v:=by
 intro a b
 induction a,b using mg.induct with
 |case1 b=>intro _ hb;rw[mg_nil_left];exact⟨hb,fun v=>by show _=0+_;rw[Rat.zero_add]⟩
 |case2 a ha=>intro ha _;rw[mg_nil_right];exact⟨ha,fun v=>by show _=_+0;rw[Rat.add_zero]⟩
 |case3 m a l b h1 ih=>
  intro ha hb
  obtain⟨i1,i2⟩:=ih ha.tail hb
  rw[mg,if_pos h1]
  refine⟨i1.cons ha.head.1 fun k hk=> ?_,fun v=> ?_⟩
  ·rcases mg_mem hk with⟨q,hq,e⟩|⟨q,hq,e⟩
   ·have:=ha.head.2 q hq;omega
   ·rcases List.mem_cons.1 hq with rfl|hq
    ·omega
    ·have:=hb.head.2 q hq;omega
  ·show _+cf (mg a (l::b)) v=_+cf a v+_
   rw[i2,Rat.add_assoc]
 |case4 m a l b h1 h2 ih=>
  intro ha hb
  obtain⟨i1,i2⟩:=ih ha hb.tail
  rw[mg,if_neg h1,if_pos h2]
  refine⟨i1.cons hb.head.1 fun k hk=> ?_,fun v=> ?_⟩
  ·rcases mg_mem hk with⟨q,hq,e⟩|⟨q,hq,e⟩
   ·rcases List.mem_cons.1 hq with rfl|hq
    ·omega
    ·have:=ha.head.2 q hq;omega
   ·have:=hb.head.2 q hq;omega
  ·show _+cf (mg (m::a) b) v=cf (m::a) v+(_+cf b v)
   rw[i2,←Rat.add_assoc,←Rat.add_assoc,Rat.add_comm (cf (m::a) v)]
 |case5 m a l b h1 h2 h3 ih=>
  intro ha hb
  obtain⟨i1,i2⟩:=ih ha.tail hb.tail
  rw[mg,if_neg h1,if_neg h2,if_pos h3]
  have hv:m.1=l.1:=by omega
  refine⟨i1,fun v=> ?_⟩
  show _=_+cf a v+(_+cf b v)
  rw[i2,hv]
  by_cases h:l.1=v
  ·rw [if_pos h,if_pos h];grind
  ·rw [if_neg h,if_neg h];grind
 |case6 m a l b h1 h2 h3 ih=>
  intro ha hb
  obtain⟨i1,i2⟩:=ih ha.tail hb.tail
  rw[mg,if_neg h1,if_neg h2,if_neg h3]
  have hv:m.1=l.1:=by omega
  refine⟨i1.cons h3 fun k hk=> ?_,fun v=> ?_⟩
  ·rcases mg_mem hk with⟨q,hq,e⟩|⟨q,hq,e⟩
   ·have:=ha.head.2 q hq;show m.1<_;omega
   ·have:=hb.head.2 q hq;show m.1<_;omega
  ·show (if m.1=v then m.2+l.2 else 0)+cf (mg a b) v=_+cf a v+(_+cf b v)
   rw[i2,hv]
   by_cases h:l.1=v
   ·rw [if_pos h,if_pos h,if_pos h];grind
   ·rw [if_neg h,if_neg h,if_neg h];grind
theorem nrm_nf (l:NF):Nf (nrm l)∧∀v,cf (nrm l) v=cf l v:=by
 have key:∀n,∀l:NF,l.length=n→Nf (nrm l)∧∀v,cf (nrm l) v=cf l v:=by
  intro n
  induction n using Nat.strongRecOn with
  |ind n ih=>
   intro l hl
   match l,hl with
   |[],_=>rw[nrm_nil];exact⟨.nil,fun _=>rfl⟩
   |[m],_=>
    rw[nrm_one]
    by_cases h:m.2=0
    ·rw [if_pos h]
     refine⟨.nil,fun v=> ?_⟩
     show(0:Rat)=(if m.1=v then m.2 else 0)+0
     rw[h];split<;>rw[Rat.add_zero]
    ·rw [if_neg h]
     exact⟨Nf.nil.cons h fun l hl=>by simp at hl,fun v=>rfl⟩
   |x::y::z,hl=>
    have h2:2≤(x::y::z).length:=by simp
    rw[nrm_more h2]
    obtain⟨a1,a2⟩:=ih _ (by rw[List.length_take];omega) ((x::y::z).take ((x::y::z).length/2)) rfl
    obtain⟨b1,b2⟩:=ih _ (by rw[List.length_drop];omega) ((x::y::z).drop ((x::y::z).length/2)) rfl
    obtain⟨c1,c2⟩:=mg_nf a1 b1
    refine⟨c1,fun v=> ?_⟩
    rw[c2,a2,b2,←cf_append,List.take_append_drop]
 exact key _ l rfl
theorem nrm_of {x y:NF}(h:Nf y)(e:∀v,cf y v=cf x v):nrm x=y:=(nrm_nf x).1.ext h fun v=>((nrm_nf x).2 v).trans (e v).symm
theorem nrm_self {x:NF}(h:Nf x):nrm x=x:=nrm_of h fun _=>rfl
inductive Wt:NF→Nat→Prop where
 |nil {N:Nat}:Wt [] N
 |cons {m:Int×Rat} {x:NF} {n N M:Nat} (h:Ft m.2 n) (t:Wt x N) (hn:n+1+N≤M):Wt (m::x) M
theorem Wt.mono {x N M}(h:Wt x N)(hn:N≤M):Wt x M:=by
 cases h with
 |nil=>exact .nil
 |cons h t h'=>exact .cons h t (by omega)
theorem Wt.split:∀{a b:NF} {N:Nat},Wt (a++b) N→∃N1 N2,Wt a N1∧Wt b N2∧N1+N2≤N
 |[],b,N,h=>⟨0,N,.nil,h,by omega⟩
 |m::a,b,N,h=>by
  cases h with
  |cons h t h'=>
   obtain⟨N1,N2,h1,h2,h3⟩:=Wt.split t
   exact⟨_,N2,.cons h h1 (Nat.le_refl _),h2,by omega⟩
theorem Wt.mg:∀{a b:NF} {N M:Nat},Wt a N→Wt b M→Wt (mg a b) (N+M):=by
 intro a b
 induction a,b using mg.induct with
 |case1 b=>intro N M _ h;rw[mg_nil_left];exact h.mono (by omega)
 |case2 a ha=>intro N M h _;rw[mg_nil_right];exact h.mono (by omega)
 |case3 m a l b h1 ih=>
  intro N M h g
  cases h with
  |cons h t h'=>rw[Tryz.mg,if_pos h1];exact .cons h (ih t g) (by omega)
 |case4 m a l b h1 h2 ih=>
  intro N M h g
  cases g with
  |cons g t h'=>rw[Tryz.mg,if_neg h1,if_pos h2];exact .cons g (ih h t) (by omega)
 |case5 m a l b h1 h2 h3 ih=>
  intro N M h g
  cases h with
  |cons h t h'=>
   cases g with
   |cons g u g'=>rw[Tryz.mg,if_neg h1,if_neg h2,if_pos h3];exact(ih t u).mono (by omega)
 |case6 m a l b h1 h2 h3 ih=>
  intro N M h g
  cases h with
  |cons h t h'=>
   cases g with
   |cons g u g'=>rw[Tryz.mg,if_neg h1,if_neg h2,if_neg h3];exact .cons (h.add g) (ih t u) (by omega)
theorem Wt.nrm {l:NF}{N:Nat}(h:Wt l N):Wt (nrm l) N:=by
 have key:∀n,∀(l:NF) (N:Nat),l.length=n→Wt l N→Wt (Tryz.nrm l) N:=by
  intro n
  induction n using Nat.strongRecOn with
  |ind n ih=>
   intro l N hl h
   match l,hl,h with
   |[],_,h=>rw[nrm_nil];exact .nil
   |[m],_,h=>
    rw[nrm_one]
    split
    ·exact .nil
    ·exact h
   |x::y::z,hl,h=>
    have h2:2≤(x::y::z).length:=by simp
    rw[nrm_more h2]
    rw[←List.take_append_drop ((x::y::z).length/2) (x::y::z)]at h
    obtain⟨N1,N2,h3,h4,h5⟩:=h.split
    have a1:=ih _ (by rw[List.length_take];omega) ((x::y::z).take ((x::y::z).length/2)) N1 rfl h3
    have b1:=ih _ (by rw[List.length_drop];omega) ((x::y::z).drop ((x::y::z).length/2)) N2 rfl h4
    exact(a1.mg b1).mono h5
 exact key _ l N rfl h
theorem Wt.len {x N}(h:Wt x N):x.length≤N:=by
 induction h with
 |nil=>simp
 |cons h t h' ih=>simp only[List.length_cons];omega
theorem Wt.mem {x N}(h:Wt x N):∀m∈x,Ft m.2 N:=by
 induction h with
 |nil=>intro m hm;simp at hm
 |cons h t h' ih=>
  intro m hm
  rcases List.mem_cons.1 hm with rfl|hm
  ·exact h.mono (by omega)
  ·exact (ih m hm).mono (by omega)
theorem Wt.cf {x N}(h:Wt x N)(v:Int):Ft (cf x v) (N+1):=by
 induction h with
 |nil=>exact Ft.zero.mono (by omega)
 |cons h t h' ih=>
  rename_i m x n N M
  show Ft ((if m.1=v then m.2 else 0)+Tryz.cf x v) _
  split
  ·exact (h.add ih).mono (by omega)
  ·rw [Rat.zero_add];exact ih.mono (by omega)
noncomputable def fc (x:NF):Dt40:=x.map fun m=>(m.1,rcan m.2)
theorem fc_len (x:NF):(fc x).length=x.length:=List.length_map _
theorem fc_get (x:NF){i:Nat}(h:i<(fc x).length):(fc x)[i]=((x[i]'(by rw[←fc_len];exact h)).1,rcan (x[i]'(by rw[←fc_len];exact h)).2):=by simp[fc]
theorem fc_append (x y:NF):fc (x++y)=fc x++fc y:=List.map_append
theorem rcan_inj {p q:Rat}(h:rcan p=rcan q):p=q:=by rw[←rv_rcan p,←rv_rcan q,h]
theorem fc_inj:∀{x y:NF},fc x=fc y→x=y
 |[],[],_=>rfl
 |[],_::_,h=>by simp[fc]at h
 |_::_,[],h=>by simp[fc]at h
 |a::x,b::y,h=>by
  simp only[fc,List.map_cons,List.cons.injEq,Prod.mk.injEq]at h
  rw[fc_inj (x:=x) (y:=y) h.2,Prod.ext h.1.1 (rcan_inj h.1.2)]
inductive Rf:Dt40→NF→Nat→Prop where
 |nil {N:Nat}:Rf [] [] N
 |cons {v:Int} {r:Dt47} {q:Rat} {f:Dt40} {x:NF} {n N M:Nat} (h:Rt r q n) (t:Rf f x N) (hn:n+1+N≤M):Rf ((v,r)::f) ((v,q)::x) M
theorem Rf.wt {f x N}(h:Rf f x N):Wt x N:=by
 induction h with
 |nil=>exact .nil
 |cons h t h' ih=>exact .cons h.ft ih h'
theorem Wt.rf {x N}(h:Wt x N):Rf (fc x) x N:=by
 induction h with
 |nil=>exact .nil
 |cons h t h' ih=>exact .cons h.rt ih h'
theorem Rf.len {f x N}(h:Rf f x N):f.length=x.length:=by
 induction h with
 |nil=>rfl
 |cons h t h' ih=>simp only[List.length_cons,ih]
theorem Rf.split {f x N}(h:Rf f x N):∀k,∃N1 N2,Rf (f.take k) (x.take k) N1∧Rf (f.drop k) (x.drop k) N2∧N1+N2≤N:=by
 induction h with
 |nil=>intro k;exact⟨0,0,by simp;exact .nil,by simp;exact .nil,by omega⟩
 |cons h t h' ih=>
  intro k
  cases k with
  |zero=>exact⟨0,_,.nil,.cons h t h',by omega⟩
  |succ k=>
   obtain⟨N1,N2,h1,h2,h3⟩:=ih k
   exact⟨_,N2,.cons h h1 (Nat.le_refl _),h2,by omega⟩
theorem Rf.at {f x N}(h:Rf f x N):∀i (hi:i<f.length) (hx:i<x.length),f[i].1=x[i].1∧Rt f[i].2 x[i].2 N:=by
 induction h with
 |nil=>intro i hi;simp at hi
 |cons h t h' ih=>
  intro i hi hx
  cases i with
  |zero=>exact⟨rfl,h.mono (by omega)⟩
  |succ i=>
   have:=ih i (by simpa using hi) (by simpa using hx)
   exact⟨this.1,this.2.mono (by omega)⟩
theorem byVar_F (m l:Dt73):linear_byVar.F (m,l,())=some (cmpI m.1 l.1,()):=by
 refine linear_byVar.of 0 m l ?_
 by_cases h1:m.1<l.1
 ·rw [cmpI_lt h1];exact yes (decide_eq_true h1) rfl
 refine no (decide_eq_false h1) ?_
 by_cases h2:l.1<m.1
 ·rw [cmpI_gt h2];exact yes (decide_eq_true h2) rfl
 ·rw [cmpI_eq (by omega)];exact no (decide_eq_false h2) rfl
theorem together_F {v:Int}{w:Int}{p q:Rat}{n:Nat}(h:Ft p n)(g:Ft q n)(hn:n+n+1<70368744177664):linear_together.F ((v,rcan p),(w,rcan q),())=some ((v,rcan (p+q)),decide (p+q≠0),()):=by
 have hs:=(h.add g).rt.Sign_F (by omega)
 refine linear_together.of 0 _ _ (st (h.rt.Add_F g.rt hn) (st hs ?_))
 have e:(sgn (p+q).num != 0)=decide (p+q≠0):=by
  by_cases h0:p+q=0
  ·rw [decide_eq_false (by simpa using h0),h0];rfl
  ·rw [decide_eq_true h0]
   exact bne_iff_ne.2 fun e=>h0 (num_zero.1 (sgn_zero.1 e))
 show some ((v,rcan (p+q)),(sgn (p+q).num != 0),())=_
 rw[e]
theorem len_pos {α:Type}(m:α)(a:List α):decide (((m::a).length:Int)>0)=true:=decide_eq_true (by simp only[List.length_cons];omega)
theorem drop1 {α β:Type}{m:α}{a:List α}{x y r:β}(g:x=r):(bif decide ((0:Int)≤1)&&decide ((1:Int)≤((m::a).length:Int))then x else y)=r:=by
 rw[decide_eq_true (by decide),decide_eq_true (by simp only[List.length_cons];omega)];exact g
theorem at0 {α β:Type}{m:α}{a:List α}{x y r:β}(g:x=r):(bif decide ((0:Int)≤0)&&decide ((0:Int)<((m::a).length:Int))then x else y)=r:=by
 rw[decide_eq_true (by decide),decide_eq_true (by simp only[List.length_cons];omega)];exact g
theorem merge_loop:∀(a b:NF) (N M:Nat) (out:Dt40),Wt a N→Wt b M→N+M+N+M+1<70368744177664→out.length+a.length+b.length<2199023255552→
  ∃j,∀k,linear_merge_Mono.L2 (k+j) (fc a) (fc b) () () out=some (((),(out++fc (mg a b),()),()),0,[]):=by
 intro a b
 induction a,b using mg.induct with
 |case1 b=>
  intro N M out _ hb hN hl
  refine⟨1,fun k=>(linear_merge_Mono.L2_succ _ _ _ _ _ _).trans (yes (decide_eq_true ?_) (yes (decide_eq_true ?_) ?_))⟩
  ·show out.length+0<_;omega
  ·show (out++[]).length+(fc b).length<_;rw[List.append_nil,fc_len];omega
  ·show some (((),((out++[])++fc b,()),()),0,[])=_
   rw[mg_nil_left,List.append_nil]
 |case2 a ha=>
  intro N M out h _ hN hl
  cases a with
  |nil=>exact absurd rfl ha
  |cons m a=>
   refine⟨1,fun k=>(linear_merge_Mono.L2_succ _ _ _ _ _ _).trans (yes (len_pos _ _) (no rfl (yes (decide_eq_true ?_) (yes (decide_eq_true ?_) ?_))))⟩
   ·show out.length+(fc (m::a)).length<_;rw[fc_len];omega
   ·show (out++fc (m::a)).length+0<_;rw[List.length_append,fc_len];omega
   ·show some (((),((out++fc (m::a))++[],()),()),0,[])=_
    rw[mg_nil_right,List.append_nil]
 |case3 m a l b h1 ih=>
  intro N M out ha hb hN hl
  cases ha with
  |cons hm ha' hle=>
   obtain⟨j,hj⟩:=ih _ M (out++[(m.1,rcan m.2)]) ha' hb (by omega) (by simp only[List.length_append,List.length_cons,List.length_nil]at hl⊢;omega)
   refine⟨j+1,fun k=>(linear_merge_Mono.L2_succ _ _ _ _ _ _).trans (yes (len_pos _ _) (yes (len_pos _ _) (at0 (at0 (st (byVar_F _ _) (yes ?_ (at0 (yes (decide_eq_true ?_) (drop1 ?_)))))))))⟩
   ·show decide (cmpI m.1 l.1<0)=true;rw[cmpI_lt h1];rfl
   ·show out.length+1<_;simp only[List.length_cons]at hl;omega
   ·refine (hj k).trans ?_
    rw[mg,if_pos h1]
    simp[fc]
 |case4 m a l b h1 h2 ih=>
  intro N M out ha hb hN hl
  cases hb with
  |cons hm hb' hle=>
   obtain⟨j,hj⟩:=ih N _ (out++[(l.1,rcan l.2)]) ha hb' (by omega) (by simp only[List.length_append,List.length_cons,List.length_nil]at hl⊢;omega)
   refine⟨j+1,fun k=>(linear_merge_Mono.L2_succ _ _ _ _ _ _).trans (yes (len_pos _ _) (yes (len_pos _ _) (at0 (at0 (st (byVar_F _ _) (no ?_ (yes ?_ (at0 (yes (decide_eq_true ?_) (drop1 ?_))))))))))⟩
   ·show decide (cmpI m.1 l.1<0)=false;rw[cmpI_gt h2];rfl
   ·show decide (cmpI m.1 l.1>0)=true;rw[cmpI_gt h2];rfl
   ·show out.length+1<_;simp only[List.length_cons]at hl;omega
   ·refine (hj k).trans ?_
    rw[mg,if_neg h1,if_pos h2]
    simp[fc]
 |case5 m a l b h1 h2 h3 ih=>
  intro N M out ha hb hN hl
  cases ha with
  |cons hm ha' hle=>
  cases hb with
  |cons hm' hb' hle'=>
   obtain⟨j,hj⟩:=ih _ _ out ha' hb' (by omega) (by simp only[List.length_cons]at hl;omega)
   refine⟨j+1,fun k=>(linear_merge_Mono.L2_succ _ _ _ _ _ _).trans (yes (len_pos _ _) (yes (len_pos _ _) (at0 (at0 (st (byVar_F _ _) (no ?_ (no ?_ (at0 (at0 (st (together_F (hm.mono (show _≤N+M by omega)) (hm'.mono (show _≤N+M by omega)) (by omega)) (no ?_ (drop1 (drop1 ?_)))))))))))))⟩
   ·show decide (cmpI m.1 l.1<0)=false;rw[cmpI_eq (by omega)];rfl
   ·show decide (cmpI m.1 l.1>0)=false;rw[cmpI_eq (by omega)];rfl
   ·exact decide_eq_false (by simpa using h3)
   ·refine (hj k).trans ?_
    rw[mg,if_neg h1,if_neg h2,if_pos h3]
 |case6 m a l b h1 h2 h3 ih=>
  intro N M out ha hb hN hl
  cases ha with
  |cons hm ha' hle=>
  cases hb with
  |cons hm' hb' hle'=>
   obtain⟨j,hj⟩:=ih _ _ (out++[(m.1,rcan (m.2+l.2))]) ha' hb' (by omega) (by simp only[List.length_append,List.length_cons,List.length_nil]at hl⊢;omega)
   refine⟨j+1,fun k=>(linear_merge_Mono.L2_succ _ _ _ _ _ _).trans (yes (len_pos _ _) (yes (len_pos _ _) (at0 (at0 (st (byVar_F _ _) (no ?_ (no ?_ (at0 (at0 (st (together_F (hm.mono (show _≤N+M by omega)) (hm'.mono (show _≤N+M by omega)) (by omega)) (yes ?_ (yes (decide_eq_true ?_) (drop1 (drop1 ?_))))))))))))))⟩
   ·show decide (cmpI m.1 l.1<0)=false;rw[cmpI_eq (by omega)];rfl
   ·show decide (cmpI m.1 l.1>0)=false;rw[cmpI_eq (by omega)];rfl
   ·exact decide_eq_true h3
   ·show out.length+1<_;simp only[List.length_cons]at hl;omega
   ·refine (hj k).trans ?_
    rw[mg,if_neg h1,if_neg h2,if_neg h3]
    simp[fc]
theorem sum_F {a b:NF}{N M:Nat}(ha:Wt a N)(hb:Wt b M)(hN:N+M≤1099511627776):linear_sum.F () (fc a,fc b,())=some ((),(fc (mg a b),()),()):=by
 have h1:=ha.len
 have h2:=hb.len
 obtain⟨j,hj⟩:=merge_loop a b N M [] ha hb (by omega) (by simp only[List.length_nil];omega)
 have hm:linear_merge_Mono.F () (fc a,fc b,(),(),())=some ((),(fc (mg a b),()),()):=linear_merge_Mono.of () _ _ () () _ fun G=>⟨0+j,hj 0⟩
 exact linear_sum.of () _ _ _ fun G=>⟨0,st hm rfl⟩
theorem half {n:Nat}(h:n<4611686018427387904):IntKind.i64.wrap (Int.tdiv (n:Int) 2)=((n/2:Nat):Int):=by
 rw[Int.tdiv_eq_ediv_of_nonneg (by omega),IntWalk.i64_in _ (by omega)];omega
theorem Norm_Fr:∀(n:Nat) {f:Dt40} {x:NF} {N:Nat},Rf f x N→N≤1099511627776→f.length<n→linear_Norm.Fr n (f,())=some (fc (nrm x),()):=by
 intro n
 induction n with
 |zero=>intro f x N _ _ h;omega
 |succ n ih=>
  intro f x N h hN hl
  refine linear_Norm.of 0 n f ?_
  have hlen:=h.len
  have hw:=h.wt.len
  match f,x,h with
  |[],[],h=>rw[nrm_nil];exact rfl
  |[(v,r)],[(_,q)],h=>
   cases h with
   |cons hr t hle=>
    rw[nrm_one]
    refine st (x:=ratio_Sign.F (r,())) (hr.Sign_F (by omega)) ?_
    by_cases h0:q=0
    ·rw [if_pos h0]
     exact yes (by subst h0;rfl) rfl
    ·rw [if_neg h0]
     exact no (beq_eq_false_iff_ne.2 fun e=>h0 (num_zero.1 (sgn_zero.1 e))) (st (x:=ratio_Norm.F (r,())) (hr.Norm_F (by omega)) rfl)
  |m1::m2::f,y1::y2::x,h=>
   have h2:2≤(y1::y2::x).length:=by simp
   rw[nrm_more h2]
   obtain⟨N1,N2,i1,i2,i3⟩:=h.split ((y1::y2::x).length/2)
   have e:=half (n:=(m1::m2::f).length) (by omega)
   rw[hlen]at e
   have k1:=ih i1 (by omega) (by rw[List.length_take];omega)
   have k2:=ih i2 (by omega) (by rw[List.length_drop];omega)
   have k3:=sum_F i1.wt.nrm i2.wt.nrm (by omega)
   have e':IntKind.i64.wrap (Int.tdiv (((m1::m2::f).length:Nat):Int) 2)=(((y1::y2::x).length/2:Nat):Int):=by rw[hlen];exact e
   have k1':linear_Norm.Fr n (List.take (Int.toNat (IntKind.i64.wrap (Int.tdiv (((m1::m2::f).length:Nat):Int) 2))) (m1::m2::f),())=some (fc (nrm ((y1::y2::x).take ((y1::y2::x).length/2))),()):=by rw[e'];exact k1
   have k2':linear_Norm.Fr n (List.drop (Int.toNat (IntKind.i64.wrap (Int.tdiv (((m1::m2::f).length:Nat):Int) 2))) (m1::m2::f),())=some (fc (nrm ((y1::y2::x).drop ((y1::y2::x).length/2))),()):=by rw[e'];exact k2
   have hb:(decide (0≤IntKind.i64.wrap (Int.tdiv (((m1::m2::f).length:Nat):Int) 2))&&decide (IntKind.i64.wrap (Int.tdiv (((m1::m2::f).length:Nat):Int) 2)≤((m1::m2::f).length:Int)))=true:=by
    rw[e',hlen,decide_eq_true (by omega),decide_eq_true (by omega)];rfl
   exact yes hb (st k1' (yes hb (st k2' (st k3 rfl))))
theorem Rf.Norm_F {f x N}(h:Rf f x N)(hN:N≤1099511627776):linear_Norm.F (f,())=some (fc (nrm x),()):=by
 show linear_Norm.Fr (List.length f+1) (f,())=_
 exact Norm_Fr _ h hN (Nat.lt_succ_self _)
def scl (c:Rat)(x:NF):NF:=x.map fun m=>(m.1,c*m.2)
theorem scl_len (c:Rat)(x:NF):(scl c x).length=x.length:=List.length_map _
theorem Nf.scl {c:Rat}(hc:c≠0){x:NF}(h:Nf x):Nf (scl c x):=by
 refine⟨List.pairwise_map.2 h.up,fun m hm=> ?_⟩
 obtain⟨l,hl,rfl⟩:=List.mem_map.1 hm
 intro e
 rcases Rat.mul_eq_zero.1 e with e|e
 ·exact hc e
 ·exact h.nz l hl e
theorem Wt.scl {c:Rat}{n:Nat}(hc:Ft c n):∀{x:NF} {N:Nat},Wt x N→Wt (scl c x) (N+x.length*n):=by
 intro x N h
 induction h with
 |nil=>exact .nil
 |cons h t h' ih=>
  refine .cons (hc.mul h) ih ?_
  simp only[List.length_cons]
  rw[Nat.succ_mul];omega
theorem Scale_loop {c:Rat}{r:Dt47}{n:Nat}(hr:Rt r c n){x:NF}(hx:∀m∈x,Ft m.2 n)(hn:n+n<70368744177664)(hl:x.length<4611686018427387904):
  ∃j,∀k,linear_Scale.L5 (k+j) r.1.1 r.1.2 r.2 (fc x) (x.length:Int) 0=some (fc (scl c x),()):=by
 refine allR (L:=fun k i=>linear_Scale.L5 k r.1.1 r.1.2 r.2 ((fc (scl c x)).take i++(fc x).drop i) (x.length:Int) (i:Int)) (n:=x.length) (fun k=> ?_) (fun i hi k=> ?_)
 ·refine (linear_Scale.L5_succ _ _ _ _ _ _ _).trans (geb (Nat.lt_irrefl _) ?_)
  rw[List.take_of_length_le (by rw[fc_len,scl_len];exact Nat.le_refl _),List.drop_of_length_le (by rw[fc_len];exact Nat.le_refl _),List.append_nil]
 ·have hlen:((fc (scl c x)).take i++(fc x).drop i).length=x.length:=by
   rw[List.length_append,List.length_take,List.length_drop,fc_len,scl_len,fc_len];omega
  have hil:i<((fc (scl c x)).take i++(fc x).drop i).length:=by omega
  have hti:((fc (scl c x)).take i).length=i:=by rw[List.length_take,fc_len,scl_len];omega
  have hg:((fc (scl c x)).take i++(fc x).drop i)[i]=(x[i].1,rcan x[i].2):=by
   rw[List.getElem_append_right (by omega)]
   simp only[hti,List.getElem_drop,Nat.sub_self,Nat.add_zero]
   exact fc_get x _
  have e1:=(getD_at _ zt73 hil).trans hg
  have hm:ratio_Mul.F (r,(List.getD ((fc (scl c x)).take i++(fc x).drop i) (Int.toNat (i:Int)) zt73).2,())=some (rcan (c*x[i].2),()):=by
   rw[e1];exact hr.Mul_F (hx _ (List.getElem_mem hi)).rt hn
  refine(linear_Scale.L5_succ _ _ _ _ _ _ _).trans (ltb hi (inb hil (st hm (inb hil ?_))))
  have hset:List.set ((fc (scl c x)).take i++(fc x).drop i) (Int.toNat (i:Int)) ((List.getD ((fc (scl c x)).take i++(fc x).drop i) (Int.toNat (i:Int)) zt73).1,rcan (c*x[i].2))=(fc (scl c x)).take (i+1)++(fc x).drop (i+1):=by
   rw[e1,Int.toNat_natCast,List.set_append_right _ _ (by omega),hti,Nat.sub_self,drop_at (fc x) (by rw[fc_len];exact hi)]
   rw[List.take_add_one,List.getElem?_eq_getElem (by rw[fc_len,scl_len];exact hi)]
   simp[fc,scl]
  show linear_Scale.L5 k r.1.1 r.1.2 r.2 (List.set ((fc (scl c x)).take i++(fc x).drop i) (Int.toNat (i:Int)) ((List.getD ((fc (scl c x)).take i++(fc x).drop i) (Int.toNat (i:Int)) zt73).1,rcan (c*x[i].2))) (x.length:Int) (IntKind.i64.wrap ((i:Int)+1))=_
  rw[hset,up1 (by omega)]
theorem Rf.Scale_F {f x N}(h:Rf f x N){c:Rat}{r:Dt47}{n:Nat}(hr:Rt r c n)(hc:c≠0)(hN:N+n≤1099511627776):linear_Scale.F (r,f,())=some (fc (scl c (nrm x)),()):=by
 have hw:=h.wt.nrm
 have hl:=hw.len
 obtain⟨j,hj⟩:=Scale_loop (hr.mono (show n≤N+n by omega)) (x:=nrm x) (fun m hm=>(hw.mem m hm).mono (by omega)) (by omega) (by omega)
 refine linear_Scale.of (0+j) r f (st (hr.Sign_F (by omega)) (no (beq_eq_false_iff_ne.2 fun e=>hc (num_zero.1 (sgn_zero.1 e))) (st (h.Norm_F (by omega)) ?_)))
 show linear_Scale.L5 (0+j) r.1.1 r.1.2 r.2 (fc (nrm x)) ((fc (nrm x)).length:Int) 0=_
 rw[fc_len];exact hj 0
end Go.Fx.Tryz
