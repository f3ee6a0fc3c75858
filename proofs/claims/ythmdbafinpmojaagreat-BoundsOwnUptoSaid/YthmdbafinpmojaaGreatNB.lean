import Derived.IntWalk
import Derived.Test.YthmdbafinpmojaaGreatEvA
import Derived.Test.YthmdbafinpmojaaGreatW08b
set_option linter.unusedVariables false
set_option linter.unusedSimpArgs false
namespace Go.Fx.sZ
open Go Go.Fx
def aU (xs:List Int):Prop:=∀x∈xs,0≤x∧x<4294967296
def val:List Int→Int
 |[]=>0
 |x::r=>x+4294967296*val r
def pw (n:Nat):Int:=4294967296^n
theorem Dc:pw 0=1:=rfl
theorem iY (n:Nat):pw (n+1)=4294967296*pw n:=by unfold pw;rw[Int.pow_succ,Int.mul_comm]
theorem kS (n:Nat):0<pw n:=by
 induction n with
 |zero=>decide
 |succ n ih=>rw[iY];omega
theorem QU (m n:Nat):pw (m+n)=pw m*pw n:=by unfold pw;rw[Int.pow_add]
theorem rZ {m n:Nat}(h:m≤n):pw m≤pw n:=by
 obtain⟨k,rfl⟩:=Nat.exists_eq_add_of_le h
 clear h
 induction k with
 |zero=>exact Int.le_refl _
 |succ k ih=>rw[←Nat.add_assoc,iY];have:=kS (m+k);omega
theorem iZ:val []=0:=rfl
theorem fM (x:Int)(r:List Int):val (x::r)=x+4294967296*val r:=rfl
theorem aU.nil:aU []:=by intro x hx;cases hx
theorem aU.cons {x:Int}{r:List Int}(h:0≤x∧x<4294967296)(hr:aU r):aU (x::r):=by
 intro y hy
 cases hy with
 |head=>exact h
 |tail _ hy=>exact hr y hy
theorem aU.head {x:Int}{r:List Int}(h:aU (x::r)):0≤x∧x<4294967296:=h x (by simp)
theorem aU.tail {x:Int}{r:List Int}(h:aU (x::r)):aU r:=fun y hy=>h y (by simp[hy])
theorem aU.app {a b:List Int}(h:aU a)(g:aU b):aU (a++b):=by
 intro x hx
 rcases List.mem_append.1 hx with hx|hx
 ·exact h x hx
 ·exact g x hx
theorem aU.take {a:List Int}(h:aU a)(n:Nat):aU (a.take n):=fun x hx=>h x (List.mem_of_mem_take hx)
theorem aU.drop {a:List Int}(h:aU a)(n:Nat):aU (a.drop n):=fun x hx=>h x (List.mem_of_mem_drop hx)
theorem aU.xA (n:Nat):aU (List.replicate n 0):=by
 intro x hx
 rw[(List.mem_replicate.1 hx).2]
 decide
theorem aU.get {a:List Int}(h:aU a)(i:Nat):0≤a.getD i 0∧a.getD i 0<4294967296:=by
 by_cases hi:i<a.length
 ·have:a.getD i 0=a[i]:=by simp[List.getD,hi]
  rw[this]
  exact h _ (List.getElem_mem hi)
 ·have:a.getD i 0=0:=by simp[List.getD,hi]
  rw[this];decide
theorem aU.set {a:List Int}(h:aU a)(i:Nat){v:Int}(hv:0≤v∧v<4294967296):aU (a.set i v):=by
 intro x hx
 rcases List.mem_or_eq_of_mem_set hx with hx|rfl
 ·exact h x hx
 ·exact hv
theorem bn {a:List Int}(h:aU a):0≤val a:=by
 induction a with
 |nil=>exact Int.le_refl _
 |cons x r ih=>
  have h1:=h.head
  have h2:=ih h.tail
  rw[fM];omega
theorem jM {a:List Int}(h:aU a):val a<pw a.length:=by
 induction a with
 |nil=>decide
 |cons x r ih=>
  have h1:=h.head
  have h2:=ih h.tail
  rw[fM,List.length_cons,iY];omega
theorem xB (a b:List Int):val (a++b)=val a+pw a.length*val b:=by
 induction a with
 |nil=>simp[iZ,Dc]
 |cons x r ih=>
  rw[List.cons_append,fM,fM,ih,List.length_cons,iY,Int.mul_add,Int.mul_assoc]
  omega
theorem kK (n:Nat):val (List.replicate n 0)=0:=by
 induction n with
 |zero=>rfl
 |succ n ih=>rw[List.replicate_succ,fM,ih];rfl
theorem iy {a:List Int}{i:Nat}(h:i<a.length):val (a.take (i+1))=val (a.take i)+a.getD i 0*pw i:=by
 rw[List.take_add_one,xB]
 have hl:(a.take i).length=i:=by simp;omega
 rw[hl]
 have:a[i]? =some (a.getD i 0):=by simp[List.getD,h]
 rw[this]
 simp only[Option.toList_some,fM,iZ]
 rw[Int.mul_comm];simp
theorem lJ (a:List Int)(n:Nat)(h:n≤a.length):val a=val (a.take n)+pw n*val (a.drop n):=by
 have h1:=xB (a.take n) (a.drop n)
 rw[List.take_append_drop]at h1
 rw[h1,List.length_take,Nat.min_eq_left h]
theorem wz {a:List Int}{n:Nat}(h:a.length≤n):val (a.take n)=val a:=by rw[List.take_of_length_le h]
theorem pI {a:List Int}{i:Nat}(v:Int)(h:i<a.length):val (a.set i v)=val a+(v-a.getD i 0)*pw i:=by
 induction a generalizing i with
 |nil=>cases h
 |cons x r ih=>
  cases i with
  |zero=>simp[fM,Dc];omega
  |succ i=>
   have h':i<r.length:=by simpa using h
   simp only[List.set_cons_succ,fM,List.getD_cons_succ]
   rw[ih h',iY,Int.mul_add,Int.mul_left_comm]
   omega
theorem fZ {a:List Int}{i j:Nat}{v:Int}(h:i<a.length):(a.set i v).getD j 0=if i=j then v else a.getD j 0:=by
 simp only[List.getD,List.getElem?_set]
 by_cases hij:i=j
 ·subst hij;simp[h]
 ·simp [hij]
theorem iU (n i:Nat):(List.replicate n (0:Int)).getD i 0=0:=by
 simp only[List.getD,List.getElem?_replicate]
 split<;>rfl
theorem m_ {a:List Int}{i:Nat}(h:a.length≤i):a.getD i 0=0:=by
 simp[List.getD,List.getElem?_eq_none h]
def r_ (n:Nat):List Int:=if h:n=0 then[]else((n%4294967296:Nat):Int)::r_ (n/4294967296)
termination_by n
decreasing_by omega
def canon (n:Int):List Int:=r_ n.toNat
theorem IY:r_ 0=[]:=by rw[r_];simp
theorem MC {n:Nat}(h:n≠0):r_ n=((n%4294967296:Nat):Int)::r_ (n/4294967296):=by rw[r_];simp[h]
theorem mD:canon 0=[]:=IY
theorem Eh {x v:Int}(hx:0≤x∧x<4294967296)(hv:0≤v)(h:0<x+v):canon (x+4294967296*v)=x::canon v:=by
 obtain⟨a,rfl⟩:=Int.eq_ofNat_of_zero_le hx.1
 obtain⟨b,rfl⟩:=Int.eq_ofNat_of_zero_le hv
 unfold canon
 have e:((a:Int)+4294967296*(b:Int)).toNat=a+4294967296*b:=by omega
 rw[e,MC (by omega),Int.toNat_natCast]
 have e1:(a+4294967296*b)%4294967296=a:=by omega
 have e2:(a+4294967296*b)/4294967296=b:=by omega
 rw[e1,e2]
def Nrm (a:List Int):Prop:=aU a∧(a.length=0∨a.getD (a.length-1) 0≠0)
theorem Z8 {a:List Int}(h:Nrm a):canon (val a)=a:=by
 obtain⟨hl,hz⟩:=h
 induction a with
 |nil=>exact mD
 |cons x r ih=>
  have h1:=hl.head
  have h2:=bn hl.tail
  cases r with
  |nil=>
   have hx:x≠0:=by simpa using hz
   have:=Eh h1 (Int.le_refl 0) (by omega)
   rw[fM,iZ,this,mD]
  |cons y s=>
   have hr:canon (val (y::s))=y::s:=ih hl.tail (Or.inr (by
    rcases hz with hz|hz
    ·simp at hz
    ·simpa using hz))
   have Bo:val (y::s)≠0:=fun h0=>by rw[h0,mD]at hr;cases hr
   rw[fM,Eh h1 h2 (by omega),hr]
theorem Ei (n:Nat):aU (r_ n)∧val (r_ n)=n∧((r_ n).length=0∨(r_ n).getD ((r_ n).length-1) 0≠0):=by
 induction n using Nat.strongRecOn with
 |ind n ih=>
  by_cases h:n=0
  ·subst h;rw[IY];exact⟨aU.nil,rfl,Or.inl rfl⟩
  ·obtain ⟨h1,h2,h3⟩:=ih (n/4294967296) (by omega)
   rw[MC h]
   refine⟨aU.cons (by omega) h1,by rw[fM,h2];omega,Or.inr ?_⟩
   rcases h3 with h3|h3
   ·have h4:r_ (n/4294967296)=[]:=List.length_eq_zero_iff.1 h3
    rw[h4]at h2⊢
    rw[iZ]at h2
    simp;omega
   ·generalize r_ (n/4294967296)=l at h3⊢
    cases l with
    |nil=>simp at h3
    |cons y s=>simpa using h3
theorem jJ (n:Int):aU (canon n):=(Ei n.toNat).1
theorem fA {n:Int}(h:0≤n):val (canon n)=n:=by
 unfold canon;rw[(Ei n.toNat).2.1];omega
theorem ru (n:Int):Nrm (canon n):=⟨jJ n,(Ei n.toNat).2.2⟩
theorem Z9 {a b:Int}(ha:0≤a)(hb:0≤b)(h:canon a=canon b):a=b:=by
 rw[←fA ha,←fA hb,h]
theorem QV {a b:Int}(ha:0≤a)(hb:0≤b):canon a=canon b↔a=b:=⟨Z9 ha hb,fun h=>by rw[h]⟩
theorem F8 {a:List Int}(h:Nrm a)(h0:a.length≠0):pw (a.length-1)≤val a:=by
 obtain⟨hl,hz⟩:=h
 have hz:=hz.resolve_left h0
 have h1:=iy (a:=a) (i:=a.length-1) (by omega)
 rw[Nat.sub_add_cancel (by omega),List.take_length]at h1
 have h2:=bn (hl.take (a.length-1))
 have h3:=hl.get (a.length-1)
 have h4:=kS (a.length-1)
 have h5:1*pw (a.length-1)≤a.getD (a.length-1) 0*pw (a.length-1):=Int.mul_le_mul_of_nonneg_right (by omega) (by omega)
 omega
theorem oK {n:Int}{k:Nat}(hn:0≤n)(h:n<pw k):(canon n).length≤k:=by
 by_cases h0:(canon n).length=0
 ·omega
 ·have h1:=F8 (ru n) h0
  rw[fA hn]at h1
  by_cases hk:k≤(canon n).length-1
  ·have:=rZ hk;omega
  ·omega
theorem QW {n:Int}(hn:0≤n):n<pw (canon n).length:=by
 have:=jM (jJ n)
 rwa[fA hn]at this
theorem NY {n:Int}(hn:0≤n):canon n=[]↔n=0:=by
 rw[←mD];exact QV hn (Int.le_refl 0)
theorem f_ {n:Int}(hn:0≤n):(canon n).length=0↔n=0:=by
 rw[List.length_eq_zero_iff];exact NY hn
theorem jr {a:List Int}(h:aU a):(canon (val a)).length≤a.length:=oK (bn h) (jM h)
theorem BN {a:List Int}(h:∀j,a.getD j 0=0):val a=0:=by
 induction a with
 |nil=>rfl
 |cons x r ih=>
  have h1:x=0:=by simpa using h 0
  rw[fM,ih (fun j=>by simpa using h (j+1)),h1];rfl
theorem uj {a:List Int}{n:Nat}(h:aU a)(hn:n≤a.length)(hz:∀j,n≤j→a.getD j 0=0)(hl:n=0∨a.getD (n-1) 0≠0):a.take n=canon (val a):=by
 have h1:=lJ a n hn
 have h2:val (a.drop n)=0:=BN fun j=>by
  have:=hz (n+j) (by omega)
  simpa[List.getD,List.getElem?_drop]using this
 rw[h2,Int.mul_zero,Int.add_zero]at h1
 rw[h1]
 refine(Z8 ⟨h.take n,?_⟩).symm
 have hlen:(a.take n).length=n:=by simp;omega
 rw[hlen]
 rcases hl with hl|hl
 ·exact Or.inl hl
 ·refine (Nat.eq_zero_or_pos n).imp id fun hp=> ?_
  have:(a.take n).getD (n-1) 0=a.getD (n-1) 0:=by
   simp only[List.getD,List.getElem?_take]
   rw[if_pos (by omega)]
  rwa[this]
theorem F9 {a b:List Int}{i:Nat}(ha:aU a)(hb:aU b)(h:∀j,i<j→a.getD j 0=b.getD j 0)(dX:a.getD i 0<b.getD i 0):val a<val b:=by
 induction a generalizing b i with
 |nil=>
  cases b with
  |nil=>simp at dX
  |cons y s=>
   rw[iZ,fM]
   have h1:=hb.head
   have h2:=bn hb.tail
   cases i with
   |zero=>simp at dX;omega
   |succ i=>
    have:=ajD s i hb.tail (by simpa using dX)
    omega
 |cons x r ih=>
  have h1:=ha.head
  cases b with
  |nil=>
   have:=ha.get i
   have h0:([]:List Int).getD i 0=0:=rfl
   omega
  |cons y s=>
   have h2:=hb.head
   rw[fM,fM]
   cases i with
   |zero=>
    have:val r=val s:=val_congr fun j=>by simpa using h (j+1) (by omega)
    simp at dX;omega
   |succ i=>
    have:=ih ha.tail hb.tail (i:=i) (fun j hj=>by simpa using h (j+1) (by omega)) (by simpa using dX)
    omega
where
 ajD (s:List Int) (i:Nat) (hs:aU s) (h:0<s.getD i 0):0<val s:=by
  induction s generalizing i with
  |nil=>simp at h
  |cons y s ih=>
   have h2:=hs.head
   have h3:=bn hs.tail
   rw[fM]
   cases i with
   |zero=>simp at h;omega
   |succ i=>have:=ih i hs.tail (by simpa using h);omega
 val_congr {r s:List Int} (h:∀j,r.getD j 0=s.getD j 0):val r=val s:=by
  induction r generalizing s with
  |nil=>rw[iZ,BN fun j=>(h j).symm.trans (by simp)]
  |cons x r ih=>
   cases s with
   |nil=>rw[iZ];exact BN fun j=>(h j).trans (by simp)
   |cons y s=>
    have h0:x=y:=by simpa using h 0
    rw[fM,fM,ih fun j=>by simpa using h (j+1),h0]
theorem Yi {r s:List Int}(h:∀j,r.getD j 0=s.getD j 0):val r=val s:=F9.val_congr h
theorem SA (n:Int):IntKind.u32.wrap n=n%4294967296:=IntKind.wrap_u32 n
theorem w64 (n:Int):IntKind.u64.wrap n=n%18446744073709551616:=by
 simp[IntKind.wrap,IntKind.bits,IntKind.signed]
theorem aga {n:Int}(h: -9223372036854775808≤n∧n≤9223372036854775807):IntKind.i64.wrap n=n:=IntWalk.i64_in n h
theorem BO {n:Nat}{a:Nat}(h:a<2^n):(BitVec.ofInt n (a:Int)).toNat=a:=by
 rw[BitVec.toNat_ofInt]
 have:((a:Int)%((2^n:Nat):Int))=((a%2^n:Nat):Int):=by rw[Int.natCast_emod]
 rw[this,Int.toNat_natCast,Nat.mod_eq_of_lt h]
theorem arD {a b:Nat}(ha:a<2^64)(hb:b<2^64):eP .or .u64 a b=((a|||b:Nat):Int):=by
 have h:=Nat.or_lt_two_pow ha hb
 show IntKind.u64.wrap ((BitVec.ofInt 64 (a:Int)|||BitVec.ofInt 64 (b:Int)).toNat:Int)=_
 rw[BitVec.toNat_or,BO ha,BO hb,w64];omega
theorem acM {a b:Nat}(ha:a<2^32)(hb:b<2^32):eP .or .u32 a b=((a|||b:Nat):Int):=by
 have h:=Nat.or_lt_two_pow ha hb
 show IntKind.u32.wrap ((BitVec.ofInt 32 (a:Int)|||BitVec.ofInt 32 (b:Int)).toNat:Int)=_
 rw[BitVec.toNat_or,BO ha,BO hb,SA];omega
theorem acN {a b:Nat}(ha:a<2^32)(hb:b<2^32):eP .and .u32 a b=((a&&&b:Nat):Int):=by
 have h:=Nat.and_lt_two_pow a hb
 show IntKind.u32.wrap ((BitVec.ofInt 32 (a:Int)&&&BitVec.ofInt 32 (b:Int)).toNat:Int)=_
 rw[BitVec.toNat_and,BO ha,BO hb,SA];omega
theorem acO {a b:Int}(s:Nat)(z:Int)(ha:a=2^s*z)(h0:0≤z)(hb:0≤b∧b<2^s)(h:a+b<18446744073709551616):eP .or .u64 a b=a+b:=by
 obtain⟨m,rfl⟩:=Int.eq_ofNat_of_zero_le h0
 obtain⟨n,rfl⟩:=Int.eq_ofNat_of_zero_le hb.1
 have e:a=((2^s*m:Nat):Int):=by rw[ha];push_cast;rfl
 subst e
 have hn:n<2^s:=by have:=hb.2;exact_mod_cast this
 rw[arD (by omega) (by omega),←Nat.two_pow_add_eq_or_of_lt hn]
 push_cast;rfl
theorem UQ {a b:Int}(s:Nat)(z:Int)(ha:a=2^s*z)(h0:0≤z)(hb:0≤b∧b<2^s)(h:a+b<4294967296):eP .or .u32 a b=a+b:=by
 obtain⟨m,rfl⟩:=Int.eq_ofNat_of_zero_le h0
 obtain⟨n,rfl⟩:=Int.eq_ofNat_of_zero_le hb.1
 have e:a=((2^s*m:Nat):Int):=by rw[ha];push_cast;rfl
 subst e
 have hn:n<2^s:=by have:=hb.2;exact_mod_cast this
 rw[acM (by omega) (by omega),←Nat.two_pow_add_eq_or_of_lt hn]
 push_cast;rfl
theorem H_ {a b:Int}(s:Nat)(z:Int)(ha:a=2^s*z)(h0:0≤z)(hb:0≤b∧b<2^s)(h:a+b<4294967296):eP .or .u32 b a=a+b:=by
 obtain⟨m,rfl⟩:=Int.eq_ofNat_of_zero_le h0
 obtain⟨n,rfl⟩:=Int.eq_ofNat_of_zero_le hb.1
 have e:a=((2^s*m:Nat):Int):=by rw[ha];push_cast;rfl
 subst e
 have hn:n<2^s:=by have:=hb.2;exact_mod_cast this
 rw[acM (by omega) (by omega),Nat.or_comm,←Nat.two_pow_add_eq_or_of_lt hn]
 push_cast;rfl
theorem Z_ {a:Int}(h:0≤a∧a<4294967296):eP .and .u32 a 1=a%2:=by
 obtain⟨n,rfl⟩:=Int.eq_ofNat_of_zero_le h.1
 have:=acN (a:=n) (b:=1) (by omega) (by omega)
 rw[Nat.and_one_is_mod]at this
 simpa using this
theorem MF (k:IntKind)(a:Int)(n:Nat)(h:n≤k.bits):oV k a n=a/2^n:=by
 unfold oV
 rw[Int.toNat_natCast,Nat.min_eq_left h,Int.fdiv_eq_ediv_of_nonneg _ (Int.le_of_lt (Int.pow_pos (by decide)))]
theorem Ia (k:IntKind)(a:Int)(n:Nat)(h:n≤k.bits):yP k a n=k.wrap (a*2^n):=by
 unfold yP
 rw[Int.toNat_natCast,Nat.min_eq_left h]
theorem pV (a:Int):oV .u64 a 32=a/4294967296:=MF .u64 a 32 (by decide)
theorem MG (a:Int):yP .u64 a 32=a*4294967296%18446744073709551616:=(Ia .u64 a 32 (by decide)).trans (w64 _)
theorem reach {σ τ R:Type}(L:Nat→σ→Option R)(M:Nat→τ→Option R)(Inv:σ→Prop)(m:σ→Nat)(Post:τ→Prop)
  (step:∀s,Inv s→(∃s',Inv s'∧m s'<m s∧∃j,∀k,L (k+j) s=L k s')∨(∃t,Post t∧∃j,∀k,L (k+j) s=M k t)):
  ∀s,Inv s→∃t,Post t∧∃j,∀k,L (k+j) s=M k t:=by
 have key:∀n s,m s=n→Inv s→∃t,Post t∧∃j,∀k,L (k+j) s=M k t:=by
  intro n
  induction n using Nat.strongRecOn with
  |ind n ih=>
   intro s hm hs
   rcases step s hs with⟨s',h',dX,j,hj⟩|h
   ·obtain ⟨t,ht,i,hi⟩:=ih (m s') (by omega) s' rfl h'
    refine⟨t,ht,i+j,fun k=> ?_⟩
    rw[←Nat.add_assoc,hj,hi]
   ·exact h
 exact fun s hs=>key _ s rfl hs
theorem ends {σ R:Type}(L:Nat→σ→Option R)(r:R)(Inv:σ→Prop)(m:σ→Nat)
  (step:∀s,Inv s→(∃s',Inv s'∧m s'<m s∧∃j,∀k,L (k+j) s=L k s')∨(∃j,∀k,L (k+j) s=some r)):
  ∀s,Inv s→∃j,∀k,L (k+j) s=some r:=by
 intro s hs
 obtain⟨t,_,h⟩:=reach L (fun _ (_:Unit)=>some r) Inv m (fun _=>True) (fun s hs=>(step s hs).imp id fun h=>⟨(),trivial,h⟩) s hs
 exact h
theorem up {σ R:Type}(L:Nat→Nat×σ→Option R)(r:R)(Inv:Nat→σ→Prop)(n:Nat)
  (step:∀i s,i<n→Inv i s→∃s',Inv (i+1) s'∧∃j,∀k,L (k+j) (i,s)=L k (i+1,s')) (last:∀s,Inv n s→∃j,∀k,L (k+j) (n,s)=some r):
  ∀i s,i≤n→Inv i s→∃j,∀k,L (k+j) (i,s)=some r:=by
 intro i s hi hs
 refine ends L r (fun x=>x.1≤n∧Inv x.1 x.2) (fun x=>n-x.1) (fun x hx=> ?_) (i,s) ⟨hi,hs⟩
 obtain⟨i,s⟩:=x
 obtain⟨h1,h2⟩:=hx
 rcases Nat.lt_or_ge i n with h|h
 ·obtain ⟨s',h3,h4⟩:=step i s h h2
  exact .inl ⟨(i+1,s'),⟨h,h3⟩,by show n-(i+1)<n-i;omega,h4⟩
 ·obtain rfl:i=n:=Nat.le_antisymm h1 h
  exact .inr (last s h2)
theorem aac {σ τ R:Type}(L:Nat→Nat×σ→Option R)(M:Nat→τ→Option R)(Inv:Nat→σ→Prop)(Post:τ→Prop)(n:Nat)
  (step:∀i s,i<n→Inv i s→∃s',Inv (i+1) s'∧∃j,∀k,L (k+j) (i,s)=L k (i+1,s')) (last:∀s,Inv n s→∃t,Post t∧∃j,∀k,L (k+j) (n,s)=M k t):
  ∀i s,i≤n→Inv i s→∃t,Post t∧∃j,∀k,L (k+j) (i,s)=M k t:=by
 intro i s hi hs
 refine reach L M (fun x=>x.1≤n∧Inv x.1 x.2) (fun x=>n-x.1) Post (fun x hx=> ?_) (i,s) ⟨hi,hs⟩
 obtain⟨i,s⟩:=x
 obtain⟨h1,h2⟩:=hx
 rcases Nat.lt_or_ge i n with h|h
 ·obtain ⟨s',h3,h4⟩:=step i s h h2
  exact .inl ⟨(i+1,s'),⟨h,h3⟩,by show n-(i+1)<n-i;omega,h4⟩
 ·obtain rfl:i=n:=Nat.le_antisymm h1 h
  exact .inr (last s h2)
section
variable {α:Type}
theorem ah3 (p:Prop){d:Decidable p}(a b:α):(bif @decide p d then a else b)= @ite α p d a b:=by by_cases h:p<;>simp[h]
theorem ah4 (x y:Int)(a b:α):(bif x==y then a else b)=if x=y then a else b:=by
 by_cases h:x=y
 ·subst h;simp
 ·have:(x==y)=false:=beq_eq_false_iff_ne.2 h
  rw[this,if_neg h];rfl
theorem amO (x y:Int)(a b:α):(bif x != y then a else b)=if x≠y then a else b:=by
 by_cases h:x=y
 ·subst h;simp
 ·have:(x != y)=true:=bne_iff_ne.2 h
  rw[this,if_pos h];rfl
theorem ah5 (p q:Bool)(a b:α):(bif p&&q then a else b)=bif p then(bif q then a else b)else b:=by cases p<;>rfl
theorem arE (p q:Bool)(a b:α):(bif p||q then a else b)=bif p then a else(bif q then a else b):=by cases p<;>rfl
theorem amP (p:Bool)(a b:α):(bif !p then a else b)=bif p then b else a:=by cases p<;>rfl
theorem J9 (m n:Nat):Nat.blt m n=decide (m<n):=by
 by_cases h:m<n
 ·rw [decide_eq_true h];exact Nat.ble_eq_true_of_le h
 ·rw [decide_eq_false h];exact Bool.eq_false_iff.2 fun g=>h (Nat.le_of_ble_eq_true g)
theorem arF {p:Prop}{d:Decidable p}{a b:α}(h:p): @ite α p d a b=a:=if_pos h
theorem arG {p:Prop}{d:Decidable p}{a b:α}(h:¬p): @ite α p d a b=b:=if_neg h
end
theorem up1 {i:Nat}(h:i<4611686018427387904):IntKind.i64.wrap ((i:Int)+1)=((i+1:Nat):Int):=by rw[IntWalk.i64_in _ (by omega)];omega
theorem dn1 {i:Nat}(h:0<i∧i<4611686018427387904):IntKind.i64.wrap ((i:Int)-1)=((i-1:Nat):Int):=by rw[IntWalk.i64_in _ (by omega)];omega
theorem BB:(∀{α:Type}(p:Prop){d:Decidable p}(a b:α),(bif @decide p d then a else b)=@ite α p d a b)∧(∀{α:Type}(x y:Int)(a b:α),(bif x==y then a else b)=if x=y then a else b)∧(∀{α:Type}(x y:Int)(a b:α),(bif x != y then a else b)=if x≠y then a else b)∧(∀{α:Type}(p q:Bool)(a b:α),(bif p&&q then a else b)=bif p then bif q then a else b else b)∧(∀{α:Type}(p q:Bool)(a b:α),(bif p||q then a else b)=bif p then a else bif q then a else b)∧(∀{α:Type}(p:Bool)(a b:α),(bif !p then a else b)=bif p then b else a)∧(∀m n:Nat,Nat.blt m n=decide (m<n))∧(∀{i:Nat},i<4611686018427387904→IntKind.i64.wrap ((i:Int)+1)=((i+1:Nat):Int))∧(∀{i:Nat},0<i∧i<4611686018427387904→IntKind.i64.wrap ((i:Int)-1)=((i-1:Nat):Int))∧(∀{α:Type}{p:Prop}{d:Decidable p}{a b:α},p→@ite α p d a b=a)∧(∀{α:Type}{p:Prop}{d:Decidable p}{a b:α},¬p→@ite α p d a b=b)∧(∀{α:Type}{x:Decidable True}(t e:α),@ite α True x t e=t)∧(∀{α:Type}{x:Decidable False}(t e:α),@ite α False x t e=e)∧(∀n:Nat,((n:Int)).toNat=n)∧(∀{α β:Type}(a:α)(f:α→Option β),(some a).bind f=f a)∧(∀{α:Type}(a b:α),(a≠b)=¬(a=b))∧((¬True)=False)∧((¬False)=True)∧(∀p:Prop,(True∧p)=p)∧∀p:Prop,(p∧True)=p:=
 ⟨@ah3,@ah4,@amO,@ah5,@arE,@amP,@J9,@up1,@dn1,@arF,@arG,@if_true,@if_false,Int.toNat_natCast,@Option.bind_some,@ne_eq,not_true_eq_false,not_false_eq_true,true_and,and_true⟩
theorem acP {a b:Nat}(ha:a<2^32)(hb:b<2^32):eP .xor .u32 a b=((a ^^^ b:Nat):Int):=by
 have h:=Nat.xor_lt_two_pow ha hb
 show IntKind.u32.wrap ((BitVec.ofInt 32 (a:Int) ^^^ BitVec.ofInt 32 (b:Int)).toNat:Int)=_
 rw[BitVec.toNat_xor,BO ha,BO hb,SA];omega
theorem Yj {x:Nat}(h:x<4294967296):x.testBit 31=decide (2147483648≤x):=by
 rw[Nat.testBit_eq_decide_div_mod_eq]
 apply decide_eq_decide.2
 omega
theorem acQ {x y b d:Nat}(hx:x<4294967296)(hy:y<4294967296)(hb:b≤1)(hd:(d:Int)=((x:Int)-y-b)%4294967296):
  (((4294967295 ^^^ x)&&&y)|||((4294967295 ^^^ (x ^^^ y))&&&d))/2147483648=if x<y+b then 1 else 0:=by
 have hd':d<4294967296:=by omega
 have h1:(4294967295 ^^^ x)<2^32:=Nat.xor_lt_two_pow (by decide) (by omega)
 have h2:(x ^^^ y)<2^32:=Nat.xor_lt_two_pow (by omega) (by omega)
 have h3:(4294967295 ^^^ (x ^^^ y))<2^32:=Nat.xor_lt_two_pow (by decide) h2
 have h4:(((4294967295 ^^^ x)&&&y)|||((4294967295 ^^^ (x ^^^ y))&&&d))<2^32:=Nat.or_lt_two_pow (Nat.and_lt_two_pow _ (by omega)) (Nat.and_lt_two_pow _ (by omega))
 have h5:=Yj (x:=((4294967295 ^^^ x)&&&y)|||((4294967295 ^^^ (x ^^^ y))&&&d)) (by omega)
 rw[Nat.testBit_or,Nat.testBit_and,Nat.testBit_and,Nat.testBit_xor,Nat.testBit_xor,Nat.testBit_xor,Yj hx,Yj hy,Yj hd',show(4294967295:Nat).testBit 31=true by decide]at h5
 generalize ((4294967295 ^^^ x)&&&y)|||((4294967295 ^^^ (x ^^^ y))&&&d)=e at h4 h5⊢
 by_cases hxx:2147483648≤x<;>by_cases hyy:2147483648≤y<;>by_cases hdd:2147483648≤d<;>simp[hxx,hyy,hdd]at h5<;>split<;>omega
end Go.Fx.sZ

namespace Go.Fx.Tryz
open Go Go.Fx Go.Fx.sZ
theorem Af {xs:List Int}(h:aU xs)(hl:xs.length≤70368744177664):dY.F (xs,())=some (canon (val xs),()):=by
 obtain⟨j,hj⟩:=ends (fun k (n:Nat)=>dY.L2 k xs (n:Int)) (canon (val xs),()) (fun n=>n≤xs.length∧∀j,n≤j→xs.getD j 0=0) id (fun n ⟨hn,hz⟩=>by
  by_cases h0:0<n
  ·by_cases h1:xs.getD (n-1) 0=0
   ·refine .inl ⟨n-1,⟨by omega,fun j hj=> ?_⟩,by show n-1<n;omega,1,fun k=> ?_⟩
    ·by_cases hjn:j=n-1
     ·rw [hjn,h1]
     ·exact hz j (by omega)
    ·simp (disch:=omega) only[BB,dY.mX,dY.b2,h1]
   ·refine .inr ⟨1,fun k=> ?_⟩
    simp(disch:=omega) only[BB,dY.mX,dY.b2,h1,uj h hn hz (.inr h1)]
  ·refine .inr ⟨1,fun k=> ?_⟩
   obtain rfl:n=0:=by omega
   simp(disch:=omega) only[BB,dY.mX,dY.b2,uj h hn hz (.inl rfl)]) xs.length ⟨Nat.le_refl _,fun j hj=>m_ hj⟩
 refine dY.of j xs ?_
 simp only[dY.e]
 have:=hj 0
 rwa[Nat.zero_add]at this
theorem BP {xs:List Int}(h:aU xs)(hl:xs.length≤70368744177664):iD.F (xs,())=some (canon (val xs),()):=by
 refine iD.of 0 xs ?_
 have hlen:=jr h
 simp only[iD.e,Af h hl,Option.bind_some,ah4,ah3,ah5,J9]
 generalize canon (val xs)=c at hlen⊢
 by_cases h0:c.length=0
 ·rw [List.length_eq_zero_iff.1 h0];rfl
 ·simp (disch:=omega) only[BB,List.length_replicate,List.take_length,List.drop_replicate,Nat.sub_self,List.replicate_zero,List.append_nil]
theorem acR {a b:List Int}(hl:a.length=b.length)(h:∀j,j<a.length→a.getD j 0=b.getD j 0):a=b:=by
 refine List.ext_getElem hl fun i h1 h2=> ?_
 have:=h i h1
 simpa[List.getD,h1,h2]using this
theorem acS {a:List Int}{i n:Nat}(h:i<n)(hn:n≤a.length):(a.take i++List.replicate (n-i) (0:Int)).set i (a.getD i 0)=a.take (i+1)++List.replicate (n-(i+1)) 0:=by
 have hl:(a.take i).length=i:=by simp;omega
 rw[List.set_append_right i _ (by omega),hl,Nat.sub_self]
 obtain⟨m,hm⟩:∃m,n-i=m+1:=⟨n-i-1,by omega⟩
 rw[hm,List.replicate_succ,List.set_cons_zero,List.take_add_one]
 have:a[i]? =some (a.getD i 0):=by simp[List.getD,(show i<a.length by omega)]
 rw[this]
 have:n-(i+1)=m:=by omega
 rw[this];simp
theorem acT {a:List Int}{i n:Nat}(h:i≤n)(hn:n≤a.length):(a.take i++List.replicate (n-i) (0:Int)).length=n:=by
 simp;omega
theorem rNorm_F {xs:List Int}(h:aU xs)(hl:xs.length≤70368744177664):bH.F (xs,())=some (canon (val xs),()):=by
 have copy:∀n,n≤xs.length→∃j,∀k,bH.L6 (k+j) xs (n:Int) (List.replicate n 0) 0=some (xs.take n,()):=by
  intro n hn
  exact up (fun k (s:Nat×List Int)=>bH.L6 k xs (n:Int) s.2 (s.1:Int)) (xs.take n,()) (fun i s=>s=xs.take i++List.replicate (n-i) 0) n (fun i s hi hs=>by
   subst hs
   have h1:=acT (Nat.le_of_lt hi) hn
   refine⟨_,rfl,1,fun k=> ?_⟩
   simp(disch:=omega) only[BB,bH.mJ,bH.b6,acS hi hn]) (fun s hs=>by
   subst hs
   refine⟨1,fun k=> ?_⟩
   simp(disch:=omega) only[BB,bH.mJ,bH.b6,Nat.sub_self,List.replicate_zero,List.append_nil]) 0 _ (Nat.zero_le _) (by simp)
 obtain⟨j,hj⟩:=ends (fun k (n:Nat)=>bH.L2 k xs (n:Int)) (canon (val xs),()) (fun n=>n≤xs.length∧∀j,n≤j→xs.getD j 0=0) id (fun n ⟨hn,hz⟩=>by
  by_cases h0:0<n
  ·by_cases h1:xs.getD (n-1) 0=0
   ·refine .inl ⟨n-1,⟨by omega,fun j hj=> ?_⟩,by show n-1<n;omega,1,fun k=> ?_⟩
    ·by_cases hjn:j=n-1
     ·rw [hjn,h1]
     ·exact hz j (by omega)
    ·simp (disch:=omega) only[BB,bH.mX,bH.b2,h1]
   ·obtain ⟨j,hj⟩:=copy n hn
    refine .inr ⟨j+1,fun k=> ?_⟩
    rw[←Nat.add_assoc]
    simp(disch:=omega) only[BB,bH.mX,bH.b2,h1,hj,uj h hn hz (.inr h1)]
  ·obtain ⟨j,hj⟩:=copy n hn
   refine .inr ⟨j+1,fun k=> ?_⟩
   rw[←Nat.add_assoc]
   obtain rfl:n=0:=by omega
   simp(disch:=omega) only[BB,bH.mX,bH.b2,hj,uj h hn hz (.inl rfl)]) xs.length ⟨Nat.le_refl _,fun j hj=>m_ hj⟩
 refine bH.of (0+j) xs ?_
 simp only[bH.e]
 exact hj 0
theorem Norm_F {xs:List Int}(h:aU xs)(hl:xs.length≤70368744177664):uX.F (xs,())=some (canon (val xs),()):=by
 refine uX.of 0 xs ?_
 simp only[uX.e,BP h hl,Option.bind_some]
theorem QY {x y:Int}(hx:0≤x∧x<4294967296)(hy:0≤y∧y<4294967296):eP .or .u64 (y*4294967296%18446744073709551616) x=x+4294967296*y:=by
 have e:y*4294967296%18446744073709551616=4294967296*y:=by omega
 rw[e,acO 32 y (by omega) hy.1 (by omega) (by omega)];omega
theorem Gf {xs:List Int}(h:∀x∈xs,(Lit.int .u32 x).wf=true):aU xs:=by
 intro x hx
 have:=h x hx
 simp[Lit.wf,IntKind.min,IntKind.max,IntKind.bits,IntKind.signed]at this
 omega
def qy (x y:Int):Int:=if x<y then -1 else if y<x then 1 else 0
theorem wB {x y:Int}(h:x<y):qy x y= -1:=if_pos h
theorem J_ {x y:Int}(h:y<x):qy x y=1:=by unfold qy;rw[if_neg (by omega),if_pos h]
theorem Ko {x y:Int}(h:x=y):qy x y=0:=by unfold qy;rw[if_neg (by omega),if_neg (by omega)]
theorem MH (m:Nat):((m+1:Nat):Int)-1=(m:Int):=by omega
theorem acU:((0:Nat):Int)-1= -1:=rfl
theorem dL (a:List Int)(i:Nat):val (a.take (i+1))=val (a.take i)+a.getD i 0*pw i:=by
 by_cases h:i<a.length
 ·exact iy h
 ·rw [List.take_of_length_le (by omega),List.take_of_length_le (by omega),m_ (by omega)];omega
theorem oM {c:List Int}{i:Nat}{v carry carry' x S:Int}(hi:i<c.length)(hv:v+4294967296*carry'=c.getD i 0+x+carry)(hI:val c+carry*pw i=S):
  val (c.set i v)+carry'*pw (i+1)=S+x*pw i:=by
 rw[pI v hi,iY,←hI]
 have e:v=c.getD i 0+x+carry-4294967296*carry':=by omega
 rw[e]
 simp only[Int.sub_mul,Int.add_mul,Int.mul_assoc,Int.mul_left_comm]
 omega
theorem su {b:List Int}{n:Nat}(hb:aU b)(h:val b<pw n):val (b.take n)=val b:=by
 by_cases hn:n≤b.length
 ·have h1:=lJ b n hn
  have h2:=bn (hb.drop n)
  have h3:=bn (hb.take n)
  have h4:=kS n
  have h5:val (b.drop n)=0:=by
   by_cases h0:val (b.drop n)=0
   ·exact h0
   ·have:pw n*1≤pw n*val (b.drop n):=Int.mul_le_mul_of_nonneg_left (by omega) (by omega)
    omega
  rw[h5]at h1;omega
 ·exact wz (by omega)
theorem Cmp_F {a b:List Int}(ha:aU a)(hb:aU b)(la:a.length≤70368744177664)(lb:b.length≤70368744177664):iM.F (a,b,())=some (qy (val a) (val b),()):=by
 have ca:=ru (val a)
 have cb:=ru (val b)
 have va:=fA (bn ha)
 have vb:=fA (bn hb)
 have na:=jr ha
 have nb:=jr hb
 have ea:iM.F (a,b,())=iM.F (a,b,()):=rfl
 suffices h:∃k,iM.e (iM.L7 k) a b=some (qy (val a) (val b),())by obtain⟨k,hk⟩:=h;exact iM.of k a b hk
 simp only[iM.e,Af ha la,Af hb lb,Option.bind_some]
 rw[←va,←vb,va,vb]
 generalize canon (val a)=x at ca va na⊢
 generalize canon (val b)=y at cb vb nb⊢
 rw[←va,←vb]
 have hx:=jM ca.1
 have hy:=jM cb.1
 by_cases hl:x.length=y.length
 ·obtain ⟨j,hj⟩:=ends (fun k (n:Nat)=>iM.L7 k x y ((n:Int)-1)) (qy (val x) (val y),()) (fun n=>n≤x.length∧∀j,n≤j→x.getD j 0=y.getD j 0) id (fun n ⟨hn,hz⟩=>by
   rcases n with _|m
   ·refine .inr ⟨1,fun k=> ?_⟩
    simp(disch:=omega) only[BB,iM.jA,iM.b7,acU,Ko (Yi fun j=>hz j (Nat.zero_le j))]
   ·by_cases h1:x.getD m 0=y.getD m 0
    ·refine .inl ⟨m,⟨by omega,fun j hj=> ?_⟩,Nat.lt_succ_self m,1,fun k=> ?_⟩
     ·by_cases hjm:j=m
      ·rw [hjm,h1]
      ·exact hz j (by omega)
     ·simp (disch:=omega) only[BB,iM.jA,iM.b7,MH,h1,IntWalk.i64_in]
    ·refine .inr ⟨1,fun k=> ?_⟩
     rcases Int.lt_or_gt_of_ne h1 with h2|h2
     ·simp (disch:=omega) only[BB,iM.jA,iM.b7,MH,wB (F9 ca.1 cb.1 (fun j hj=>hz j hj) h2)]
     ·simp (disch:=omega) only[BB,iM.jA,iM.b7,MH,J_ (F9 cb.1 ca.1 (fun j hj=>(hz j hj).symm) h2)]) x.length ⟨Nat.le_refl _,fun j hj=>by rw[m_ hj,m_ (by omega)]⟩
  refine⟨0+j,?_⟩
  simp(disch:=omega) only[BB,IntWalk.i64_in]
  exact hj 0
 ·refine ⟨0,?_⟩
  by_cases dX:x.length<y.length
  ·have h1:=F8 cb (by omega)
   have h2:=rZ (m:=x.length) (n:=y.length-1) (by omega)
   simp(disch:=omega) only[BB,wB (show val x<val y by omega)]
  ·have h1:=F8 ca (by omega)
   have h2:=rZ (m:=y.length) (n:=x.length-1) (by omega)
   simp(disch:=omega) only[BB,J_ (show val y<val x by omega)]
theorem NZ {a:List Int}(ha:aU a)(i:Nat):oG.F (a,(i:Int),())=some (a.getD i 0,()):=by
 refine oG.of 0 a i ?_
 have h:=ha.get i
 by_cases hi:i<a.length
 ·simp (disch:=omega) only[BB,oG.e,IntWalk.u64_in]
 ·simp (disch:=omega) only[BB,oG.e,m_ (show a.length≤i by omega)]
theorem rCmp_F {a b:List Int}(ha:aU a)(hb:aU b)(la:a.length≤70368744177664)(lb:b.length≤70368744177664):fQ.F (a,b,())=some (qy (val a) (val b),()):=by
 have loop:∀n,n≤70368744177664→(∀j,n≤j→a.getD j 0=b.getD j 0)→∃j,∀k,fQ.L5 (k+j) a b ((n:Int)-1)=some (qy (val a) (val b),()):=by
  intro n hn hz
  refine ends (fun k (n:Nat)=>fQ.L5 k a b ((n:Int)-1)) (qy (val a) (val b),()) (fun n=>n≤70368744177664∧∀j,n≤j→a.getD j 0=b.getD j 0) id (fun n ⟨hn,hz⟩=> ?_) n ⟨hn,hz⟩
  rcases n with _|m
  ·refine .inr ⟨1,fun k=> ?_⟩
   simp(disch:=omega) only[BB,fQ.zY,fQ.b5,acU,Ko (Yi fun j=>hz j (Nat.zero_le j))]
  ·by_cases h1:a.getD m 0=b.getD m 0
   ·refine .inl ⟨m,⟨by omega,fun j hj=> ?_⟩,Nat.lt_succ_self m,1,fun k=> ?_⟩
    ·by_cases hjm:j=m
     ·rw [hjm,h1]
     ·exact hz j (by omega)
    ·simp (disch:=omega) only[BB,fQ.zY,fQ.b5,MH,NZ ha,NZ hb,h1,IntWalk.i64_in]
   ·refine .inr ⟨1,fun k=> ?_⟩
    rcases Int.lt_or_gt_of_ne h1 with h2|h2
    ·simp (disch:=omega) only[BB,fQ.zY,fQ.b5,MH,NZ ha,NZ hb,wB (F9 ha hb (fun j hj=>hz j hj) h2)]
    ·simp (disch:=omega) only[BB,fQ.zY,fQ.b5,MH,NZ ha,NZ hb,J_ (F9 hb ha (fun j hj=>(hz j hj).symm) h2)]
 by_cases hl:a.length<b.length
 ·obtain ⟨j,hj⟩:=loop b.length lb fun j hj=>by rw[m_ hj,m_ (by omega)]
  refine fQ.of (0+j) a b ?_
  simp(disch:=omega) only[BB,fQ.e,IntWalk.i64_in]
  exact hj 0
 ·obtain ⟨j,hj⟩:=loop a.length la fun j hj=>by rw[m_ hj,m_ (by omega)]
  refine fQ.of (0+j) a b ?_
  simp(disch:=omega) only[BB,fQ.e,IntWalk.i64_in]
  exact hj 0
theorem QZ {x y c:Int}(hx:0≤x∧x<4294967296)(hy:0≤y∧y<4294967296)(hc:0≤c∧c≤1):lZ.F (x,y,c,())=some ((x+y+c)%4294967296,(x+y+c)/4294967296,()):=by
 refine lZ.of 0 x y c ?_
 simp(disch:=omega) only[BB,lZ.e,IntWalk.u64_in,pV,SA]
 rw[show (x+y+c)/4294967296%4294967296=(x+y+c)/4294967296 by omega]
theorem Add_F {a b:List Int}(ha:aU a)(hb:aU b)(la:a.length<70368744177664)(lb:b.length<70368744177664):mG.F (a,b,())=some (canon (val a+val b),()):=by
 have loop:∀(a b:List Int),aU a→aU b→a.length<70368744177664→b.length≤a.length→∃j,∀k,mG.L6 (k+j) a b (List.replicate (a.length+1) 0) 0 a.length 0=some (canon (val a+val b),()):=by
  intro a b ha hb la hl
  refine up (fun k (s:Nat×List Int×Int)=>mG.L6 k a b s.2.1 s.2.2 a.length (s.1:Int)) (canon (val a+val b),()) (fun i s=>s.1.length=a.length+1∧aU s.1∧(0≤s.2∧s.2≤1)∧(∀j,i≤j→s.1.getD j 0=0)∧val s.1+s.2*pw i=val (a.take i)+val (b.take i)) a.length (fun i s hi ⟨h1,h2,h3,h4,h5⟩=> ?_) (fun s ⟨h1,h2,h3,h4,h5⟩=> ?_) 0 (List.replicate (a.length+1) 0,0) (Nat.zero_le _) ⟨by simp,aU.xA _,by omega,fun j _=>iU _ _,by simp[kK,iZ]⟩
  ·obtain ⟨c,q⟩:=s
   simp only at h1 h2 h3 h4 h5
   have g1:=ha.get i
   have g2:=hb.get i
   have g3:=h4 i (Nat.le_refl i)
   refine⟨(c.set i ((a.getD i 0+b.getD i 0+q)%4294967296),(a.getD i 0+b.getD i 0+q)/4294967296),⟨by simpa using h1,h2.set i (by omega),by simp only;omega,fun j hj=> ?_,?_⟩,1,fun k=> ?_⟩
   ·rw [fZ (by omega),if_neg (by omega)];exact h4 j (by omega)
   ·rw [oM (x:=a.getD i 0+b.getD i 0) (by omega) (by omega) h5,dL,dL,Int.add_mul];omega
   ·by_cases AZ:i<b.length
    ·simp (disch:=omega) only[BB,mG.mJ,mG.b6,QZ g1 g2 h3]
    ·have g4:b.getD i 0=0:=m_ (by omega)
     simp(disch:=omega) only[BB,mG.mJ,mG.b6,g4,QZ g1 (show 0≤(0:Int)∧(0:Int)<4294967296 by decide) h3]
  ·obtain ⟨c,q⟩:=s
   simp only at h1 h2 h3 h4 h5
   refine⟨1,fun k=> ?_⟩
   have h6:=h2.set a.length (v:=q) (by omega)
   have h7:val (c.set a.length q)=val a+val b:=by
    rw[pI q (by omega),h4 a.length (Nat.le_refl _),Int.sub_zero,h5,List.take_length,wz hl]
   simp(disch:=omega) only[BB,mG.mJ,mG.b6,BP h6 (by simp;omega),h7]
 by_cases hl:a.length<b.length
 ·obtain ⟨j,hj⟩:=loop b a hb ha lb (by omega)
  refine mG.of (0+j) a b ?_
  simp(disch:=omega) only[BB,mG.e]
  rw[Int.add_comm];exact hj 0
 ·obtain ⟨j,hj⟩:=loop a b ha hb la (by omega)
  refine mG.of (0+j) a b ?_
  simp(disch:=omega) only[BB,mG.e]
  exact hj 0
theorem rAdd_F {a b:List Int}(ha:aU a)(hb:aU b)(la:a.length<70368744177664)(lb:b.length<70368744177664):nP.F (a,b,())=some (canon (val a+val b),()):=by
 have loop:∀n:Nat,n<70368744177664→a.length≤n→b.length≤n→∃j,∀k,nP.L7 (k+j) a b n (List.replicate (n+1) 0) 0 0=some (canon (val a+val b),()):=by
  intro n hn Jm R_
  refine up (fun k (s:Nat×List Int×Int)=>nP.L7 k a b n s.2.1 s.2.2 (s.1:Int)) (canon (val a+val b),()) (fun i s=>s.1.length=n+1∧aU s.1∧(0≤s.2∧s.2≤1)∧(∀j,i≤j→s.1.getD j 0=0)∧val s.1+s.2*pw i=val (a.take i)+val (b.take i)) (n+1) (fun i s hi ⟨h1,h2,h3,h4,h5⟩=> ?_) (fun s ⟨h1,h2,h3,h4,h5⟩=> ?_) 0 (List.replicate (n+1) 0,0) (Nat.zero_le _) ⟨by simp,aU.xA _,by simp only;omega,fun j _=>iU _ _,by simp[kK,iZ]⟩
  ·obtain ⟨c,q⟩:=s
   simp only at h1 h2 h3 h4 h5
   have g1:=ha.get i
   have g2:=hb.get i
   have g3:=h4 i (Nat.le_refl i)
   refine⟨(c.set i ((a.getD i 0+b.getD i 0+q)%4294967296),(a.getD i 0+b.getD i 0+q)/4294967296),⟨by simpa using h1,h2.set i (by omega),by simp only;omega,fun j hj=> ?_,?_⟩,1,fun k=> ?_⟩
   ·rw [fZ (by omega),if_neg (by omega)];exact h4 j (by omega)
   ·rw [oM (x:=a.getD i 0+b.getD i 0) (by omega) (by omega) h5,dL,dL,Int.add_mul];omega
   ·simp (disch:=omega) only[BB,nP.jA,nP.b7,NZ ha,NZ hb,IntWalk.u64_in,SA,pV]
  ·obtain ⟨c,q⟩:=s
   simp only at h1 h2 h3 h4 h5
   refine⟨1,fun k=> ?_⟩
   rw[wz (by omega),wz (by omega)]at h5
   have h6:=jM ha
   have h7:=jM hb
   have h8:=jM h2
   have h9:=bn h2
   have h10:=rZ Jm
   have h11:=rZ R_
   rw[h1]at h8
   have h14:=kS n
   have h12:q=0:=by
    rcases(show q=0∨q=1 by omega)with h|h
    ·exact h
    ·rw [h,Int.one_mul,iY]at h5;omega
   have h13:val c=val a+val b:=by rw[←h5,h12];omega
   simp(disch:=omega) only[BB,nP.jA,nP.b7,rNorm_F h2 (by omega),h13]
 by_cases hl:a.length<b.length
 ·obtain ⟨j,hj⟩:=loop b.length lb (by omega) (Nat.le_refl _)
  refine nP.of (0+j) a b ?_
  simp(disch:=omega) only[BB,nP.e]
  exact hj 0
 ·obtain ⟨j,hj⟩:=loop a.length la (Nat.le_refl _) (by omega)
  refine nP.of (0+j) a b ?_
  simp(disch:=omega) only[BB,nP.e]
  exact hj 0
theorem amQ:(if IntKind.u32.signed then(-1:Int)else IntKind.u32.max)=((4294967295:Nat):Int):=by decide
theorem Kq {x y b:Int}(hx:0≤x∧x<4294967296)(hy:0≤y∧y<4294967296)(hb:0≤b∧b≤1):kR.F (x,y,b,())=some ((x-y-b)%4294967296,(if x<y+b then 1 else 0),()):=by
 refine kR.of 0 x y b ?_
 obtain⟨x,rfl⟩:=Int.eq_ofNat_of_zero_le hx.1
 obtain⟨y,rfl⟩:=Int.eq_ofNat_of_zero_le hy.1
 obtain⟨b,rfl⟩:=Int.eq_ofNat_of_zero_le hb.1
 have hd:∃d:Nat,(d:Int)=((x:Int)-y-b)%4294967296:=⟨_,Int.toNat_of_nonneg (by omega)⟩
 obtain⟨d,hd⟩:=hd
 have e1:IntKind.u32.wrap (IntKind.u32.wrap ((x:Int)-y)-b)=d:=by rw[SA,SA];omega
 have h1:(4294967295 ^^^ x)<2^32:=Nat.xor_lt_two_pow (by decide) (by omega)
 have h2:(x ^^^ y)<2^32:=Nat.xor_lt_two_pow (by omega) (by omega)
 have h3:(4294967295 ^^^ (x ^^^ y))<2^32:=Nat.xor_lt_two_pow (by decide) h2
 have h4:((4294967295 ^^^ x)&&&y)<2^32:=Nat.and_lt_two_pow _ (by omega)
 have h5:((4294967295 ^^^ (x ^^^ y))&&&d)<2^32:=Nat.and_lt_two_pow _ (by omega)
 have h6:=acQ (x:=x) (y:=y) (b:=b) (d:=d) (by omega) (by omega) (by omega) hd
 simp only[kR.e,e1,amQ]
 rw[acP (by decide) (by omega),acN h1 (by omega),acP (by omega) (by omega),acP (by decide) h2,acN h3 (by omega),acM h4 h5]
 simp(disch:=omega) only[BB,show oV .u32 ((((4294967295 ^^^ x)&&&y|||(4294967295 ^^^ (x ^^^ y))&&&d:Nat)):Int) 31=(((4294967295 ^^^ x)&&&y|||(4294967295 ^^^ (x ^^^ y))&&&d:Nat):Int)/2^31 from MF .u32 _ 31 (by decide)]
 have h7:((((4294967295 ^^^ x)&&&y|||(4294967295 ^^^ (x ^^^ y))&&&d):Nat):Int)/2^31=(if (x:Int)<y+b then 1 else 0):=by
  have:((((4294967295 ^^^ x)&&&y|||(4294967295 ^^^ (x ^^^ y))&&&d)/2147483648:Nat):Int)=((if x<y+b then 1 else 0:Nat):Int):=by rw[h6]
  by_cases dX:x<y+b
  ·rw [if_pos dX]at this;rw[if_pos (by omega)];omega
  ·rw [if_neg dX]at this;rw[if_neg (by omega)];omega
 rw[h7,hd]
theorem UR {c a b:List Int}{q:Int}(hc:aU c)(ha:aU a)(hb:aU b)(hl:c.length=a.length)(hq:0≤q∧q≤1)(hle:val b≤val a)(h:val c+ -q*pw a.length=val (a.take a.length)-val (b.take a.length)):val c=val a-val b:=by
 have h1:=jM ha
 rw[List.take_length,su hb (show val b<pw a.length by omega)]at h
 have h2:=jM hc
 rw[hl]at h2
 rcases(show q=0∨q=1 by omega)with h0|h0
 ·rw [h0]at h;omega
 ·rw [h0]at h;omega
theorem Sub_F {a b:List Int}(ha:aU a)(hb:aU b)(la:a.length≤70368744177664)(lb:b.length≤70368744177664):mM.F (a,b,())=some (if val a<val b then([],10,())else(canon (val a-val b),0,())):=by
 by_cases dX:val a<val b
 ·refine mM.of 0 a b ?_
  simp(disch:=omega) only[BB,mM.e,Cmp_F ha hb la lb,wB dX]
 ·have hc:0≤qy (val a) (val b):=by unfold qy;rw[if_neg dX];split<;>decide
  have ht:=jJ (val b)
  have vt:=fA (bn hb)
  obtain⟨j,hj⟩:=up (fun k (s:Nat×List Int×Int)=>mM.L7 k a (canon (val b)) s.2.1 s.2.2 a.length (s.1:Int)) (canon (val a-val b),0,()) (fun i s=>s.1.length=a.length∧aU s.1∧(0≤s.2∧s.2≤1)∧(∀j,i≤j→s.1.getD j 0=0)∧val s.1+ -s.2*pw i=val (a.take i)-val ((canon (val b)).take i)) a.length (fun i s hi ⟨h1,h2,h3,h4,h5⟩=>by
    obtain⟨c,q⟩:=s
    simp only at h1 h2 h3 h4 h5
    have g1:=ha.get i
    have g2:=ht.get i
    have g3:=h4 i (Nat.le_refl i)
    refine⟨(c.set i ((a.getD i 0-(canon (val b)).getD i 0-q)%4294967296),if a.getD i 0<(canon (val b)).getD i 0+q then 1 else 0),⟨by simpa using h1,h2.set i (by omega),by simp only;split<;>omega,fun j hj=> ?_,?_⟩,1,fun k=> ?_⟩
    ·rw [fZ (by omega),if_neg (by omega)];exact h4 j (by omega)
    ·rw [oM (x:=a.getD i 0-(canon (val b)).getD i 0) (by omega) (by rw[g3];split<;>omega) h5,dL,dL,Int.sub_mul];omega
    ·by_cases AZ:i<(canon (val b)).length
     ·simp (disch:=omega) only[BB,mM.jA,mM.b7,Kq g1 g2 h3]
     ·have g4:(canon (val b)).getD i 0=0:=m_ (by omega)
      simp(disch:=omega) only[BB,mM.jA,mM.b7,g4,Kq g1 (show 0≤(0:Int)∧(0:Int)<4294967296 by decide) h3]) (fun s ⟨h1,h2,h3,h4,h5⟩=>by
    obtain⟨c,q⟩:=s
    simp only at h1 h2 h3 h4 h5
    refine⟨1,fun k=> ?_⟩
    have h6:=UR h2 ha ht h1 h3 (by omega) h5
    rw[vt]at h6
    simp(disch:=omega) only[BB,mM.jA,mM.b7,BP h2 (by omega),h6]) 0 (List.replicate a.length 0,0) (Nat.zero_le _) ⟨by simp,aU.xA _,by simp only;omega,fun j _=>iU _ _,by simp[kK,iZ]⟩
  refine mM.of (0+j) a b ?_
  simp(disch:=omega) only[BB,mM.e,Cmp_F ha hb la lb,Af hb lb]
  exact hj 0
theorem rSub_F {a b:List Int}(ha:aU a)(hb:aU b)(la:a.length≤70368744177664)(lb:b.length≤70368744177664):jo.F (a,b,())=some (if val a<val b then([],10,())else(canon (val a-val b),0,())):=by
 by_cases dX:val a<val b
 ·refine jo.of 0 a b ?_
  simp(disch:=omega) only[BB,jo.e,rCmp_F ha hb la lb,wB dX]
 ·have hc:0≤qy (val a) (val b):=by unfold qy;rw[if_neg dX];split<;>decide
  obtain⟨j,hj⟩:=up (fun k (s:Nat×List Int×Int)=>jo.L6 k a b s.2.1 s.2.2 (s.1:Int)) (canon (val a-val b),0,()) (fun i s=>s.1.length=a.length∧aU s.1∧(0≤s.2∧s.2≤1)∧(∀j,i≤j→s.1.getD j 0=0)∧val s.1+ -s.2*pw i=val (a.take i)-val (b.take i)) a.length (fun i s hi ⟨h1,h2,h3,h4,h5⟩=>by
    obtain⟨c,q⟩:=s
    simp only at h1 h2 h3 h4 h5
    have g1:=ha.get i
    have g2:=hb.get i
    have g3:=h4 i (Nat.le_refl i)
    refine⟨(c.set i ((a.getD i 0-b.getD i 0-q)%4294967296),((a.getD i 0-b.getD i 0-q)%18446744073709551616)/9223372036854775808),⟨by simpa using h1,h2.set i (by omega),by simp only;omega,fun j hj=> ?_,?_⟩,1,fun k=> ?_⟩
    ·rw [fZ (by omega),if_neg (by omega)];exact h4 j (by omega)
    ·rw [oM (x:=a.getD i 0-b.getD i 0) (by omega) (by rw[g3];omega) h5,dL,dL,Int.sub_mul];omega
    ·simp (disch:=omega) only[BB,jo.mJ,jo.b6,NZ ha,NZ hb,w64,SA,show ∀x,oV .u64 x 63=x/9223372036854775808 from fun x=>MF .u64 x 63 (by decide)]
     rw[show ((a.getD i 0-b.getD i 0)%18446744073709551616-q)%18446744073709551616=(a.getD i 0-b.getD i 0-q)%18446744073709551616 by omega,show(a.getD i 0-b.getD i 0-q)%18446744073709551616%4294967296=(a.getD i 0-b.getD i 0-q)%4294967296 by omega]) (fun s ⟨h1,h2,h3,h4,h5⟩=>by
    obtain⟨c,q⟩:=s
    simp only at h1 h2 h3 h4 h5
    refine⟨1,fun k=> ?_⟩
    have h6:=UR h2 ha hb h1 h3 (by omega) h5
    simp(disch:=omega) only[BB,jo.mJ,jo.b6,rNorm_F h2 (by omega),h6]) 0 (List.replicate a.length 0,0) (Nat.zero_le _) ⟨by simp,aU.xA _,by simp only;omega,fun j _=>iU _ _,by simp[kK,iZ]⟩
  refine jo.of (0+j) a b ?_
  simp(disch:=omega) only[BB,jo.e,rCmp_F ha hb la lb]
  exact hj 0
theorem um {x y:Int}(hx:0≤x∧x<4294967296)(hy:0≤y∧y<4294967296):0≤x*y∧x*y≤18446744065119617025:=by
 refine⟨Int.mul_nonneg hx.1 hy.1,?_⟩
 have h1:x*y≤4294967295*y:=Int.mul_le_mul_of_nonneg_right (by omega) hy.1
 have h2:4294967295*y≤4294967295*4294967295:=Int.mul_le_mul_of_nonneg_left (by omega) (by decide)
 omega
theorem Pj {i k:Nat}(h:i+k<4611686018427387904):IntKind.i64.wrap ((i:Int)+(k:Int))=((i+k:Nat):Int):=by rw[IntWalk.i64_in _ (by omega)];omega
def xC (c0:List Int)(x:Int)(b:List Int)(n i k:Nat)(c:List Int)(q:Int):Prop:=
 c.length=n∧aU c∧(0≤q∧q<4294967296)∧(∀j,i+b.length≤j→c.getD j 0=0)∧val c+q*pw (i+k)=val c0+x*val (b.take k)*pw i
theorem xC.next {c0:List Int}{x:Int}{b:List Int}{n i k:Nat}{c:List Int}{q:Int}(h:xC c0 x b n i k c q)(hx:0≤x∧x<4294967296)(hb:aU b)(hk:k<b.length)(hn:i+b.length<n):
  let t:=x*b.getD k 0+c.getD (i+k) 0+q
  (0≤t∧t<18446744073709551616)∧xC c0 x b n i (k+1) (c.set (i+k) (t%4294967296)) (t/4294967296):=by
 obtain⟨h1,h2,h3,h4,h5⟩:=h
 have g1:=hb.get k
 have g2:=h2.get (i+k)
 have g3:=um hx g1
 intro t
 have ht:t=x*b.getD k 0+c.getD (i+k) 0+q:=rfl
 refine⟨by omega,by simpa using h1,h2.set _ (by omega),by omega,fun j hj=> ?_,?_⟩
 ·rw [fZ (by omega),if_neg (by omega)];exact h4 j hj
 ·rw [←Nat.add_assoc,oM (x:=x*b.getD k 0) (by omega) (by omega) h5,dL,QU,Int.mul_add,Int.add_mul]
  have:x*b.getD k 0*(pw i*pw k)=x*(b.getD k 0*pw k)*pw i:=by
   rw[Int.mul_comm (pw i),Int.mul_assoc,Int.mul_assoc,Int.mul_assoc]
  omega
theorem xC.last {c0:List Int}{x:Int}{b:List Int}{n i:Nat}{c:List Int}{q:Int}(h:xC c0 x b n i b.length c q)(hn:i+b.length<n):
  (c.set (i+b.length) q).length=n∧aU (c.set (i+b.length) q)∧(∀j,(i+1)+b.length≤j→(c.set (i+b.length) q).getD j 0=0)∧val (c.set (i+b.length) q)=val c0+x*val b*pw i:=by
 obtain⟨h1,h2,h3,h4,h5⟩:=h
 refine⟨by simpa using h1,h2.set _ h3,fun j hj=> ?_,?_⟩
 ·rw [fZ (by omega),if_neg (by omega)];exact h4 j (by omega)
 ·rw [pI q (by omega),h4 _ (Nat.le_refl _),Int.sub_zero,h5,List.take_length]
theorem UU (a b:List Int)(i:Nat):val (a.take i)*val b+a.getD i 0*val b*pw i=val (a.take (i+1))*val b:=by
 rw[dL,Int.add_mul,Int.mul_assoc,Int.mul_comm (val b),←Int.mul_assoc]
theorem rMul_F {a b:List Int}(ha:aU a)(hb:aU b)(hl:a.length+b.length≤70368744177664):jQ.F (a,b,())=some (canon (val a*val b),()):=by
 obtain⟨j,hj⟩:=up (fun k (s:Nat×List Int)=>jQ.L3 k a b s.2 (s.1:Int)) (canon (val a*val b),()) (fun i c=>c.length=a.length+b.length∧aU c∧(∀j,i+b.length≤j→c.getD j 0=0)∧val c=val (a.take i)*val b) a.length (fun i c hi ⟨h1,h2,h3,h4⟩=>by
   obtain⟨t,ht,j,hj⟩:=aac (fun k (s:Nat×List Int×Int)=>jQ.L7 k a b s.2.1 i s.2.2 (s.1:Int)) (fun k (c:List Int)=>jQ.L3 k a b c ((i+1:Nat):Int)) (fun k s=>xC c (a.getD i 0) b (a.length+b.length) i k s.1 s.2)
    (fun c'=>c'.length=a.length+b.length∧aU c'∧(∀j,(i+1)+b.length≤j→c'.getD j 0=0)∧val c'=val (a.take (i+1))*val b) b.length
    (fun k s hk hs=>by
     obtain⟨c',q⟩:=s
     obtain⟨ht,hn⟩:=xC.next hs (ha.get i) hb hk (by omega)
     obtain⟨h1,h2,h3,h4,h5⟩:=hs
     simp only at h1 h2 h3 h4 h5 ht
     have g0:=ha.get i
     have g1:=hb.get k
     have g2:=h2.get (i+k)
     have g3:=um g0 g1
     refine⟨(c'.set (i+k) ((a.getD i 0*b.getD k 0+c'.getD (i+k) 0+q)%4294967296),(a.getD i 0*b.getD k 0+c'.getD (i+k) 0+q)/4294967296),hn,1,fun m=> ?_⟩
     simp(disch:=omega) only[BB,jQ.jA,jQ.b7,IntWalk.u64_in,Pj,SA,pV])
    (fun s hs=>by
     obtain⟨c',q⟩:=s
     have hn:=xC.last hs (by omega)
     obtain⟨h1,h2,h3,h4',h5⟩:=hs
     simp only at h1 h3
     refine⟨c'.set (i+b.length) q,⟨hn.1,hn.2.1,hn.2.2.1,by rw[hn.2.2.2,h4,UU]⟩,1,fun m=> ?_⟩
     simp(disch:=omega) only[BB,jQ.jA,jQ.b7,Pj,IntWalk.u32_in]) 0 (c,0) (Nat.zero_le _) ⟨h1,h2,by simp,h3,by simp[iZ]⟩
   refine⟨t,ht,j+1,fun k=> ?_⟩
   rw[←Nat.add_assoc]
   simp(disch:=omega) only[BB,jQ.pG,jQ.b3]
   exact hj k) (fun c ⟨h1,h2,h3,h4⟩=>by
   refine⟨1,fun k=> ?_⟩
   rw[List.take_length]at h4
   simp(disch:=omega) only[BB,jQ.pG,jQ.b3,rNorm_F h2 (by omega),h4]) 0 (List.replicate (a.length+b.length) 0) (Nat.zero_le _) ⟨by simp,aU.xA _,fun j _=>iU _ _,by simp[kK,iZ]⟩
 refine jQ.of (0+j) a b ?_
 simp(disch:=omega) only[BB,jQ.e,Pj]
 exact hj 0
theorem Mul_F {x y:List Int}(hx:aU x)(hy:aU y)(hl:x.length+y.length≤70368744177664):jP.F (x,y,())=some (canon (val x*val y),()):=by
 have na:=jr hx
 have nb:=jr hy
 have va:=fA (bn hx)
 have vb:=fA (bn hy)
 have ha:=jJ (val x)
 have hb:=jJ (val y)
 suffices h:∃k,jP.e (jP.L4 k) (jP.L8 k) x y=some (canon (val x*val y),())by obtain⟨k,hk⟩:=h;exact jP.of k x y hk
 simp only[jP.e,Af hx (by omega),Af hy (by omega),Option.bind_some]
 rw[←va,←vb,va,vb]
 generalize canon (val x)=a at na va ha⊢
 generalize canon (val y)=b at nb vb hb⊢
 rw[←va,←vb]
 obtain⟨j,hj⟩:=up (fun k (s:Nat×List Int)=>jP.L4 k a b s.2 a.length (s.1:Int)) (canon (val a*val b),()) (fun i c=>c.length=a.length+b.length∧aU c∧(∀j,i+b.length≤j→c.getD j 0=0)∧val c=val (a.take i)*val b) a.length (fun i c hi ⟨h1,h2,h3,h4⟩=>by
   obtain⟨t,ht,j,hj⟩:=aac (fun k (s:Nat×List Int×Int)=>jP.L8 k a b s.2.1 i s.2.2 a.length i b.length (s.1:Int)) (fun k (c:List Int)=>jP.L4 k a b c a.length ((i+1:Nat):Int)) (fun k s=>xC c (a.getD i 0) b (a.length+b.length) i k s.1 s.2)
    (fun c'=>c'.length=a.length+b.length∧aU c'∧(∀j,(i+1)+b.length≤j→c'.getD j 0=0)∧val c'=val (a.take (i+1))*val b) b.length
    (fun k s hk hs=>by
     obtain⟨c',q⟩:=s
     obtain⟨ht,hn⟩:=xC.next hs (ha.get i) hb hk (by omega)
     obtain⟨h1,h2,h3,h4,h5⟩:=hs
     simp only at h1 h2 h3 h4 h5 ht
     have g0:=ha.get i
     have g1:=hb.get k
     have g2:=h2.get (i+k)
     have g3:=um g0 g1
     refine⟨(c'.set (i+k) ((a.getD i 0*b.getD k 0+c'.getD (i+k) 0+q)%4294967296),(a.getD i 0*b.getD k 0+c'.getD (i+k) 0+q)/4294967296),hn,1,fun m=> ?_⟩
     simp(disch:=omega) only[BB,jP.Ye,jP.b8,IntWalk.u64_in,Pj,SA,pV])
    (fun s hs=>by
     obtain⟨c',q⟩:=s
     have hn:=xC.last hs (by omega)
     obtain⟨h1,h2,h3,h4',h5⟩:=hs
     simp only at h1 h3
     refine⟨c'.set (i+b.length) q,⟨hn.1,hn.2.1,hn.2.2.1,by rw[hn.2.2.2,h4,UU]⟩,1,fun m=> ?_⟩
     simp(disch:=omega) only[BB,jP.Ye,jP.b8,Pj,IntWalk.u32_in]) 0 (c,0) (Nat.zero_le _) ⟨h1,h2,by simp,h3,by simp[iZ]⟩
   refine⟨t,ht,j+1,fun k=> ?_⟩
   rw[←Nat.add_assoc]
   simp(disch:=omega) only[BB,jP.iW,jP.b4]
   exact hj k) (fun c ⟨h1,h2,h3,h4⟩=>by
   refine⟨1,fun k=> ?_⟩
   rw[List.take_length]at h4
   simp(disch:=omega) only[BB,jP.iW,jP.b4,BP h2 (by omega),h4]) 0 (List.replicate (a.length+b.length) 0) (Nat.zero_le _) ⟨by simp,aU.xA _,fun j _=>iU _ _,by simp[kK,iZ]⟩
 refine⟨0+j,?_⟩
 simp(disch:=omega) only[BB,Pj]
 exact hj 0
theorem Ib {x:Int}(h:0<x∧x<4294967296):canon x=[x]:=by
 have h1:=Eh (x:=x) (v:=0) (by omega) (by omega) (by omega)
 rw[mD,Int.mul_zero,Int.add_zero]at h1
 exact h1
theorem acV {x:Int}(h:0≤x∧x<4294967296):aU [x]:=aU.cons h aU.nil
theorem ajF (x:Int):val [x]=x:=by simp[fM,iZ]
structure Nm (a:List Int) (x:Int) (n:Nat):Prop where
 iL:aU a
 val:val a=x
 len:a.length≤n
theorem Nm.pos {a x n}(h:Nm a x n):0≤x:=h.val▸bn h.iL
theorem Nm.lt {a x n}(h:Nm a x n):x<pw n:=by
 have:=jM h.iL
 have:=rZ h.len
 have:=h.val
 omega
theorem Nm.mono {a x n m}(h:Nm a x n)(hm:n≤m):Nm a x m:=⟨h.iL,h.val,Nat.le_trans h.len hm⟩
theorem Nm.canon {x:Int}{n:Nat}(h:0≤x)(hn:x<pw n):Nm (canon x) x n:=⟨jJ x,fA h,oK h hn⟩
theorem Nm.norm {a x n}(h:Nm a x n):Nm (sZ.canon x) x n:= .canon h.pos h.lt
theorem Nm.add {a b x y n}(h:Nm a x n)(g:Nm b y n):Nm (sZ.canon (x+y)) (x+y) (n+1):=by
 have:=h.pos
 have:=g.pos
 have:=h.lt
 have:=g.lt
 exact .canon (by omega) (by rw[iY];omega)
theorem Nm.mul {a b x y n m}(h:Nm a x n)(g:Nm b y m):Nm (sZ.canon (x*y)) (x*y) (n+m):=by
 refine .canon (Int.mul_nonneg h.pos g.pos) ?_
 rw[QU]
 have h5:x*y≤x*pw m:=Int.mul_le_mul_of_nonneg_left (Int.le_of_lt g.lt) h.pos
 have h6:x*pw m<pw n*pw m:=Int.mul_lt_mul_of_pos_right h.lt (kS _)
 omega
theorem Nm.sub {a b x y n m}(h:Nm a x n)(g:Nm b y m)(hle:y≤x):Nm (sZ.canon (x-y)) (x-y) n:=by
 have:=h.lt
 have:=g.pos
 exact .canon (by omega) (by omega)
theorem Nm.one {x:Int}(h:0≤x∧x<4294967296):Nm [x] x 1:=⟨acV h,ajF x,Nat.le_refl _⟩
theorem Nm.Add_F {a b x y n}(h:Nm a x n)(g:Nm b y n)(hn:n<70368744177664):mG.F (a,b,())=some (sZ.canon (x+y),()):=by
 rw[Tryz.Add_F h.iL g.iL (Nat.lt_of_le_of_lt h.len hn) (Nat.lt_of_le_of_lt g.len hn),h.val,g.val]
theorem Nm.rAdd_F {a b x y n}(h:Nm a x n)(g:Nm b y n)(hn:n<70368744177664):nP.F (a,b,())=some (sZ.canon (x+y),()):=by
 rw[Tryz.rAdd_F h.iL g.iL (Nat.lt_of_le_of_lt h.len hn) (Nat.lt_of_le_of_lt g.len hn),h.val,g.val]
theorem Nm.Mul_F {a b x y n m}(h:Nm a x n)(g:Nm b y m)(hn:n+m≤70368744177664):jP.F (a,b,())=some (sZ.canon (x*y),()):=by
 rw[Tryz.Mul_F h.iL g.iL (Nat.le_trans (Nat.add_le_add h.len g.len) hn),h.val,g.val]
theorem Nm.rMul_F {a b x y n m}(h:Nm a x n)(g:Nm b y m)(hn:n+m≤70368744177664):jQ.F (a,b,())=some (sZ.canon (x*y),()):=by
 rw[Tryz.rMul_F h.iL g.iL (Nat.le_trans (Nat.add_le_add h.len g.len) hn),h.val,g.val]
theorem Nm.Sub_F {a b x y n m}(h:Nm a x n)(g:Nm b y m)(hn:n≤70368744177664)(hm:m≤70368744177664):mM.F (a,b,())=some (if x<y then([],10,())else(sZ.canon (x-y),0,())):=by
 rw[Tryz.Sub_F h.iL g.iL (Nat.le_trans h.len hn) (Nat.le_trans g.len hm),h.val,g.val]
theorem Nm.rSub_F {a b x y n m}(h:Nm a x n)(g:Nm b y m)(hn:n≤70368744177664)(hm:m≤70368744177664):jo.F (a,b,())=some (if x<y then([],10,())else(sZ.canon (x-y),0,())):=by
 rw[Tryz.rSub_F h.iL g.iL (Nat.le_trans h.len hn) (Nat.le_trans g.len hm),h.val,g.val]
theorem Nm.Cmp_F {a b x y n m}(h:Nm a x n)(g:Nm b y m)(hn:n≤70368744177664)(hm:m≤70368744177664):iM.F (a,b,())=some (qy x y,()):=by
 rw[Tryz.Cmp_F h.iL g.iL (Nat.le_trans h.len hn) (Nat.le_trans g.len hm),h.val,g.val]
theorem Nm.rCmp_F {a b x y n m}(h:Nm a x n)(g:Nm b y m)(hn:n≤70368744177664)(hm:m≤70368744177664):fQ.F (a,b,())=some (qy x y,()):=by
 rw[Tryz.rCmp_F h.iL g.iL (Nat.le_trans h.len hn) (Nat.le_trans g.len hm),h.val,g.val]
theorem Nm.Norm_F {a x n}(h:Nm a x n)(hn:n≤70368744177664):uX.F (a,())=some (sZ.canon x,()):=by
 rw[Tryz.Norm_F h.iL (Nat.le_trans h.len hn),h.val]
theorem Nm.rNorm_F {a x n}(h:Nm a x n)(hn:n≤70368744177664):bH.F (a,())=some (sZ.canon x,()):=by
 rw[Tryz.rNorm_F h.iL (Nat.le_trans h.len hn),h.val]
def jc (n:Nat):Nat:=if n=0 then 0 else Nat.log2 n+1
theorem IZ {n t:Nat}(h1:2^t≤n)(h2:n<2^(t+1)):jc n=t+1:=by
 have h0:n≠0:=by have:=Nat.two_pow_pos t;omega
 unfold jc
 rw[if_neg h0,(Nat.log2_eq_iff h0).2 ⟨h1,h2⟩]
theorem zi {n:Nat}(h:n≠0):∃t,jc n=t+1∧2^t≤n∧n<2^(t+1):=by
 refine⟨Nat.log2 n,by unfold jc;rw[if_neg h],Nat.log2_self_le h,Nat.lt_log2_self⟩
theorem Ej {n k:Nat}(h:0<n/2^k):jc n=k+jc (n/2^k):=by
 obtain⟨t,h1,h2,h3⟩:=zi (Nat.pos_iff_ne_zero.1 h)
 rw[h1,←Nat.add_assoc]
 have hk:=Nat.two_pow_pos k
 refine IZ ?_ ?_
 ·rw [Nat.add_comm,Nat.pow_add]
  exact(Nat.le_div_iff_mul_le hk).1 h2
 ·rw [Nat.add_assoc,Nat.add_comm,Nat.pow_add]
  exact(Nat.div_lt_iff_lt_mul hk).1 h3
def EU:ByteArray:=⟨#[0,1,2,2,3,3,3,3,4,4,4,4,4,4,4,4,5,5,5,5,5,5,5,5,5,5,5,5,5,5,5,5,6,6,6,6,6,6,6,6,6,6,6,6,6,6,6,6,6,6,6,6,6,6,6,6,6,6,6,6,6,6,6,6,7,7,7,7,7,7,7,7,7,7,7,7,7,7,7,7,7,7,7,7,7,7,7,7,7,7,7,7,7,7,7,7,7,7,7,7,7,7,7,7,7,7,7,7,7,7,7,7,7,7,7,7,7,7,7,7,7,7,7,7,7,7,7,7,8,8,8,8,8,8,8,8,8,8,8,8,8,8,8,8,8,8,8,8,8,8,8,8,8,8,8,8,8,8,8,8,8,8,8,8,8,8,8,8,8,8,8,8,8,8,8,8,8,8,8,8,8,8,8,8,8,8,8,8,8,8,8,8,8,8,8,8,8,8,8,8,8,8,8,8,8,8,8,8,8,8,8,8,8,8,8,8,8,8,8,8,8,8,8,8,8,8,8,8,8,8,8,8,8,8,8,8,8,8,8,8,8,8,8,8,8,8,8,8,8,8,8,8,8,8,8,8]⟩
theorem Gg:ByteArray.size EU=256:=by decide +kernel
theorem agb:∀v:Fin 256,VF EU ((v.val:Nat):Int)=(jc v.val:Int):=by decide +kernel
theorem Q5 {v:Nat}(h:v<256):VF EU (v:Int)=(jc v:Int):=agb ⟨v,h⟩
noncomputable def MI (a0:Int):Option (Int×Unit):=
 let v1:=decide (a0≥(65536:Int))
 bif v1 then(bif decide ((16:Int)<0)then none
 else(let v2:=oV .u32 a0 (16:Int)
 let v3:=decide (v2≥(256:Int))
 bif v3 then(bif decide ((8:Int)<0)then none
 else(let v4:=oV .u32 v2 (8:Int)
 let v5:=IntKind.i64.wrap ((16:Int)+(8:Int))
 let v6:=IntKind.u8.wrap v4
 bif decide (0≤v6)&&decide (v6<(ByteArray.size EU:Int))then(let v7:=VF EU v6
 let v8:=IntKind.i64.wrap v7
 let v9:=IntKind.i64.wrap (v5+v8)
 some (v9,()))
 else none))
 else(let v10:=IntKind.u8.wrap v2
 bif decide (0≤v10)&&decide (v10<(ByteArray.size EU:Int))then(let v11:=VF EU v10
 let v12:=IntKind.i64.wrap v11
 let v13:=IntKind.i64.wrap ((16:Int)+v12)
 some (v13,()))
 else none)))
 else(let v14:=decide (a0≥(256:Int))
 bif v14 then(bif decide ((8:Int)<0)then none
 else(let v15:=oV .u32 a0 (8:Int)
 let v16:=IntKind.i64.wrap ((0:Int)+(8:Int))
 let v17:=IntKind.u8.wrap v15
 bif decide (0≤v17)&&decide (v17<(ByteArray.size EU:Int))then(let v18:=VF EU v17
 let v19:=IntKind.i64.wrap v18
 let v20:=IntKind.i64.wrap (v16+v19)
 some (v20,()))
 else none))
 else(let v21:=IntKind.u8.wrap a0
 bif decide (0≤v21)&&decide (v21<(ByteArray.size EU:Int))then(let v22:=VF EU v21
 let v23:=IntKind.i64.wrap v22
 let v24:=IntKind.i64.wrap ((0:Int)+v23)
 some (v24,()))
 else none))
theorem aad (x:Int):nD.e x=MI x:=by kernel_rfl
theorem Pn (a:Int)(n:Nat)(h:n≤32):oV .u32 a n=a/2^n:=MF .u32 a n h
theorem Yk {x:Nat}(hx:x<4294967296):nD.F ((x:Int),())=some ((jc x:Int),()):=by
 refine nD.of 0 x ?_
 rw[aad]
 have e16:oV .u32 (x:Int) 16=((x/65536:Nat):Int):=(Pn x 16 (by decide)).trans (by omega)
 have e8:oV .u32 (x:Int) 8=((x/256:Nat):Int):=(Pn x 8 (by decide)).trans (by omega)
 have e24:oV .u32 ((x/65536:Nat):Int) 8=((x/65536/256:Nat):Int):=(Pn _ 8 (by decide)).trans (by omega)
 have b8:∀v:Nat,v<256→jc v≤8:=by
  intro v hv
  by_cases h0:v=0
  ·subst h0;decide
  ·obtain ⟨t,h1,h2,h3⟩:=zi h0
   by_cases ht:t<8
   ·omega
   ·have:=Nat.pow_le_pow_right (n:=2) (by decide) (show 8≤t by omega)
    omega
 by_cases h1:65536≤x
 ·by_cases h2:256≤x/65536
  ·have hv:x/65536/256<256:=by omega
   have hb:=b8 _ hv
   have hs:jc x=24+jc (x/65536/256):=by
    have:=Ej (n:=x) (k:=24) (by omega)
    rwa[show x/2^24=x/65536/256 by omega]at this
   simp(disch:=omega) only[BB,MI,e16,e24,Gg,IntWalk.i64_in,IntWalk.u8_in,Q5 hv]
   rw[hs];simp
  ·have hv:x/65536<256:=by omega
   have hb:=b8 _ hv
   have hs:jc x=16+jc (x/65536):=Ej (n:=x) (k:=16) (by omega)
   simp(disch:=omega) only[BB,MI,e16,Gg,IntWalk.i64_in,IntWalk.u8_in,Q5 hv]
   rw[hs];simp
 ·by_cases h2:256≤x
  ·have hv:x/256<256:=by omega
   have hb:=b8 _ hv
   have hs:jc x=8+jc (x/256):=Ej (n:=x) (k:=8) (by omega)
   simp(disch:=omega) only[BB,MI,e8,Gg,IntWalk.i64_in,IntWalk.u8_in,Q5 hv]
   rw[hs];simp
  ·have hv:x<256:=by omega
   have hb:=b8 _ hv
   simp(disch:=omega) only[BB,MI,Gg,IntWalk.i64_in,IntWalk.u8_in,Q5 hv]
   simp
theorem yH (n:Nat):pw n=2^(32*n):=by
 unfold pw
 rw[Int.pow_mul];rfl
theorem two_pos (n:Nat):(0:Int)<2^n:=Int.pow_pos (by decide)
theorem Q7 {a:List Int}(ha:aU a){q:Nat}(hq:q≤a.length):val a/pw q=val (a.drop q):=by
 have h1:=lJ a q hq
 have h2:=jM (ha.take q)
 have h3:=bn (ha.take q)
 have h4:=kS q
 rw[List.length_take,Nat.min_eq_left hq]at h2
 rw[h1,Int.add_mul_ediv_left _ _ (by omega),Int.ediv_eq_zero_of_lt h3 h2,Int.zero_add]
theorem aae {a:List Int}{q:Nat}(h:q<a.length):a.drop q=a.getD q 0::a.drop (q+1):=by
 rw[List.drop_eq_getElem_cons h]
 simp[List.getD,h]
theorem ajG {a:List Int}(ha:aU a){n:Nat}(h:n/32<a.length):(a.getD (n/32) 0/2^(n%32))%2=(val a/2^n)%2:=by
 have e:(2:Int)^n=pw (n/32)*2^(n%32):=by
  rw[yH,←Int.pow_add];congr 1;omega
 have h1:=kS (n/32)
 have h2:=two_pos (n%32)
 rw[e,←Int.ediv_ediv_of_nonneg (by omega),Q7 ha (Nat.le_of_lt h),aae h,fM]
 have e2:(4294967296:Int)=2^(n%32)*(2*2^(31-n%32)):=by
  rw[←Int.mul_assoc,Int.mul_comm _ 2,Int.mul_assoc,←Int.pow_add,show n%32+(31-n%32)=31 by omega];decide
 rw[e2,Int.mul_assoc,Int.add_mul_ediv_left _ _ (by omega),Int.mul_assoc]
 omega
theorem agc {a:List Int}(ha:aU a){n:Nat}(h:a.length≤n/32):val a/2^n=0:=by
 have h1:=jM ha
 have h2:=bn ha
 have h3:pw a.length≤2^n:=by
  rw[yH]
  exact_mod_cast Nat.pow_le_pow_right (n:=2) (by decide) (show 32*a.length≤n by omega)
 exact Int.ediv_eq_zero_of_lt h2 (by omega)
def Q8 (x i:Int):Bool:=decide (0≤i∧(x/2^i.toNat)%2=1)
theorem MJ {a:List Int}{i:Int}(ha:aU a)(la:a.length≤70368744177664)(hi: -9223372036854775808≤i∧i≤9223372036854775807):mY.F (a,i,())=some (Q8 (val a) i,()):=by
 refine mY.of 0 a i ?_
 by_cases h0:i<0
 ·simp (disch:=omega) only[BB,mY.e]
  unfold Q8;rw[decide_eq_false (by omega)]
 ·obtain ⟨n,rfl⟩:=Int.eq_ofNat_of_zero_le (show 0≤i by omega)
  have eq:(n:Int)/32=((n/32:Nat):Int):=by omega
  have em:(n:Int)%32=((n%32:Nat):Int):=by omega
  by_cases h1:n/32<a.length
  ·have hb:=ajG ha h1
   have hg:=ha.get (n/32)
   have hd:0≤a.getD (n/32) 0/2^(n%32)∧a.getD (n/32) 0/2^(n%32)<4294967296:=by
    have:=Int.ediv_nonneg hg.1 (Int.le_of_lt (two_pos (n%32)))
    have:=Int.ediv_le_self (2^(n%32)) hg.1
    omega
   simp(disch:=omega) only[BB,mY.e,IntWalk.i64_quo,IntWalk.rem_in,IntWalk.u64_in,eq,em,Pn,Z_ hd,hb]
   unfold Q8
   rw[show ((val a/2^n%2==1:Bool))=decide (val a/2^n%2=1)from rfl]
   congr 2
   simp
  ·have hb:=agc ha (n:=n) (by omega)
   simp(disch:=omega) only[BB,mY.e,IntWalk.i64_quo,IntWalk.rem_in,eq,em]
   unfold Q8
   rw[Int.toNat_natCast,hb];simp
theorem acW {v:Int}{t:Nat}(h1:2^t≤v)(h2:v<2^(t+1)):jc v.toNat=t+1:=by
 have h3:=two_pos t
 obtain⟨n,rfl⟩:=Int.eq_ofNat_of_zero_le (show 0≤v by omega)
 rw[Int.toNat_natCast]
 exact IZ (by exact_mod_cast h1) (by exact_mod_cast h2)
theorem ajH {a:List Int}(ha:aU a)(la:a.length≤70368744177664):w_.F (a,())=some ((jc (val a).toNat:Int),()):=by
 refine w_.of 0 a ?_
 have hc:=ru (val a)
 have hv:=fA (bn ha)
 have hl:=jr ha
 simp only[w_.e,Af ha la,Option.bind_some]
 rw[←hv,hv]
 generalize canon (val a)=c at hc hv hl⊢
 rw[←hv]
 by_cases h0:c.length=0
 ·rw [List.length_eq_zero_iff.1 h0];rfl
 ·obtain ⟨m,hm⟩:∃m,c.length=m+1:=⟨c.length-1,by omega⟩
  have hg:=hc.1.get m
  have hz:c.getD m 0≠0:=by
   have:=hc.2.resolve_left h0
   rwa[hm,Nat.add_sub_cancel]at this
  obtain⟨x,hx⟩:=Int.eq_ofNat_of_zero_le hg.1
  have hx0:x≠0:=by omega
  obtain⟨t,h1,h2,h3⟩:=zi hx0
  have ht:t<32:=by
   by_cases h:t<32
   ·exact h
   ·have:=Nat.pow_le_pow_right (n:=2) (by decide) (show 32≤t by omega)
    omega
  have e1:=iy (a:=c) (i:=m) (by omega)
  rw[←hm,List.take_length,hx]at e1
  have h4:=jM (hc.1.take m)
  have h5:=bn (hc.1.take m)
  rw[List.length_take,Nat.min_eq_left (by omega)]at h4
  have hp:=kS m
  have h2':(2:Int)^t≤x:=by exact_mod_cast h2
  have h3':(x:Int)+1≤2^(t+1):=by exact_mod_cast h3
  have hb:jc (val c).toNat=32*m+t+1:=by
   refine acW ?_ ?_
   ·rw [Int.pow_add,←yH,Int.mul_comm]
    have:=Int.mul_le_mul_of_nonneg_right h2' (Int.le_of_lt hp)
    omega
   ·rw [Nat.add_assoc,Int.pow_add,←yH,Int.mul_comm]
    have:=Int.mul_le_mul_of_nonneg_right h3' (Int.le_of_lt hp)
    rw[Int.add_mul]at this
    omega
  have hL:=Yk (x:=x) (by omega)
  have e2:(c.length:Int)-1=m:=by omega
  simp(disch:=omega) only[BB,e2,hm,MH,IntWalk.i64_in,hx,hL,h1,hb]
  rw[show ((32*m+t+1:Nat):Int)=32*(m:Int)+((t+1:Nat):Int)by omega]
theorem c_t {α:Type}{p:Prop}{d:Decidable p}(h:p)(a b:α):(bif @decide p d then a else b)=a:=by rw[decide_eq_true h];rfl
theorem uZ {a:List Int}{q:Nat}(h:q<a.length):a.drop q=a.getD q 0::a.drop (q+1):=by
  rw[List.drop_eq_getElem_cons h]
  simp[List.getD,h]
theorem N_ {a:List Int}{q:Nat}{v:Int}(h:q<a.length):(a.set q v).drop q=v::a.drop (q+1):=by
  rw[uZ (by simpa using h),fZ h,if_pos rfl]
  congr 1
  rw[List.drop_set];simp
theorem Ag {x q b r:Int}(h:x=q*b+r)(h0:0≤r)(h1:r<b):x/b=q∧x%b=r:=by
  subst h
  rw[Int.mul_comm,Int.add_comm]
  constructor
  · rw[Int.add_mul_ediv_left _ _ (by omega),Int.ediv_eq_zero_of_lt h0 h1,Int.zero_add]
  · rw[Int.add_mul_emod_self_left,Int.emod_eq_of_lt h0 h1]
theorem UW {hi lo y:Int}(h:0≤hi∧hi<y)(hy:y<4294967296)(hl:0≤lo∧lo<4294967296):
    0≤(lo+4294967296*hi)/y∧(lo+4294967296*hi)/y<4294967296∧0≤(lo+4294967296*hi)%y∧(lo+4294967296*hi)%y<y:=by
  have h1:=Int.ediv_nonneg (a:=lo+4294967296*hi) (b:=y) (by omega) (by omega)
  have h2:=(Int.ediv_lt_iff_lt_mul (a:=lo+4294967296*hi) (b:=4294967296) (c:=y) (by omega)).2 (by omega)
  have h3:=Int.emod_nonneg (lo+4294967296*hi) (b:=y) (by omega)
  have h4:=Int.emod_lt_of_pos (lo+4294967296*hi) (b:=y) (by omega)
  omega
theorem agd {hi lo y:Int}(h:0≤hi∧hi<y)(hy:y<4294967296)(hl:0≤lo∧lo<4294967296):qR.F (hi,lo,y,())=some ((lo+4294967296*hi)/y,(lo+4294967296*hi)%y,()):=by
  refine qR.of 0 hi lo y ?_
  have hb:=UW h hy hl
  have e:=QY hl (show 0≤hi∧hi<4294967296 by omega)
  rw[←MG]at e
  simp(disch:=omega) only[BB,qR.e,IntWalk.u64_in,IntWalk.u32_in,e,IntWalk.u64_quo,IntWalk.rem_in]
def sD (a:List Int)(b:Int)(n:Nat)(q:List Int)(r:Int):Prop:=
  n≤a.length∧q.length=a.length∧aU q∧(0≤r∧r<b)∧val (a.drop n)=val (q.drop n)*b+r
theorem sD.start {a:List Int}{b:Int}(hb:0<b):sD a b a.length (List.replicate a.length 0) 0:=
  ⟨Nat.le_refl _,by simp,aU.xA _,⟨Int.le_refl _,hb⟩,by simp[iZ]⟩
theorem sD.next {a:List Int}{b:Int}{m:Nat}{q:List Int}{r:Int}(ha:aU a)(hb:b<4294967296)(h:sD a b (m+1) q r):
    sD a b m (q.set m ((a.getD m 0+4294967296*r)/b)) ((a.getD m 0+4294967296*r)%b):=by
  obtain⟨h1,h2,h3,h4,h5⟩:=h
  have g:=ha.get m
  have hh:=UW h4 hb g
  refine⟨by omega,by simpa using h2,h3.set m ⟨hh.1,hh.2.1⟩,⟨hh.2.2.1,hh.2.2.2⟩,?_⟩
  rw[uZ (by omega),N_ (by omega),fM,fM,h5]
  have:=Int.mul_ediv_add_emod (a.getD m 0+4294967296*r) b
  rw[Int.add_mul,Int.mul_add,Int.mul_assoc,Int.mul_comm ((a.getD m 0+4294967296*r)/b)]
  omega
theorem sD.last {a:List Int}{b:Int}{q:List Int}{r:Int}(h:sD a b 0 q r):val q=val a/b∧r=val a%b:=by
  obtain⟨h1,h2,h3,h4,h5⟩:=h
  rw[List.drop_zero,List.drop_zero]at h5
  have:=Ag h5 h4.1 h4.2
  exact⟨this.1.symm,this.2.symm⟩
theorem agf {a:List Int}{b:Int}(ha:aU a)(la:a.length≤70368744177664)(hb:0<b∧b<4294967296):
    ∃q,mQ.F (a,b,())=some (q,val a%b,())∧aU q∧q.length=a.length∧val q=val a/b:=by
  obtain⟨q,⟨hq1,hq2,hq3⟩,j,hj⟩:=reach (fun k (s:Nat×List Int×Int)=>mQ.L4 k a b s.2.1 s.2.2 ((s.1:Int)-1)) (fun k (q:List Int)=>some (q,val a%b,())) (fun s=>sD a b s.1 s.2.1 s.2.2) (fun s=>s.1) (fun q=>aU q∧q.length=a.length∧val q=val a/b) (fun s hs=>by
    obtain⟨n,q,r⟩:=s
    rcases n with _|m
    · have hl := hs.last
      obtain⟨h1,h2,h3,h4,h5⟩:=hs
      simp only at hl
      refine .inr ⟨q,⟨h3,h2,hl.1⟩,1,fun k=> ?_⟩
      simp(disch:=omega) only[BB,mQ.iW,mQ.b4,acU,hl]
    · have hn := hs.next ha hb.2
      obtain⟨h1,h2,h3,h4,h5⟩:=hs
      simp only at h1 h2 h4
      refine .inl ⟨(m,_,_),hn,Nat.lt_succ_self m,1,fun k=> ?_⟩
      simp(disch:=omega) only[BB,mQ.iW,mQ.b4,MH,agd h4 hb.2 (ha.get m),IntWalk.i64_in]) (a.length,List.replicate a.length 0,0) (sD.start hb.1)
  refine⟨q,mQ.of (0+j) a b ?_,hq1,hq2,hq3⟩
  simp(disch:=omega) only[BB,mQ.e,IntWalk.i64_in]
  exact hj 0
theorem qP (n:Nat):((2^n:Nat):Int)=2^n:=by push_cast;rfl
theorem rC {u:Nat}(h:u≤32):(4294967296:Int)=2^u*2^(32-u):=by
 rw[←Int.pow_add,show u+(32-u)=32 by omega];decide
theorem I_ {x:Int}{u:Nat}(hx:0≤x∧x<4294967296)(hu:u<32):
  (x*2^u)%4294967296+4294967296*(x/2^(32-u))=x*2^u∧0≤x/2^(32-u)∧x/2^(32-u)<2^u∧∃z,0≤z∧(x*2^u)%4294967296=2^u*z:=by
 have hB:=rC (u:=u) (by omega)
 have p1:=two_pos u
 have p2:=two_pos (32-u)
 have e:x*2^u/4294967296=x/2^(32-u):=by
  rw[hB,Int.mul_comm x,Int.mul_ediv_mul_of_pos _ _ p1]
 refine⟨by have:=Int.emod_add_mul_ediv (x*2^u) 4294967296;rw[e]at this;exact this,Int.ediv_nonneg hx.1 (Int.le_of_lt p2),?_,x%2^(32-u),Int.emod_nonneg _ (by omega),?_⟩
 ·rw [Int.ediv_lt_iff_lt_mul p2,←hB];exact hx.2
 ·rw [hB,Int.mul_comm x,Int.mul_emod_mul_of_pos _ _ p1]
theorem Yl {a:List Int}{up:Nat}(ha:aU a)(la:a.length<70368744177664)(hu:up<32):
  ∃c,lT.F (a,(up:Int),())=some (c,())∧aU c∧c.length=a.length+1∧val c=val a*2^up:=by
 have p1:=two_pos up
 have p32:(2:Int)^up<4294967296:=by
  have:(2:Nat)^up<2^32:=Nat.pow_lt_pow_right (by decide) hu
  have h:=qP up
  omega
 obtain⟨c,⟨h1,h2,h3⟩,j,hj⟩:=aac (fun k (s:Nat×List Int)=>lT.L3 k a up s.2 a.length (s.1:Int)) (fun k (c:List Int)=>some (c,()))
  (fun i c=>c.length=a.length+1∧aU c∧(∀j,i<j→c.getD j 0=0)∧c.getD i 0<2^up∧val c=val (a.take i)*2^up) (fun c=>aU c∧c.length=a.length+1∧val c=val a*2^up) a.length
  (fun i c hi ⟨h1,h2,h3,h4,h5⟩=>by
   have ga:=ha.get i
   have gc:=h2.get i
   obtain⟨s1,s2,s3,z,s4,s5⟩:=I_ ga hu
   have e1:yP .u32 (a.getD i 0) up=(a.getD i 0*2^up)%4294967296:=by rw[Ia .u32 _ up (by show up≤32;omega),SA]
   have e2:eP .or .u32 (c.getD i 0) ((a.getD i 0*2^up)%4294967296)=(a.getD i 0*2^up)%4294967296+c.getD i 0:=
    H_ up z s5 s4 ⟨gc.1,h4⟩ (by
     have hm:(a.getD i 0*2^up)%4294967296≤4294967296-2^up:=by
      rw[s5]
      have hB:=rC (u:=up) (by omega)
      have dX:2^up*z<2^up*2^(32-up):=by rw[←hB,←s5];omega
      have:=Int.lt_of_mul_lt_mul_left dX (Int.le_of_lt p1)
      have h8:2^up*z≤2^up*(2^(32-up)-1):=Int.mul_le_mul_of_nonneg_left (by omega) (Int.le_of_lt p1)
      rw[Int.mul_sub,←hB,Int.mul_one]at h8
      exact h8
     omega)
   have e3:(32:Int)-(up:Int)=((32-up:Nat):Int):=by omega
   have e4:oV .u64 (a.getD i 0) ((32-up:Nat):Int)=a.getD i 0/2^(32-up):=MF .u64 _ _ (by show 32-up≤64;omega)
   have hb:(a.getD i 0*2^up)%4294967296+c.getD i 0<4294967296:=by
    have h0:=s1
    have hm:0≤(a.getD i 0*2^up)%4294967296:=Int.emod_nonneg _ (by decide)
    have hB:=rC (u:=up) (by omega)
    have dX:2^up*z<2^up*2^(32-up):=by rw[←hB,←s5];omega
    have:=Int.lt_of_mul_lt_mul_left dX (Int.le_of_lt p1)
    have h8:2^up*z≤2^up*(2^(32-up)-1):=Int.mul_le_mul_of_nonneg_left (by omega) (Int.le_of_lt p1)
    rw[Int.mul_sub,←hB,Int.mul_one]at h8
    omega
   have hm:0≤(a.getD i 0*2^up)%4294967296:=Int.emod_nonneg _ (by decide)
   refine⟨(c.set i ((a.getD i 0*2^up)%4294967296+c.getD i 0)).set (i+1) (a.getD i 0/2^(32-up)),⟨by simpa using h1,(h2.set i ⟨by omega,hb⟩).set (i+1) (by omega),fun j hj=> ?_,?_,?_⟩,1,fun k=> ?_⟩
   ·rw [fZ (by simp;omega),if_neg (by omega),fZ (by omega),if_neg (by omega)];exact h3 j (by omega)
   ·rw [fZ (by simp;omega),if_pos rfl];exact s3
   ·have hn:=oM (c:=c) (i:=i) (v:=(a.getD i 0*2^up)%4294967296+c.getD i 0) (carry:=0) (carry':=a.getD i 0/2^(32-up)) (x:=a.getD i 0*2^up) (S:=val c) (by omega) (by omega) (by omega)
    rw[pI _ (by simp;omega),fZ (by omega),if_neg (by omega),h3 (i+1) (by omega),Int.sub_zero,hn,h5,dL,Int.add_mul,Int.mul_assoc,Int.mul_comm (2^up),Int.mul_assoc]
   ·simp (disch:=omega) only[BB,lT.pG,lT.b3,e1,e2,e3,e4,IntWalk.i64_in,IntWalk.u64_in,IntWalk.u32_in,List.length_set,Int.toNat_natCast]
    rw[show (i:Int)+1=((i+1:Nat):Int)by omega,Int.toNat_natCast])
  (fun c ⟨h1,h2,h3,h4,h5⟩=>by
   rw[List.take_length]at h5
   refine⟨c,⟨h2,h1,h5⟩,1,fun k=> ?_⟩
   simp(disch:=omega) only[BB,lT.pG,lT.b3]) 0 (List.replicate (a.length+1) 0) (Nat.zero_le _) ⟨by simp,aU.xA _,fun j _=>iU _ _,by rw[iU];exact p1,by simp[kK,iZ]⟩
 refine⟨c,lT.of (0+j) a up ?_,h1,h2,h3⟩
 simp(disch:=omega) only[BB,lT.e]
 exact hj 0
structure u_ (v1 v2 vl u2 ul top P1 P2 V U q:Int):Prop where
 hV:V=v1*P1+v2*P2+vl
 hU:U=top*P1+u2*P2+ul
 hP:P1=4294967296*P2
 p2:0<P2
 v1:2147483648≤v1∧v1<4294967296
 v2:0≤v2∧v2<4294967296
 vl:0≤vl∧vl<P2
 u2:0≤u2∧u2<4294967296
 ul:0≤ul∧ul<P2
 lo:q*V≤U
 hi:U<(q+1)*V
 q:0≤q∧q<4294967296
 top:0≤top
section
variable {v1 v2 vl u2 ul top P1 P2 V U q:Int}
theorem u_.agh (h:u_ v1 v2 vl u2 ul top P1 P2 V U q):0<V:=by
 have h1:=h.hV
 have hP:=h.hP
 have p2:=h.p2
 have a1:1*P1≤v1*P1:=Int.mul_le_mul_of_nonneg_right (by have:=h.v1;omega) (by omega)
 have a2:0≤v2*P2:=Int.mul_nonneg h.v2.1 (by omega)
 have:=h.vl
 omega
theorem u_.ah6 {g:Int}(h:u_ v1 v2 vl u2 ul top P1 P2 V U q)(hg:g*V≤U):g≤q:=by
 have hv:=h.agh
 by_cases hc:g≤q
 ·exact hc
 ·have:(q+1)*V≤g*V:=Int.mul_le_mul_of_nonneg_right (by omega) (by omega)
  have:=h.hi
  omega
theorem u_.expand (h:u_ v1 v2 vl u2 ul top P1 P2 V U q)(g:Int):g*V=(g*v1)*P1+(g*v2)*P2+g*vl:=by
 rw[h.hV,Int.mul_add,Int.mul_add,←Int.mul_assoc,←Int.mul_assoc]
theorem u_.ajI (h:u_ v1 v2 vl u2 ul top P1 P2 V U q):top*P1≤U:=by
 have:=h.hU
 have:=h.ul
 have:=Int.mul_nonneg h.u2.1 (Int.le_of_lt h.p2)
 omega
theorem u_.first (h:u_ v1 v2 vl u2 ul top P1 P2 V U q):q≤top/v1:=by
 have hP:=h.hP
 have p2:=h.p2
 have v1p:=h.v1
 refine(Int.le_ediv_iff_mul_le (by omega)).2 ?_
 have e:=h.expand q
 have a1:0≤(q*v2)*P2:=Int.mul_nonneg (Int.mul_nonneg h.q.1 h.v2.1) (by omega)
 have a2:0≤q*vl:=Int.mul_nonneg h.q.1 h.vl.1
 have lo:=h.lo
 have hU:=h.hU
 have ul:=h.ul
 have b1:u2*P2≤4294967295*P2:=Int.mul_le_mul_of_nonneg_right (by have:=h.u2;omega) (by omega)
 have b2:(q*v1)*P1<(top+1)*P1:=by rw[Int.add_mul];omega
 have:=Int.lt_of_mul_lt_mul_right b2 (by omega)
 omega
theorem u_.down {g rest:Int}(h:u_ v1 v2 vl u2 ul top P1 P2 V U q)(hg:0≤g)(ht:g*v1+rest=top)(hc:rest*4294967296+u2<g*v2):q<g:=by
 by_cases hle:g≤q
 ·exfalso
  have hv:=h.agh
  have hP:=h.hP
  have p2:=h.p2
  have a0:g*V≤q*V:=Int.mul_le_mul_of_nonneg_right hle (by omega)
  have e:=h.expand g
  have a1:(rest*4294967296+u2+1)*P2≤(g*v2)*P2:=Int.mul_le_mul_of_nonneg_right (by omega) (by omega)
  have a2:0≤g*vl:=Int.mul_nonneg hg h.vl.1
  have lo:=h.lo
  have hU:=h.hU
  have ul:=h.ul
  have e2:top*P1=(g*v1)*P1+rest*P1:=by rw[←ht,Int.add_mul]
  have e3:rest*P1=4294967296*(rest*P2):=by rw[hP,Int.mul_left_comm]
  have e4:(rest*4294967296+u2+1)*P2=4294967296*(rest*P2)+u2*P2+P2:=by rw[Int.add_mul,Int.add_mul,Int.mul_assoc,Int.mul_left_comm,Int.one_mul]
  omega
 ·omega
theorem u_.stop {g rest:Int}(h:u_ v1 v2 vl u2 ul top P1 P2 V U q)(hg:0≤g∧g<4294967296)(ht:g*v1+rest=top)(hc:g*v2≤rest*4294967296+u2):g≤q+1:=by
 have hv:=h.agh
 have hP:=h.hP
 have p2:=h.p2
 have e:=h.expand g
 have a1:(g*v2)*P2≤(rest*4294967296+u2)*P2:=Int.mul_le_mul_of_nonneg_right hc (by omega)
 have a2:g*vl≤4294967295*vl:=Int.mul_le_mul_of_nonneg_right (by omega) h.vl.1
 have a3:1*P1≤v1*P1:=Int.mul_le_mul_of_nonneg_right (by have:=h.v1;omega) (by omega)
 have a4:0≤v2*P2:=Int.mul_nonneg h.v2.1 (by omega)
 have hU:=h.hU
 have hV:=h.hV
 have ul:=h.ul
 have vl:=h.vl
 have e2:top*P1=(g*v1)*P1+rest*P1:=by rw[←ht,Int.add_mul]
 have e3:rest*P1=4294967296*(rest*P2):=by rw[hP,Int.mul_left_comm]
 have e4:(rest*4294967296+u2)*P2=4294967296*(rest*P2)+u2*P2:=by rw[Int.add_mul,Int.mul_assoc,Int.mul_left_comm]
 have:(g-1)*V≤U:=by rw[Int.sub_mul,Int.one_mul];omega
 have:=h.ah6 this
 omega
theorem u_.amR {g rest:Int}(h:u_ v1 v2 vl u2 ul top P1 P2 V U q)(hg:0≤g∧g≤4294967296)(ht:g*v1+rest=top)(hc:4294967296≤rest):g≤q:=by
 have hv:=h.agh
 have hP:=h.hP
 have p2:=h.p2
 have e:=h.expand g
 refine h.ah6 ?_
 have a1:v2*P2≤4294967295*P2:=Int.mul_le_mul_of_nonneg_right (by have:=h.v2;omega) (by omega)
 have X9:=h.vl
 have a2:g*(v2*P2+vl)≤g*P1:=Int.mul_le_mul_of_nonneg_left (by omega) hg.1
 have a3:g*P1≤4294967296*P1:=Int.mul_le_mul_of_nonneg_right hg.2 (by omega)
 have a4:4294967296*P1≤rest*P1:=Int.mul_le_mul_of_nonneg_right hc (by omega)
 have e2:top*P1=(g*v1)*P1+rest*P1:=by rw[←ht,Int.add_mul]
 have e3:g*(v2*P2+vl)=(g*v2)*P2+g*vl:=by rw[Int.mul_add,←Int.mul_assoc]
 have ht:=h.ajI
 omega
end
theorem qJ {pre u post:List Int}{i:Nat}(h:i<u.length):(pre++u++post).getD (pre.length+i) 0=u.getD i 0:=by
 simp only[List.getD,List.append_assoc]
 rw[List.getElem?_append_right (by omega),Nat.add_sub_cancel_left,List.getElem?_append_left h]
theorem Gi {pre u post:List Int}{i:Nat}{x:Int}(h:i<u.length):(pre++u++post).set (pre.length+i) x=pre++u.set i x++post:=by
 rw[List.append_assoc,List.set_append_right _ _ (by omega),Nat.add_sub_cancel_left,List.set_append_left _ _ h,List.append_assoc]
def Gj (u0 v:List Int)(g:Int)(i:Nat)(u:List Int)(b c:Int):Prop:=
 u.length=u0.length∧aU u∧(0≤b∧b≤1)∧(0≤c∧c<4294967296)∧val u=val u0-g*val (v.take i)+(c+b)*pw i
theorem Gj.next {u0 v:List Int}{g:Int}{i:Nat}{u:List Int}{b c:Int}(h:Gj u0 v g i u b c)(hg:0≤g∧g<4294967296)(hv:aU v)(hi:i<u0.length):
  let t:=g*v.getD i 0+c
  (0≤t∧t<18446744073709551616)∧Gj u0 v g (i+1) (u.set i ((u.getD i 0-t%4294967296-b)%4294967296)) (if u.getD i 0<t%4294967296+b then 1 else 0) (t/4294967296):=by
 obtain⟨h1,h2,h3,h4,h5⟩:=h
 have gv:=hv.get i
 have gu:=h2.get i
 have gm:=um hg gv
 intro t
 have ht:t=g*v.getD i 0+c:=rfl
 refine⟨by omega,by simpa using h1,h2.set i (by omega),by split<;>omega,by omega,?_⟩
 have hb:∃b',b'=(if u.getD i 0<t%4294967296+b then(1:Int)else 0)∧(u.getD i 0-t%4294967296-b)%4294967296=u.getD i 0-t%4294967296-b+4294967296*b':=⟨_,rfl,by split<;>omega⟩
 obtain⟨b',AZ,e⟩:=hb
 rw[←AZ,pI _ (by omega),e,h5,dL,iY]
 have e2:u.getD i 0-t%4294967296-b+4294967296*b'-u.getD i 0= -(g*v.getD i 0)-(c+b)+(t/4294967296+b')*4294967296:=by omega
 rw[e2,Int.mul_add g,Int.add_mul (-(g*v.getD i 0)-(c+b)),Int.sub_mul (-(g*v.getD i 0)),Int.neg_mul,Int.mul_assoc g,Int.mul_assoc (t/4294967296+b')]
 omega
def pad:Nat→Int→List Int
 |0,_=>[]
 |n+1,x=>(x%4294967296)::pad n (x/4294967296)
theorem acX {a:List Int}(h:aU a):pad a.length (val a)=a:=by
 induction a with
 |nil=>rfl
 |cons x r ih=>
  have hx:=h.head
  have e1:(x+4294967296*val r)%4294967296=x:=by omega
  have e2:(x+4294967296*val r)/4294967296=val r:=by omega
  rw[List.length_cons,fM,pad,e1,e2,ih h.tail]
theorem UY:∀(n:Nat) (x:Int),0≤x→x<pw n→aU (pad n x)∧(pad n x).length=n∧val (pad n x)=x
 |0,x,h,h'=>⟨aU.nil,rfl,by rw[Dc]at h';rw[show pad 0 x=[]from rfl,iZ];omega⟩
 |n+1,x,h,h'=>by
  rw[iY]at h'
  obtain⟨h1,h2,h3⟩:=UY n (x/4294967296) (by omega) (by omega)
  rw[pad]
  exact⟨aU.cons (by omega) h1,by rw[List.length_cons,h2],by rw[fM,h3];omega⟩
theorem agi {pre u post v:List Int}{m:Nat}(hu:aU u)(hv:aU v)(lv:v.length=m+2)(lu:u.length=m+3)(hm:m<70368744177664)(hn:2147483648≤v.getD (m+1) 0)(dX:val u<4294967296*val v):
  cZ.F (pre++u++post) pre.length (m+3) (v,())=some ((val u/val v,()),pre++pad (m+3) (val u%val v)++post):=by
 have g0:=hu.get m
 have g1:=hu.get (m+1)
 have g2:=hu.get (m+2)
 have k0:=hv.get m
 have k1:=hv.get (m+1)
 have eV:val v=v.getD (m+1) 0*pw (m+1)+v.getD m 0*pw m+val (v.take m):=by
  have e1:=iy (a:=v) (i:=m+1) (by omega)
  have e2:=iy (a:=v) (i:=m) (by omega)
  rw[show m+1+1=v.length by omega,List.take_length]at e1
  omega
 have eU:val u=(u.getD (m+1) 0+4294967296*u.getD (m+2) 0)*pw (m+1)+u.getD m 0*pw m+val (u.take m):=by
  have e1:=iy (a:=u) (i:=m+2) (by omega)
  have e2:=iy (a:=u) (i:=m+1) (by omega)
  have e3:=iy (a:=u) (i:=m) (by omega)
  rw[show m+2+1=u.length by omega,List.take_length,iY (m+1)]at e1
  have e4:u.getD (m+2) 0*(4294967296*pw (m+1))=4294967296*(u.getD (m+2) 0*pw (m+1)):=Int.mul_left_comm _ _ _
  rw[show m+1+1=m+2 from rfl]at e2
  rw[Int.add_mul,Int.mul_assoc]
  omega
 have lvt:(v.take m).length=m:=by simp;omega
 have lut:(u.take m).length=m:=by simp;omega
 have hvt:=jM (hv.take m)
 have hut:=jM (hu.take m)
 rw[lvt]at hvt
 rw[lut]at hut
 have hV0:0<val v:=by
  have p1:=kS (m+1)
  have:1*pw (m+1)≤v.getD (m+1) 0*pw (m+1):=Int.mul_le_mul_of_nonneg_right (by omega) (by omega)
  have:0≤v.getD m 0*pw m:=Int.mul_nonneg k0.1 (Int.le_of_lt (kS m))
  have:=bn (hv.take m)
  omega
 have hU0:=bn hu
 have hq0:=Int.ediv_nonneg hU0 (Int.le_of_lt hV0)
 have hq1:val u/val v<4294967296:=by rw[Int.ediv_lt_iff_lt_mul hV0];exact dX
 have hdm:=Int.mul_ediv_add_emod (val u) (val v)
 have hr0:=Int.emod_nonneg (val u) (b:=val v) (by omega)
 have Sj:=Int.emod_lt_of_pos (val u) hV0
 have G:u_ (v.getD (m+1) 0) (v.getD m 0) (val (v.take m)) (u.getD m 0) (val (u.take m)) (u.getD (m+1) 0+4294967296*u.getD (m+2) 0) (pw (m+1)) (pw m) (val v) (val u) (val u/val v):=
  ⟨eV,eU,iY m,kS m,⟨hn,k1.2⟩,k0,⟨bn (hv.take m),hvt⟩,g0,⟨bn (hu.take m),hut⟩,by rw[Int.mul_comm];omega,by rw[Int.add_mul,Int.one_mul,Int.mul_comm];omega,⟨hq0,hq1⟩,by omega⟩
 generalize hQ:val u/val v=q at G hq0 hq1 hdm⊢
 generalize hR:val u%val v=r at hr0 Sj hdm⊢
 have XR:(m+2:Nat)<4611686018427387904:=by omega
 have hUv:val u=q*val v+r:=by rw[Int.mul_comm];omega
 have X9:=jM hv
 rw[lv]at X9
 refine cZ.of (pre++u++post) pre.length (m+3) v (q,()) _ fun g=> ?_
 have back:∀w:List Int,w.length=m+3→aU w→val w=val u-(q+1)*val v+pw (m+3)→∃j,∀k,cZ.L21 (k+j) (pre++w++post) pre.length (m+3) g v ((m+2:Nat):Int) q 0 ((m+2:Nat):Int) 0=some ((q,()),pre++pad (m+3) r++post,g):=by
  intro w lw hw ew
  refine up (fun k (s:Nat×List Int×Int)=>cZ.L21 k (pre++s.2.1++post) pre.length (m+3) g v ((m+2:Nat):Int) q s.2.2 ((m+2:Nat):Int) (s.1:Int)) _ (fun i s=>s.1.length=m+3∧aU s.1∧(0≤s.2∧s.2≤1)∧val s.1+s.2*pw i=val w+val (v.take i)) (m+2)
   (fun i s hi ⟨h1,h2,h3,h4⟩=> ?_) (fun s ⟨h1,h2,h3,h4⟩=> ?_) 0 (w,0) (Nat.zero_le _) ⟨lw,hw,by simp only;omega,by simp[iZ]⟩
  ·obtain ⟨x,c⟩:=s
   simp only at h1 h2 h3 h4
   have gx:=h2.get i
   have gv:=hv.get i
   refine⟨(x.set i ((x.getD i 0+v.getD i 0+c)%4294967296),(x.getD i 0+v.getD i 0+c)/4294967296),⟨by simpa using h1,h2.set i (by omega),by simp only;omega,?_⟩,1,fun k=> ?_⟩
   ·rw [oM (x:=v.getD i 0) (by omega) (by omega) h4,dL];omega
   ·simp (disch:=omega) only[BB,cZ.UA,cZ.b21,qJ (show i<x.length by omega),Gi (show i<x.length by omega),QZ gx gv h3]
  ·obtain ⟨x,c⟩:=s
   simp only at h1 h2 h3 h4
   have gx:=h2.get (m+2)
   have e1:=iy (a:=x) (i:=m+2) (by omega)
   rw[show m+2+1=x.length by omega,List.take_length]at e1
   have hxt:=jM (h2.take (m+2))
   have hx0:=bn (h2.take (m+2))
   rw[show (x.take (m+2)).length=m+2 by simp;omega]at hxt
   have p2:=kS (m+2)
   rw[show v.take (m+2)=v by rw[←lv,List.take_length],ew,iY (m+2),hUv,Int.add_mul,Int.one_mul]at h4
   have h5:val (x.take (m+2))+(x.getD (m+2) 0+c)*pw (m+2)=r+4294967296*pw (m+2):=by rw[Int.add_mul];omega
   have h6:x.getD (m+2) 0+c=4294967296:=by
    rcases Int.lt_trichotomy (x.getD (m+2) 0+c) 4294967296 with dX|he|hgt
    ·exfalso
     have:(x.getD (m+2) 0+c)*pw (m+2)≤4294967295*pw (m+2):=Int.mul_le_mul_of_nonneg_right (by omega) (by omega)
     omega
    ·exact he
    ·omega
   rw[h6]at h5
   have h7:val (x.set (m+2) 0)=r:=by rw[pI _ (by omega),Int.sub_mul,Int.zero_mul];omega
   have h8:=acX (h2.set (m+2) (v:=0) (by decide))
   rw[h7,List.length_set,h1]at h8
   have e7:IntKind.u32.wrap (x.getD (m+2) 0+c)=0:=by rw[SA,h6];rfl
   refine⟨1,fun k=> ?_⟩
   simp(disch:=omega) only[BB,cZ.UA,cZ.b21,qJ (show m+2<x.length by omega),Gi (show m+2<x.length by omega),e7,h8,IntWalk.u32_in,cond_true]
 have take:∀t:Int,(t=q∨t=q+1)→0≤t∧t<4294967296→∃j,∀k,cZ.FW (k+j) (pre++u++post) pre.length (m+3) g v ((m+2:Nat):Int) t 0 0 ((m+2:Nat):Int) 0=some ((q,()),pre++pad (m+3) r++post,g):=by
  intro t ht XQ
  refine up (fun k (s:Nat×List Int×Int×Int)=>cZ.FW k (pre++s.2.1++post) pre.length (m+3) g v ((m+2:Nat):Int) t s.2.2.1 s.2.2.2 ((m+2:Nat):Int) (s.1:Int)) _ (fun i s=>Gj u v t i s.1 s.2.1 s.2.2) (m+2)
   (fun i s hi hs=> ?_) (fun s hs=> ?_) 0 (u,0,0) (Nat.zero_le _) ⟨rfl,hu,by simp only;omega,by simp only;omega,by simp[iZ]⟩
  ·obtain ⟨x,b,c⟩:=s
   obtain⟨hT,hn⟩:=Gj.next hs XQ hv (by omega)
   obtain⟨h1,h2,h3,h4,h5⟩:=hs
   simp only at h1 h2 h3 h4 hT
   have gx:=h2.get i
   have gm:=um XQ (hv.get i)
   have gv:=hv.get i
   refine⟨(x.set i ((x.getD i 0-(t*v.getD i 0+c)%4294967296-b)%4294967296),(if x.getD i 0<(t*v.getD i 0+c)%4294967296+b then 1 else 0),(t*v.getD i 0+c)/4294967296),hn,1,fun k=> ?_⟩
   have hS:=Kq gx (show 0≤(t*v.getD i 0+c)%4294967296∧(t*v.getD i 0+c)%4294967296<4294967296 by omega) h3
   simp(disch:=omega) only[BB,cZ.rW,cZ.b10,qJ (show i<x.length by omega),Gi (show i<x.length by omega),IntWalk.u64_in,SA,pV,hS]
  ·obtain ⟨x,b,c⟩:=s
   obtain⟨h1,h2,h3,h4,h5⟩:=hs
   simp only at h1 h2 h3 h4 h5
   rw[show v.take (m+2)=v by rw[←lv,List.take_length]]at h5
   have gx:=h2.get (m+2)
   have hS:=Kq gx h4 h3
   have hl:=h2.set (m+2) (v:=(x.getD (m+2) 0-c-b)%4294967296) (by omega)
   have Jq:val (x.set (m+2) ((x.getD (m+2) 0-c-b)%4294967296))=val u-t*val v+(if x.getD (m+2) 0<c+b then 1 else 0)*pw (m+3):=by
    have hb:∃b',b'=(if x.getD (m+2) 0<c+b then(1:Int)else 0)∧(x.getD (m+2) 0-c-b)%4294967296=x.getD (m+2) 0-c-b+4294967296*b':=⟨_,rfl,by split<;>omega⟩
    obtain⟨b',AZ,e⟩:=hb
    rw[←AZ,pI _ (by omega),e,h5,iY (m+2)]
    have e2:x.getD (m+2) 0-c-b+4294967296*b'-x.getD (m+2) 0= -(c+b)+b'*4294967296:=by omega
    rw[e2,Int.add_mul (-(c+b)),Int.neg_mul,Int.mul_assoc b']
    omega
   have hvn:=bn hl
   have hvx:=jM hl
   rw[List.length_set,h1,lu]at hvx
   have hp3:pw (m+3)=4294967296*pw (m+2):=iY (m+2)
   have p2:=kS (m+2)
   by_cases hb:x.getD (m+2) 0<c+b
   ·rw [if_pos hb,Int.one_mul]at Jq
    have htq:t=q+1:=by
     rcases ht with h|h
     ·exfalso
      rw[h]at Jq
      omega
     ·exact h
    subst htq
    obtain⟨j,hj⟩:=back _ (by rw[List.length_set,h1,lu]) hl Jq
    refine⟨j+1,fun k=> ?_⟩
    rw[←Nat.add_assoc]
    simp(disch:=omega) only[BB,cZ.rW,cZ.b10,qJ (show m+2<x.length by omega),Gi (show m+2<x.length by omega),IntWalk.u32_in,hS,c_t]
    rw[show IntKind.u64.wrap (q+1-1)=q by rw[IntWalk.u64_in _ (by omega)];omega]
    exact hj k
   ·rw [if_neg hb,Int.zero_mul,Int.add_zero]at Jq
    have htq:t=q:=by
     rcases ht with h|h
     ·exact h
     ·exfalso
      rw[h,Int.add_mul,Int.one_mul]at Jq
      omega
    subst htq
    have h8:=acX hl
    rw[Jq,List.length_set,h1,lu,show val u-t*val v=r by omega]at h8
    refine⟨1,fun k=> ?_⟩
    simp(disch:=omega) only[BB,cZ.rW,cZ.b10,qJ (show m+2<x.length by omega),Gi (show m+2<x.length by omega),IntWalk.u32_in,hS,h8,cond_true]
 have guess:∀s:Int×Int,(q≤s.1∧s.1≤4294967297)∧(0≤s.2∧s.2<4294967296)∧s.1*v.getD (m+1) 0+s.2=u.getD (m+1) 0+4294967296*u.getD (m+2) 0→∃j,∀k,cZ.L4 (k+j) (pre++u++post) pre.length (m+3) g v ((m+2:Nat):Int) s.1 s.2=some ((q,()),pre++pad (m+3) r++post,g):=by
  refine ends (fun k (s:Int×Int)=>cZ.L4 k (pre++u++post) pre.length (m+3) g v ((m+2:Nat):Int) s.1 s.2) _ _ (fun s=>s.1.toNat) (fun s ⟨h1,h2,h3⟩=> ?_)
  obtain⟨x,y⟩:=s
  simp only at h1 h2 h3
  have e1:((m+2:Nat):Int)-1=((m+1:Nat):Int):=by omega
  have e2:((m+2:Nat):Int)-2=(m:Int):=by omega
  have Zx:=QY g0 h2
  rw[←MG]at Zx
  have less:q<x→(∀k,cZ.L4 (k+1) (pre++u++post) pre.length (m+3) g v ((m+2:Nat):Int) x y=(if y+v.getD (m+1) 0<4294967296 then cZ.L4 k (pre++u++post) pre.length (m+3) g v ((m+2:Nat):Int) (x-1) (y+v.getD (m+1) 0)else cZ.FW k (pre++u++post) pre.length (m+3) g v ((m+2:Nat):Int) (x-1) 0 0 ((m+2:Nat):Int) 0))→
    (∃s':Int×Int,((q≤s'.1∧s'.1≤4294967297)∧(0≤s'.2∧s'.2<4294967296)∧s'.1*v.getD (m+1) 0+s'.2=u.getD (m+1) 0+4294967296*u.getD (m+2) 0)∧s'.1.toNat<x.toNat∧∃j,∀k,cZ.L4 (k+j) (pre++u++post) pre.length (m+3) g v ((m+2:Nat):Int) x y=cZ.L4 k (pre++u++post) pre.length (m+3) g v ((m+2:Nat):Int) s'.1 s'.2)∨
    ∃j,∀k,cZ.L4 (k+j) (pre++u++post) pre.length (m+3) g v ((m+2:Nat):Int) x y=some ((q,()),pre++pad (m+3) r++post,g):=by
   intro hq hL
   have h4:(x-1)*v.getD (m+1) 0+(y+v.getD (m+1) 0)=u.getD (m+1) 0+4294967296*u.getD (m+2) 0:=by rw[Int.sub_mul,Int.one_mul];omega
   by_cases hy:y+v.getD (m+1) 0<4294967296
   ·exact .inl ⟨(x-1,y+v.getD (m+1) 0),⟨by simp only;omega,by simp only;omega,h4⟩,by simp only;omega,1,fun k=>by rw[hL k,if_pos hy]⟩
   ·have:=G.amR (g:=x-1) (rest:=y+v.getD (m+1) 0) (by omega) h4 (by omega)
    obtain⟨j,hj⟩:=take (x-1) (by omega) (by omega)
    exact .inr ⟨j+1,fun k=>by rw[←Nat.add_assoc,hL,if_neg hy];exact hj k⟩
  by_cases hx:4294967296≤x
  ·refine less (by omega) fun k=> ?_
   by_cases hy:y+v.getD (m+1) 0<4294967296
   ·simp (disch:=omega) only[BB,cZ.iW,cZ.b4,pV,IntWalk.u64_in,IntWalk.i64_in,e1]
   ·simp (disch:=omega) only[BB,cZ.iW,cZ.b4,pV,IntWalk.u64_in,IntWalk.i64_in,e1]
  ·have gm:=um (show 0≤x∧x<4294967296 by omega) k0
   by_cases hc:y*4294967296+u.getD m 0<x*v.getD m 0
   ·have hqx:=G.down (g:=x) (rest:=y) (by omega) h3 hc
    refine less hqx fun k=> ?_
    by_cases hy:y+v.getD (m+1) 0<4294967296
    ·simp (disch:=omega) only[BB,cZ.iW,cZ.b4,pV,IntWalk.u64_in,IntWalk.i64_in,e1,e2,qJ (show m<u.length by omega),Zx]
    ·simp (disch:=omega) only[BB,cZ.iW,cZ.b4,pV,IntWalk.u64_in,IntWalk.i64_in,e1,e2,qJ (show m<u.length by omega),Zx]
   ·have:=G.stop (g:=x) (rest:=y) (by omega) h3 (by omega)
    obtain⟨j,hj⟩:=take x (by omega) (by omega)
    refine .inr ⟨j+1,fun k=> ?_⟩
    rw[←Nat.add_assoc]
    simp(disch:=omega) only[BB,cZ.iW,cZ.b4,pV,IntWalk.u64_in,IntWalk.i64_in,e1,e2,qJ (show m<u.length by omega),Zx]
    exact hj k
 have hf:=G.first
 have hun:u.getD (m+2) 0≤v.getD (m+1) 0:=by
  by_cases hc:u.getD (m+2) 0≤v.getD (m+1) 0
  ·exact hc
  ·exfalso
   have a1:(v.getD (m+1) 0+1)*pw (m+2)≤u.getD (m+2) 0*pw (m+2):=Int.mul_le_mul_of_nonneg_right (by omega) (Int.le_of_lt (kS _))
   have e1:=iy (a:=u) (i:=m+2) (by omega)
   rw[show m+2+1=u.length by omega,List.take_length]at e1
   have:=bn (hu.take (m+2))
   have e2:=iy (a:=v) (i:=m+1) (by omega)
   rw[show m+1+1=v.length by omega,List.take_length]at e2
   have arJ:=jM (hv.take (m+1))
   rw[show (v.take (m+1)).length=m+1 by simp;omega]at arJ
   rw[Int.add_mul,Int.one_mul,iY (m+1)]at a1
   have e3:v.getD (m+1) 0*(4294967296*pw (m+1))=4294967296*(v.getD (m+1) 0*pw (m+1)):=Int.mul_left_comm _ _ _
   rw[iY (m+1)]at e1
   omega
 have arK:(u.getD (m+1) 0+4294967296*u.getD (m+2) 0)/v.getD (m+1) 0≤4294967297:=by
  have h1:(u.getD (m+1) 0+4294967296*u.getD (m+2) 0)/v.getD (m+1) 0<4294967298:=by
   rw[Int.ediv_lt_iff_lt_mul (by omega)];omega
  omega
 have arL:=Int.mul_ediv_add_emod (u.getD (m+1) 0+4294967296*u.getD (m+2) 0) (v.getD (m+1) 0)
 have hm0:=Int.emod_nonneg (u.getD (m+1) 0+4294967296*u.getD (m+2) 0) (b:=v.getD (m+1) 0) (by omega)
 have V6:=Int.emod_lt_of_pos (u.getD (m+1) 0+4294967296*u.getD (m+2) 0) (b:=v.getD (m+1) 0) (by omega)
 obtain⟨j,hj⟩:=guess ((u.getD (m+1) 0+4294967296*u.getD (m+2) 0)/v.getD (m+1) 0,(u.getD (m+1) 0+4294967296*u.getD (m+2) 0)%v.getD (m+1) 0) ⟨⟨hf,arK⟩,⟨hm0,by simp only;omega⟩,by simp only;rw[Int.mul_comm];exact arL⟩
 refine⟨0+j,?_⟩
 have Zx:=QY g1 g2
 rw[←MG]at Zx
 have e1:((m+2:Nat):Int)-1=((m+1:Nat):Int):=by omega
 simp(disch:=omega) only[BB,cZ.e,lv,e1,IntWalk.i64_in,qJ (show m+2<u.length by omega),qJ (show m+1<u.length by omega),IntWalk.u64_in,Zx,IntWalk.u64_quo,IntWalk.rem_in]
 exact hj 0
end Go.Fx.Tryz
