import Derived.Test.YthmdbafinpmojaaGreatNB
set_option linter.unusedVariables false
set_option linter.unusedSimpArgs false
namespace Go.Fx.Tryz
open Go Go.Fx Go.Fx.sZ
def wC (u:List Int)(s n i:Nat)(r:List Int):Prop:=
 r.length=n∧aU r∧(∀j,i≤j→r.getD j 0=0)∧val r*2^s=val (u.take i)-u.getD 0 0%2^s+(u.getD i 0%2^s)*pw i
theorem wC.start {u:List Int}{s n:Nat}:wC u s n 0 (List.replicate n 0):=
 ⟨by simp,aU.xA _,fun j _=>iU _ _,by rw[kK,List.take_zero,iZ,Dc];omega⟩
theorem Po {x y:Int}{s:Nat}(hx:0≤x∧x<4294967296)(hy:0≤y∧y<4294967296)(hs:s<32):
  (y*2^(32-s))%4294967296=2^(32-s)*(y%2^s)∧0≤y%2^s∧0≤x/2^s∧x/2^s<2^(32-s)∧2^(32-s)*(y%2^s)+x/2^s<4294967296∧(2^(32-s)*(y%2^s)+x/2^s)*2^s=x-x%2^s+4294967296*(y%2^s):=by
 have hB:=rC (u:=s) (by omega)
 have p1:=two_pos s
 have p2:=two_pos (32-s)
 have hm0:=Int.emod_nonneg y (b:=2^s) (by omega)
 have V6:=Int.emod_lt_of_pos y p1
 have hd0:=Int.ediv_nonneg hx.1 (Int.le_of_lt p1)
 have hd1:x/2^s<2^(32-s):=by rw[Int.ediv_lt_iff_lt_mul p1,Int.mul_comm,←hB];exact hx.2
 have h8:2^(32-s)*(y%2^s)≤2^(32-s)*(2^s-1):=Int.mul_le_mul_of_nonneg_left (by omega) (Int.le_of_lt p2)
 rw[Int.mul_sub,Int.mul_comm (2^(32-s)) (2^s),←hB,Int.mul_one]at h8
 have hxx:=Int.mul_ediv_add_emod x (2^s)
 refine⟨?_,hm0,hd0,hd1,by omega,?_⟩
 ·rw [hB,Int.mul_comm y,Int.mul_comm (2^s) (2^(32-s)),Int.mul_emod_mul_of_pos _ _ p2]
 ·rw [Int.add_mul,Int.mul_right_comm,Int.mul_comm (2^(32-s)) (2^s),←hB,Int.mul_comm (x/2^s)];omega
theorem wC.next {u:List Int}{s n i:Nat}{r:List Int}(hu:aU u)(hs:s<32)(hi:i<n)(h:wC u s n i r):
  wC u s n (i+1) (r.set i (2^(32-s)*(u.getD (i+1) 0%2^s)+u.getD i 0/2^s)):=by
 obtain⟨h1,h2,h3,h4⟩:=h
 obtain⟨_,d1,d2,d3,d4,d5⟩:=Po (hu.get i) (hu.get (i+1)) hs
 have p2:=two_pos (32-s)
 have:=Int.mul_nonneg (Int.le_of_lt p2) d1
 refine⟨by simpa using h1,h2.set i (by omega),fun j hj=> ?_,?_⟩
 ·rw [fZ (by omega),if_neg (by omega)];exact h3 j (by omega)
 ·rw [pI _ (by omega),h3 i (Nat.le_refl _),Int.sub_zero,Int.add_mul,h4,Int.mul_right_comm,d5,dL,iY]
  rw[Int.add_mul (u.getD i 0-u.getD i 0%2^s),Int.sub_mul (u.getD i 0),Int.mul_assoc 4294967296]
  have e:u.getD (i+1) 0%2^s*(4294967296*pw i)=4294967296*(u.getD (i+1) 0%2^s*pw i):=Int.mul_left_comm _ _ _
  omega
theorem agj {u:List Int}{s:Nat}(hs:s<32):val u%2^s=u.getD 0 0%2^s:=by
 cases u with
 |nil=>simp[iZ]
 |cons x r=>
  have hB:=rC (u:=s) (by omega)
  rw[fM,hB,Int.mul_assoc,Int.add_mul_emod_self_left]
  rfl
theorem wC.last {u:List Int}{s n:Nat}{r:List Int}(hu:aU u)(hs:s<32)(h:wC u s n n r)(dX:val u<pw n)(hz:u.getD n 0=0):val r=val u/2^s:=by
 obtain⟨h1,h2,h3,h4⟩:=h
 have p1:=two_pos s
 rw[hz,Int.zero_emod,Int.zero_mul,Int.add_zero,su hu dX,←agj hs]at h4
 have:=Int.mul_ediv_add_emod (val u) (2^s)
 have h5:val r*2^s=(val u/2^s)*2^s:=by rw[h4,Int.mul_comm (val u/2^s)];omega
 exact Int.eq_of_mul_eq_mul_right (by omega) h5
theorem ajK {x:Nat}(hx:x<4294967296):iC.F ((x:Int),())=some ((32:Int)-jc x,()):=by
 have hb:jc x≤32:=by
  by_cases h0:x=0
  ·subst h0;decide
  ·obtain ⟨t,h1,h2,h3⟩:=zi h0
   by_cases ht:t<32
   ·omega
   ·have:=Nat.pow_le_pow_right (n:=2) (by decide) (show 32≤t by omega)
    omega
 refine iC.of 0 x ?_
 simp(disch:=omega) only[BB,iC.e,Yk hx,IntWalk.i64_in]
theorem aaf {x:Int}(hx:0<x∧x<4294967296):∃s:Nat,s<32∧iC.F (x,())=some ((s:Int),())∧2147483648≤x*2^s∧(x+1)*2^s≤4294967296:=by
 obtain⟨n,rfl⟩:=Int.eq_ofNat_of_zero_le (Int.le_of_lt hx.1)
 obtain⟨t,h1,h2,h3⟩:=zi (n:=n) (by omega)
 have ht:t<32:=by
  by_cases ht:t<32
  ·exact ht
  ·have:=Nat.pow_le_pow_right (n:=2) (by decide) (show 32≤t by omega)
   omega
 refine⟨31-t,by omega,?_,?_,?_⟩
 ·rw [ajK (by omega),h1];congr 2;omega
 ·have h4:2^t*2^(31-t)≤n*2^(31-t):=Nat.mul_le_mul_right _ h2
  rw[←Nat.pow_add,show t+(31-t)=31 by omega]at h4
  have h5:((n*2^(31-t):Nat):Int)=(n:Int)*2^(31-t):=by push_cast;rfl
  rw[←h5];omega
 ·have h4:(n+1)*2^(31-t)≤2^(t+1)*2^(31-t):=Nat.mul_le_mul_right _ h3
  rw[←Nat.pow_add,show t+1+(31-t)=32 by omega]at h4
  have h5:(((n+1)*2^(31-t):Nat):Int)=((n:Int)+1)*2^(31-t):=by push_cast;rfl
  rw[←h5];omega
theorem ajL {a b:List Int}(ha:aU a)(hb:Nrm b)(la:a.length<70368744177664)(lb:2≤b.length)(hl:b.length≤a.length):jS.F (a,b,())=some (canon (val a/val b),canon (val a%val b),()):=by
 obtain⟨m,hm⟩:∃m,b.length=m+2:=⟨b.length-2,by omega⟩
 have gx:=hb.1.get (m+1)
 have hx0:b.getD (m+1) 0≠0:=by
  have:=hb.2.resolve_left (by omega)
  rwa[hm]at this
 obtain⟨s,hs,hF,JJ,D5⟩:=aaf (x:=b.getD (m+1) 0) (by omega)
 have p1:=two_pos s
 have pm:=kS (m+1)
 obtain⟨v0,JK,Jq,hv3,hv4⟩:=Yl (up:=s) hb.1 (by omega) hs
 obtain⟨u0,Tn,Vr,hu3,hu4⟩:=Yl (up:=s) ha la hs
 have eb:=iy (a:=b) (i:=m+1) (by omega)
 rw[show m+1+1=b.length by omega,List.take_length]at eb
 have hbt:=jM (hb.1.take (m+1))
 have VX:=bn (hb.1.take (m+1))
 rw[show (b.take (m+1)).length=m+1 by simp;omega]at hbt
 have amU:val v0<pw (m+2):=by
  rw[hv4]
  have h1:val b*2^s<(b.getD (m+1) 0+1)*pw (m+1)*2^s:=Int.mul_lt_mul_of_pos_right (by rw[Int.add_mul,Int.one_mul];omega) p1
  have h2:(b.getD (m+1) 0+1)*2^s*pw (m+1)≤4294967296*pw (m+1):=Int.mul_le_mul_of_nonneg_right D5 (by omega)
  rw[Int.mul_right_comm]at h1
  rw[iY (m+1)];omega
 have hvL:=Jq.take (m+2)
 have X9:(v0.take (m+2)).length=m+2:=by simp;omega
 have hvV:=su Jq amU
 have hV:val (v0.take (m+2))=val b*2^s:=by rw[hvV,hv4]
 generalize ZA:v0.take (m+2)=v at hvL X9 hvV hV
 have ev:=iy (a:=v) (i:=m+1) (by omega)
 rw[show m+1+1=v.length by omega,List.take_length]at ev
 have hvt:=jM (hvL.take (m+1))
 have hv0:=bn (hvL.take (m+1))
 rw[show (v.take (m+1)).length=m+1 by simp;omega]at hvt
 have hn:2147483648≤v.getD (m+1) 0:=by
  have h1:b.getD (m+1) 0*pw (m+1)*2^s≤val b*2^s:=Int.mul_le_mul_of_nonneg_right (by omega) (Int.le_of_lt p1)
  have h2:2147483648*pw (m+1)≤b.getD (m+1) 0*2^s*pw (m+1):=Int.mul_le_mul_of_nonneg_right JJ (by omega)
  rw[Int.mul_right_comm]at h1
  by_cases hc:2147483648≤v.getD (m+1) 0
  ·exact hc
  ·exfalso
   have:v.getD (m+1) 0*pw (m+1)≤2147483647*pw (m+1):=Int.mul_le_mul_of_nonneg_right (by omega) (by omega)
   omega
 have hVp:2147483648*pw (m+1)≤val v:=by
  have:2147483648*pw (m+1)≤v.getD (m+1) 0*pw (m+1):=Int.mul_le_mul_of_nonneg_right hn (by omega)
  omega
 have hV0:0<val v:=by omega
 have auj:val v<pw (m+2):=by rw[hvV];exact amU
 have hul:val (u0.drop (a.length+1-(m+2)))<val v:=by
  have e1:=lJ (u0.drop (a.length+1-(m+2))) (m+1) (by simp;omega)
  rw[List.drop_drop,show a.length+1-(m+2)+(m+1)=a.length by omega]at e1
  have e2:=lJ u0 a.length (by omega)
  have h1:=jM ((Vr.drop (a.length+1-(m+2))).take (m+1))
  rw[show ((u0.drop (a.length+1-(m+2))).take (m+1)).length=m+1 by simp;omega]at h1
  have h2:=bn (Vr.take a.length)
  have h3:=jM ha
  have pa:=kS a.length
  have h4:val a*2^s<pw a.length*2^s:=Int.mul_lt_mul_of_pos_right h3 p1
  have h5:val (u0.drop a.length)<2^s:=by
   have:pw a.length*val (u0.drop a.length)<pw a.length*2^s:=by omega
   exact Int.lt_of_mul_lt_mul_left this (Int.le_of_lt pa)
  have h6:(2:Int)^s≤2147483648:=by
   have:(2:Nat)^s≤2^31:=Nat.pow_le_pow_right (by decide) (by omega)
   have h:=qP s
   omega
  have h7:pw (m+1)*val (u0.drop a.length)≤pw (m+1)*2147483647:=Int.mul_le_mul_of_nonneg_left (by omega) (by omega)
  omega
 have down:∀u q:List Int,aU u→u.length=a.length+1→aU q→q.length≤a.length→val u<val v→val u+val q*val v=val a*2^s→
   ∃j,∀k,jS.L12 (k+j) (s:Int) u q (List.replicate (m+2) 0) ((m+2:Nat):Int) 0=some (canon (val a/val b),canon (val a%val b),()):=by
  intro u q hu lu hq lq dX he
  have hd:=Ag (x:=val a*2^s) (q:=val q) (b:=val v) (r:=val u) (by omega) (bn hu) dX
  rw[hV,Int.mul_comm (val a),Int.mul_comm (val b),Int.mul_ediv_mul_of_pos _ _ p1,Int.mul_emod_mul_of_pos _ _ p1]at hd
  have hun:u.getD (m+2) 0=0:=by
   have e1:=lJ u (m+2) (by omega)
   have e2:=bn (hu.take (m+2))
   have e3:=bn (hu.drop (m+2))
   have e4:val (u.drop (m+2))=0:=by
    by_cases h0:val (u.drop (m+2))=0
    ·exact h0
    ·have:pw (m+2)*1≤pw (m+2)*val (u.drop (m+2)):=Int.mul_le_mul_of_nonneg_left (by omega) (Int.le_of_lt (kS _))
     omega
   by_cases h5:m+2<u.length
   ·rw [uZ h5,fM]at e4
    have:=hu.get (m+2)
    have:=bn (hu.drop (m+2+1))
    omega
   ·exact m_ (by omega)
  refine up (fun k (x:Nat×List Int)=>jS.L12 k (s:Int) u q x.2 ((m+2:Nat):Int) (x.1:Int)) _ (fun i r=>wC u s (m+2) i r) (m+2) (fun i r hi hr=> ?_) (fun r hr=> ?_) 0 _ (Nat.zero_le _) wC.start
  ·have Qz:=hr.next hu hs hi
   obtain⟨h1,h2,h3,h4⟩:=hr
   have g1:=hu.get i
   have g2:=hu.get (i+1)
   obtain⟨d0,d1,d2,d3,d4,d5⟩:=Po g1 g2 hs
   have p2:=two_pos (32-s)
   have e1:oV .u32 (u.getD i 0) (s:Int)=u.getD i 0/2^s:=Pn _ s (by omega)
   have e2:(32:Int)-(s:Int)=((32-s:Nat):Int):=by omega
   have e3:IntKind.u32.wrap (yP .u64 (u.getD (i+1) 0) ((32-s:Nat):Int))=2^(32-s)*(u.getD (i+1) 0%2^s):=by
    rw[Ia .u64 _ (32-s) (by show 32-s≤64;omega),w64,SA,←d0,Int.emod_emod_of_dvd _ (by decide)]
   have e4:eP .or .u32 (u.getD i 0/2^s) (2^(32-s)*(u.getD (i+1) 0%2^s))=2^(32-s)*(u.getD (i+1) 0%2^s)+u.getD i 0/2^s:=H_ (32-s) (u.getD (i+1) 0%2^s) rfl d1 ⟨d2,d3⟩ d4
   refine⟨_,Qz,1,fun k=> ?_⟩
   simp(disch:=omega) only[BB,jS.UC,jS.b12,e1,e2,e3,e4,IntWalk.i64_in,IntWalk.u64_in]
   rw[show (i:Int)+1=((i+1:Nat):Int)by omega]
   simp(disch:=omega) only[BB,IntWalk.u64_in,e3,e4]
  ·have Nr:=hr.last hu hs (by omega) hun
   obtain⟨h1,h2,h3,h4⟩:=hr
   have e5:val r=val a%val b:=by
    rw[Nr,←hd.2,Int.mul_ediv_cancel_left _ (by omega)]
   refine⟨1,fun k=> ?_⟩
   simp(disch:=omega) only[BB,jS.UC,jS.b12,BP hq (by omega),BP h2 (by omega),e5,←hd.1]
 obtain⟨j,hj⟩:=ends (fun k (x:Nat×List Int×List Int)=>jS.L7 k (s:Int) v x.2.1 ((m+2:Nat):Int) x.2.2 ((x.1:Int)-1)) (canon (val a/val b),canon (val a%val b),())
  (fun x=>x.2.1.length=a.length+1∧aU x.2.1∧x.2.2.length=a.length+1-(m+2)∧aU x.2.2∧x.1≤a.length+1-(m+2)∧(∀j,j<x.1→x.2.2.getD j 0=0)∧val x.2.1+val x.2.2*val v=val a*2^s∧val (x.2.1.drop x.1)<val v) (fun x=>x.1) (fun x hx=>by
   obtain⟨K,u,q⟩:=x
   obtain⟨h1,h2,h3,h4,h5,h6,h7,h8⟩:=hx
   simp only at h1 h2 h3 h4 h5 h6 h7 h8
   rcases K with _|k
   ·obtain ⟨j,hj⟩:=down u q h2 h1 h4 (by omega) (by simpa using h8) h7
    refine .inr ⟨j+1,fun k=> ?_⟩
    rw[←Nat.add_assoc]
    simp(disch:=omega) only[BB,jS.jA,jS.b7,acU]
    exact hj k
   ·have hk:k<u.length:=by omega
    have gu:=h2.get k
    have hd:=uZ hk
    have hdl:aU (u.drop k):=h2.drop k
    have ZA:val (u.drop k)=u.getD k 0+4294967296*val (u.drop (k+1)):=by rw[hd,fM]
    have hp3:pw (m+3)=4294967296*pw (m+2):=iY (m+2)
    have jX:=su (n:=m+3) hdl (by omega)
    have sK:((u.drop k).take (m+3)).length=m+3:=by simp;omega
    have hsL:=hdl.take (m+3)
    have Qh:u=u.take k++(u.drop k).take (m+3)++u.drop (k+(m+3)):=by
     rw[List.append_assoc,←List.drop_drop,List.take_append_drop,List.take_append_drop]
    have hpl:(u.take k).length=k:=by simp;omega
    have ah7:val (u.drop (k+(m+3)))=0:=by
     have e1:=lJ (u.drop k) (m+3) (by simp;omega)
     rw[jX,List.drop_drop]at e1
     have:=kS (m+3)
     have e2:pw (m+3)*val (u.drop (k+(m+3)))=0:=by omega
     rcases Int.mul_eq_zero.1 e2 with h|h
     ·omega
     ·exact h
    have hD:=agi (pre:=u.take k) (u:=(u.drop k).take (m+3)) (post:=u.drop (k+(m+3))) hsL hvL X9 sK (by omega) hn (by rw[jX];omega)
    rw[←Qh,hpl,jX]at hD
    have hr0:=Int.emod_nonneg (val (u.drop k)) (b:=val v) (by omega)
    have Sj:=Int.emod_lt_of_pos (val (u.drop k)) hV0
    have hdm:=Int.mul_ediv_add_emod (val (u.drop k)) (val v)
    have hd0:=Int.ediv_nonneg (bn hdl) (Int.le_of_lt hV0)
    have hd1:val (u.drop k)/val v<4294967296:=by rw[Int.ediv_lt_iff_lt_mul hV0];omega
    obtain⟨w1,w2,w3⟩:=UY (m+3) (val (u.drop k)%val v) hr0 (by omega)
    generalize hQ:val (u.drop k)/val v=d at hD hd0 hd1 hdm
    generalize hR:val (u.drop k)%val v=r at hD hr0 Sj hdm w1 w2 w3
    have acK:(u.take k++pad (m+3) r++u.drop (k+(m+3))).length=a.length+1:=by
     rw[List.length_append,List.length_append,hpl,w2,List.length_drop];omega
    have ev1:val u=val (u.take k)+pw k*val (u.drop k):=lJ u k (by omega)
    have ev2:val (u.take k++pad (m+3) r++u.drop (k+(m+3)))=val (u.take k)+pw k*r:=by
     rw[List.append_assoc,xB,xB,w3,ah7,hpl];simp
    have ev3:val ((u.take k++pad (m+3) r++u.drop (k+(m+3))).drop k)=r:=by
     rw[List.append_assoc,List.drop_append_of_le_length (by omega),List.drop_of_length_le (by omega),List.nil_append,xB,w3,ah7];simp
    have e1:((k+1:Nat):Int)-1=(k:Int):=MH k
    have e2:(k:Int)+((m+2:Nat):Int)+1=((k+(m+3):Nat):Int):=by omega
    have e3:((k+(m+3):Nat):Int)-(k:Int)=((m+3:Nat):Int):=by omega
    have amV:Nat.beq (u.take k++pad (m+3) r++u.drop (k+(m+3))).length u.length=true:=by
     rw[acK,h1];exact Nat.beq_refl _
    refine .inl ⟨(k,u.take k++pad (m+3) r++u.drop (k+(m+3)),q.set k d),⟨acK,((h2.take k).app w1).app (h2.drop _),by simpa using h3,h4.set k ⟨hd0,hd1⟩,by simp only;omega,fun j hj=> ?_,?_,?_⟩,Nat.lt_succ_self k,1,fun i=> ?_⟩
    ·simp only at hj⊢
     rw[fZ (by omega),if_neg (by omega)];exact h6 j (by omega)
    ·simp only
     rw[ev2,pI d (by omega),h6 k (Nat.lt_succ_self k),Int.sub_zero,Int.add_mul,Int.mul_right_comm,Int.mul_comm d (val v)]
     have e4:pw k*val (u.drop k)=val v*d*pw k+pw k*r:=by rw[←hdm,Int.mul_add,Int.mul_comm (pw k) (val v*d)]
     omega
    ·simp only
     rw[ev3];exact Sj
    ·simp (disch:=omega) only[BB,jS.jA,jS.b7,e1,e2,e3,IntWalk.i64_in,cond_true,hD,amV]) (a.length+1-(m+2),u0,List.replicate (a.length+1-(m+2)) 0) ⟨hu3,Vr,by simp,aU.xA _,Nat.le_refl _,fun j _=>iU _ _,by simp only;rw[kK,hu4];omega,hul⟩
 refine jS.of (0+j) a b ?_
 have e1:((m+2:Nat):Int)-1=((m+1:Nat):Int):=by omega
 have e2:((a.length+1:Nat):Int)-((m+2:Nat):Int)=((a.length+1-(m+2):Nat):Int):=by omega
 simp(disch:=omega) only[BB,jS.e,hm,e1,IntWalk.i64_in,hF,JK,Tn,ZA,X9,hu3,hv3,e2]
 exact hj 0
def UZ (x y:Int):List Int×List Int×Int×Unit:=if y=0 then([],[],11,())else(canon (x/y),canon (x%y),0,())
theorem Div_F {a b:List Int}(ha:aU a)(hb:aU b)(la:a.length<70368744177664)(lb:b.length<70368744177664):qO.F (a,b,())=some (UZ (val a) (val b)):=by
 have ca:=ru (val a)
 have cb:=ru (val b)
 have DF:=bn ha
 have VX:=bn hb
 have va:=fA DF
 have vb:=fA VX
 have na:=jr ha
 have nb:=jr hb
 have hz:=f_ VX
 refine qO.of 0 a b ?_
 simp only[qO.e,Af ha (Nat.le_of_lt la),Af hb (Nat.le_of_lt lb),Option.bind_some]
 unfold UZ
 by_cases h0:val b=0
 ·have:=hz.2 h0
  rw[if_pos h0]
  simp(disch:=omega) only[BB]
 ·have h1:(canon (val b)).length≠0:=fun h=>h0 (hz.1 h)
  rw[if_neg h0]
  have hC:=Cmp_F ca.1 cb.1 (by omega) (by omega)
  rw[va,vb]at hC
  by_cases dX:val a<val b
  ·have hO:=BP ca.1 (by omega)
   rw[va]at hO
   simp(disch:=omega) only[BB,hC,wB dX,hO]
   rw[Int.ediv_eq_zero_of_lt DF dX,Int.emod_eq_of_lt DF dX,mD]
  ·have hc:0≤qy (val a) (val b):=by unfold qy;rw[if_neg dX];split<;>decide
   by_cases h2:(canon (val b)).length=1
   ·obtain ⟨y,hy⟩:∃y,canon (val b)=[y]:=by
     match hcb:canon (val b),h2 with
     |[y],_=>exact⟨y,rfl⟩
    have hyv:y=val b:=by rw[←vb,hy,ajF]
    have hyl:0<y∧y<4294967296:=by
     have:=cb.1.get 0
     rw[hy]at this
     simp at this
     omega
    obtain⟨q,q1,q2,q3,q4⟩:=agf (b:=y) ca.1 (by omega) hyl
    rw[va]at q1 q4
    have hr0:=Int.emod_nonneg (val a) (b:=y) (by omega)
    have Sj:=Int.emod_lt_of_pos (val a) (b:=y) (by omega)
    have hO1:=BP q2 (by omega)
    have hO2:=BP (acV (x:=val a%y) (by omega)) (by simp)
    rw[q4]at hO1
    rw[ajF]at hO2
    rw[hy]at hC⊢
    simp(disch:=omega) only[BB,hC,List.length_cons,List.length_nil,show List.getD [y] (Int.toNat 0) 0=y from rfl,q1,hO1,hO2]
    rw[hyv]
   ·have hle:(canon (val b)).length≤(canon (val a)).length:=by
     by_cases hh:(canon (val b)).length≤(canon (val a)).length
     ·exact hh
     ·exfalso
      have h3:=QW DF
      have h4:=F8 cb h1
      have h5:=rZ (m:=(canon (val a)).length) (n:=(canon (val b)).length-1) (by omega)
      omega
    have hL:=ajL ca.1 cb (by omega) (by omega) hle
    rw[va,vb]at hL
    simp(disch:=omega) only[BB,hC,hL]
theorem Ym {a:List Int}(ha:aU a)(la:a.length<70368744177664)(d:Bool):iG.F (a,d,())=some (canon (2*val a+(if d=true then 1 else 0)),()):=by
 have key:∀t:Int,0≤t∧t≤1→∃j,∀k,iG.L6 (k+j) a (List.replicate (a.length+1) 0) t 0=some (canon (2*val a+t),()):=by
  intro t ht
  refine up (fun k (s:Nat×List Int×Int)=>iG.L6 k a s.2.1 s.2.2 (s.1:Int)) _ (fun i s=>s.1.length=a.length+1∧aU s.1∧(0≤s.2∧s.2≤1)∧(∀j,i≤j→s.1.getD j 0=0)∧val s.1+s.2*pw i=2*val (a.take i)+t) a.length (fun i s hi ⟨h1,h2,h3,h4,h5⟩=> ?_) (fun s ⟨h1,h2,h3,h4,h5⟩=> ?_) 0 (List.replicate (a.length+1) 0,t) (Nat.zero_le _)
   ⟨by simp,aU.xA _,by simp only;omega,fun j _=>iU _ _,by simp[kK,iZ,Dc]⟩
  ·obtain ⟨c,q⟩:=s
   simp only at h1 h2 h3 h4 h5
   have g:=ha.get i
   have g3:=h4 i (Nat.le_refl i)
   have e1:yP .u32 (a.getD i 0) 1=(a.getD i 0*2)%4294967296:=(Ia .u32 _ 1 (by decide)).trans (SA _)
   have e2:eP .or .u32 ((a.getD i 0*2)%4294967296) q=(a.getD i 0*2)%4294967296+q:=UQ 1 ((a.getD i 0*2)%4294967296/2) (by omega) (by omega) (by omega) (by omega)
   have e3:oV .u32 (a.getD i 0) 31=a.getD i 0/2147483648:=Pn _ 31 (by decide)
   refine⟨(c.set i ((a.getD i 0*2)%4294967296+q),a.getD i 0/2147483648),⟨by simpa using h1,h2.set i (by omega),by simp only;omega,fun j hj=> ?_,?_⟩,1,fun k=> ?_⟩
   ·rw [fZ (by omega),if_neg (by omega)];exact h4 j (by omega)
   ·rw [oM (x:=a.getD i 0*2) (by omega) (by omega) h5,dL,Int.mul_add,Int.mul_right_comm,Int.mul_comm (a.getD i 0*pw i)];omega
   ·simp (disch:=omega) only[BB,iG.mJ,iG.b6,e1,e2,e3]
  ·obtain ⟨c,q⟩:=s
   simp only at h1 h2 h3 h4 h5
   rw[List.take_length]at h5
   have h6:=h2.set a.length (v:=q) (by omega)
   have h7:val (c.set a.length q)=2*val a+t:=by rw[pI q (by omega),h4 a.length (Nat.le_refl _),Int.sub_zero,h5]
   refine⟨1,fun k=> ?_⟩
   simp(disch:=omega) only[BB,iG.mJ,iG.b6,rNorm_F h6 (by simp;omega),h7]
 cases d
 ·obtain ⟨j,hj⟩:=key 0 (by omega)
  refine iG.of (0+j) a false ?_
  simp(disch:=omega) only[BB,iG.e,cond_false]
  exact hj 0
 ·obtain ⟨j,hj⟩:=key 1 (by omega)
  refine iG.of (0+j) a true ?_
  simp(disch:=omega) only[BB,iG.e,cond_true]
  exact hj 0
theorem acY (x:Int)(k:Nat):x/2^k=2*(x/2^(k+1))+(x/2^k)%2:=by
 have p:=two_pos k
 rw[Int.pow_succ,←Int.ediv_ediv_of_nonneg (Int.le_of_lt p)]
 omega
theorem agk (x:Int)(k:Nat):(if Q8 x (k:Int)=true then(1:Int)else 0)=(x/2^k)%2:=by
 unfold Q8
 rw[Int.toNat_natCast]
 have:=Int.emod_two_eq (x/2^k)
 by_cases h:(x/2^k)%2=1
 ·rw [if_pos (by simpa using h),h]
 ·rw [if_neg (by simpa using h)];omega
theorem agl {q:List Int}{k:Nat}{Q:Int}(hq:aU q)(hQ:0≤Q)(h:val q=Q*2^(k+1))(hk:k/32<q.length):
  eP .or .u32 (q.getD (k/32) 0) (2^(k%32))=q.getD (k/32) 0+2^(k%32)∧0≤q.getD (k/32) 0+2^(k%32)∧q.getD (k/32) 0+2^(k%32)<4294967296∧val (q.set (k/32) (q.getD (k/32) 0+2^(k%32)))=val q+2^k:=by
 have hs:k%32<32:=Nat.mod_lt _ (by decide)
 have g:=hq.get (k/32)
 have p1:=two_pos (k%32)
 have p2:=two_pos (k%32+1)
 have pj:=kS (k/32)
 have e0:(2:Int)^(k+1)=pw (k/32)*2^(k%32+1):=by
  rw[yH,←Int.pow_add];congr 1;omega
 have e1:=Q7 hq (Nat.le_of_lt hk)
 rw[h,e0,←Int.mul_assoc,Int.mul_comm Q,Int.mul_assoc,Int.mul_ediv_cancel_left _ (by omega),uZ hk,fM]at e1
 have hB:=rC (u:=k%32+1) (by omega)
 have e2:q.getD (k/32) 0=2^(k%32+1)*(Q-2^(32-(k%32+1))*val (q.drop (k/32+1))):=by
  rw[Int.mul_sub,←Int.mul_assoc,←hB,Int.mul_comm _ Q];omega
 generalize Q-2^(32-(k%32+1))*val (q.drop (k/32+1))=z at e2
 have hz:0≤z:=by
  by_cases hz:0≤z
  ·exact hz
  ·have:2^(k%32+1)*z≤2^(k%32+1)*(-1):=Int.mul_le_mul_of_nonneg_left (by omega) (Int.le_of_lt p2)
   omega
 have dX:2^(k%32+1)*z<2^(k%32+1)*2^(32-(k%32+1)):=by rw[←hB,←e2];omega
 have Si:=Int.lt_of_mul_lt_mul_left dX (Int.le_of_lt p2)
 have h8:2^(k%32+1)*z≤2^(k%32+1)*(2^(32-(k%32+1))-1):=Int.mul_le_mul_of_nonneg_left (by omega) (Int.le_of_lt p2)
 rw[Int.mul_sub,←hB,Int.mul_one]at h8
 have e3:(2:Int)^(k%32+1)=2*2^(k%32):=by rw[Int.pow_succ,Int.mul_comm]
 have hb:q.getD (k/32) 0+2^(k%32)<4294967296:=by omega
 refine⟨UQ (k%32+1) z e2 hz ⟨by omega,by omega⟩ hb,by omega,hb,?_⟩
 rw[pI _ hk,show q.getD (k/32) 0+2^(k%32)-q.getD (k/32) 0=2^(k%32)by omega,yH,←Int.pow_add]
 congr 2;omega
theorem W_ {x y q r t:List Int}{k:Nat}{bit:Bool}{c:Int}(hk:k<4611686018427387904)(hB:mY.F (x,(k:Int),())=some (bit,()))(hT:iG.F (r,bit,())=some (t,()))(hC:fQ.F (t,y,())=some (c,()))(hc:c<0)(i:Nat):
  jq.Nu (i+1) x y q r (k:Int)=jq.Nu i x y q t ((k:Int)-1):=by
 simp(disch:=omega) only[BB,jq.xk,jq.b11,hB,hT,hC,IntWalk.i64_in]
theorem Xa {x y q r t d:List Int}{k:Nat}{bit:Bool}{c e w:Int}(hk:k<4611686018427387904)(hkq:k/32<q.length)(hB:mY.F (x,(k:Int),())=some (bit,()))(hT:iG.F (r,bit,())=some (t,()))(hC:fQ.F (t,y,())=some (c,()))(hc:0≤c)
  (hS:jo.F (t,y,())=some (d,e,())) (hw:eP .or .u32 (q.getD (k/32) 0) (2^(k%32))=w) (i:Nat):
  jq.Nu (i+1) x y q r (k:Int)=jq.Nu i x y (q.set (k/32) w) d ((k:Int)-1):=by
 have e2:(k:Int)/32=((k/32:Nat):Int):=by omega
 have e3:(k:Int)%32=((k%32:Nat):Int):=by omega
 have e4:yP .u32 1 ((k%32:Nat):Int)=2^(k%32):=by
  have dX:(2:Nat)^(k%32)<2^32:=Nat.pow_lt_pow_right (by decide) (by omega)
  have h9:=qP (k%32)
  have p:=two_pos (k%32)
  rw[Ia .u32 _ (k%32) (by show k%32≤32;omega),SA,Int.one_mul];omega
 simp(disch:=omega) only[BB,jq.xk,jq.b11,hB,hT,hC,hS,IntWalk.i64_quo,IntWalk.rem_in,IntWalk.u64_in,e2,e3,e4,hw,IntWalk.i64_in]
theorem aag {x y:List Int}(Jo:aU x)(hyl:aU y)(hy0:0<val y)(lx:x.length<70368744177664)(ly:y.length<70368744177664)(K:Nat)(q:List Int)(hK:K≤32*x.length)(lq:q.length=x.length)(hq:aU q)(hv:val q=(val x/2^K/val y)*2^K):
  ∃j,∀k,jq.Nu (k+j) x y q (canon (val x/2^K%val y)) ((K:Int)-1)=some (canon (val x/val y),canon (val x%val y),0,()):=by
 have DF:=bn Jo
 have awt:=jM hyl
 refine ends (fun k (s:Nat×List Int)=>jq.Nu k x y s.2 (canon (val x/2^s.1%val y)) ((s.1:Int)-1)) _ (fun s=>s.1≤32*x.length∧s.2.length=x.length∧aU s.2∧val s.2=(val x/2^s.1/val y)*2^s.1) (fun s=>s.1) (fun s ⟨g1,g2,g3,g4⟩=> ?_) (K,q) ⟨hK,lq,hq,hv⟩
 obtain⟨K,q⟩:=s
 simp only at g1 g2 g3 g4
 rcases K with _|k
 ·refine .inr ⟨1,fun k=> ?_⟩
  simp only[Int.pow_zero,Int.ediv_one,Int.mul_one]at g4
  simp(disch:=omega) only[BB,jq.xk,jq.b11,acU,rNorm_F g3 (by omega),g4,Int.pow_zero,Int.ediv_one]
 ·have hk:k/32<q.length:=by omega
  have pk:=two_pos k
  have pk1:=two_pos (k+1)
  have hN0:0≤val x/2^(k+1):=Int.ediv_nonneg DF (Int.le_of_lt pk1)
  have hR0:=Int.emod_nonneg (val x/2^(k+1)) (b:=val y) (by omega)
  have hR1:=Int.emod_lt_of_pos (val x/2^(k+1)) hy0
  have hQ0:=Int.ediv_nonneg hN0 (Int.le_of_lt hy0)
  have hdm:=Int.mul_ediv_add_emod (val x/2^(k+1)) (val y)
  have EO:=acY (val x) k
  have Qa:=Int.emod_two_eq (val x/2^k)
  have hB:=MJ (i:=(k:Int)) Jo (by omega) (by omega)
  have hrl:=jJ (val x/2^(k+1)%val y)
  have Nr:=fA hR0
  have hrn:(canon (val x/2^(k+1)%val y)).length≤y.length:=oK hR0 (by omega)
  have hT:=Ym hrl (by omega) (Q8 (val x) (k:Int))
  rw[Nr,agk]at hT
  generalize hQ:val x/2^(k+1)/val y=Q at g4 hQ0 hdm
  generalize hR:val x/2^(k+1)%val y=R at hR0 hR1 hdm hT hrl Nr hrn
  generalize awy:(val x/2^k)%2=bit at EO Qa hT
  have hT0:0≤2*R+bit:=by omega
  have htn:(canon (2*R+bit)).length≤y.length+1:=oK hT0 (by rw[iY];omega)
  have hC:=rCmp_F (jJ (2*R+bit)) hyl (by omega) (by omega)
  rw[fA hT0]at hC
  have hS:=rSub_F (jJ (2*R+bit)) hyl (by omega) (by omega)
  rw[fA hT0]at hS
  have hN:val x/2^k=(2*Q)*val y+(2*R+bit):=by
   rw[EO,←hdm,Int.mul_assoc,Int.mul_comm Q];omega
  have hpk:(2:Int)^(k+1)=2*2^k:=by rw[Int.pow_succ,Int.mul_comm]
  by_cases hc:2*R+bit<val y
  ·have hd:=Ag hN hT0 hc
   refine .inl ⟨(k,q),⟨by simp only;omega,g2,g3,by simp only;rw[g4,hd.1,hpk,Int.mul_comm 2 Q,Int.mul_assoc]⟩,Nat.lt_succ_self k,1,fun i=> ?_⟩
   simp only[hd.2,hR,MH]
   exact W_ (by omega) hB hT hC (by rw[wB hc];decide) i
  ·have hc':0≤qy (2*R+bit) (val y):=by unfold qy;rw[if_neg hc];split<;>decide
   have hd:=Ag (x:=val x/2^k) (q:=2*Q+1) (b:=val y) (r:=2*R+bit-val y) (by rw[hN,Int.add_mul (2*Q)];omega) (by omega) (by omega)
   obtain⟨b1,b2,b3,b4⟩:=agl g3 hQ0 g4 hk
   rw[if_neg hc]at hS
   refine .inl ⟨(k,q.set (k/32) (q.getD (k/32) 0+2^(k%32))),⟨by simp only;omega,by simpa using g2,g3.set _ ⟨b2,b3⟩,?_⟩,Nat.lt_succ_self k,1,fun i=> ?_⟩
   ·simp only;rw[b4,g4,hd.1,hpk,Int.add_mul,Int.one_mul,Int.mul_comm 2 Q,Int.mul_assoc]
   ·simp only[hd.2,hR,MH]
    exact Xa (by omega) hk hB hT hC hc' hS b1 i
theorem rDiv_F {a b:List Int}(ha:aU a)(hb:aU b)(la:a.length<70368744177664)(lb:b.length<70368744177664):jq.F (a,b,())=some (UZ (val a) (val b)):=by
 have ca:=ru (val a)
 have cb:=ru (val b)
 have DF:=bn ha
 have VX:=bn hb
 have va:=fA DF
 have vb:=fA VX
 have na:=jr ha
 have nb:=jr hb
 have hz:=f_ VX
 suffices hs:∃k,jq.e (jq.Nu k) a b=some (UZ (val a) (val b))by obtain⟨k,hk⟩:=hs;exact jq.of k a b hk
 simp only[jq.e,rNorm_F ha (Nat.le_of_lt la),rNorm_F hb (Nat.le_of_lt lb),Option.bind_some]
 unfold UZ
 by_cases h0:val b=0
 ·have:=hz.2 h0
  refine⟨0,?_⟩
  rw[if_pos h0]
  simp(disch:=omega) only[BB]
 ·have h1:(canon (val b)).length≠0:=fun h=>h0 (hz.1 h)
  rw[if_neg h0]
  have hbp:=F8 cb h1
  rw[←va,←vb,va,vb]
  generalize canon (val a)=x at ca va na
  generalize canon (val b)=y at cb vb nb h1 hbp
  rw[←va,←vb]
  rw[←va]at DF
  rw[←vb]at VX h0
  have Jo:=ca.1
  have hyl:=cb.1
  have awC:=jM Jo
  have start:∀h:Nat,h≤x.length→h≤y.length-1→(h=x.length∨h=y.length-1)→∃j,∀k,jq.Nu (k+j) x y (List.replicate x.length 0) (canon (val (x.drop (x.length-h)))) (((32*(x.length-h):Nat):Int)-1)=some (canon (val x/val y),canon (val x%val y),0,()):=by
   intro h hh1 hh2 hh3
   have e1:val x/2^(32*(x.length-h))=val (x.drop (x.length-h)):=by rw[←yH];exact Q7 Jo (by omega)
   have e2:=jM (Jo.drop (x.length-h))
   rw[List.length_drop,show x.length-(x.length-h)=h by omega]at e2
   have e3:=bn (Jo.drop (x.length-h))
   have e4:pw h≤pw (y.length-1):=rZ hh2
   have e5:=Int.ediv_eq_zero_of_lt e3 (show val (x.drop (x.length-h))<val y by omega)
   have e6:=Int.emod_eq_of_lt e3 (show val (x.drop (x.length-h))<val y by omega)
   have:=aag Jo hyl (by omega) (by omega) (by omega) (32*(x.length-h)) (List.replicate x.length 0) (by omega) (by simp) (aU.xA _) (by rw[e1,e5,kK];simp)
   rw[e1,e6]at this
   exact this
  by_cases hgt:x.length<y.length-1
  ·obtain ⟨j,hj⟩:=start x.length (Nat.le_refl _) (by omega) (.inl rfl)
   refine⟨0+j,?_⟩
   have hN:=rNorm_F (Jo.drop (x.length-x.length)) (by simp;omega)
   have e1:(x.length:Int)-(x.length:Int)=((x.length-x.length:Nat):Int):=by omega
   have e2:(32:Int)*((x.length-x.length:Nat):Int)-1=((32*(x.length-x.length):Nat):Int)-1:=by omega
   simp(disch:=omega) only[BB,IntWalk.i64_in,e1,hN,e2]
   exact hj 0
  ·obtain ⟨j,hj⟩:=start (y.length-1) (by omega) (Nat.le_refl _) (.inr rfl)
   refine⟨0+j,?_⟩
   have hN:=rNorm_F (Jo.drop (x.length-(y.length-1))) (by simp;omega)
   have e0:(y.length:Int)-1=((y.length-1:Nat):Int):=by omega
   have e1:(x.length:Int)-((y.length-1:Nat):Int)=((x.length-(y.length-1):Nat):Int):=by omega
   have e2:(32:Int)*((x.length-(y.length-1):Nat):Int)-1=((32*(x.length-(y.length-1)):Nat):Int)-1:=by omega
   simp(disch:=omega) only[BB,IntWalk.i64_in,e0,e1,hN,e2]
   exact hj 0
theorem Nm.Div_F {a b x y n m}(h:Nm a x n)(g:Nm b y m)(hn:n<70368744177664)(hm:m<70368744177664):qO.F (a,b,())=some (UZ x y):=by
 rw[Tryz.Div_F h.iL g.iL (Nat.lt_of_le_of_lt h.len hn) (Nat.lt_of_le_of_lt g.len hm),h.val,g.val]
theorem Nm.rDiv_F {a b x y n m}(h:Nm a x n)(g:Nm b y m)(hn:n<70368744177664)(hm:m<70368744177664):jq.F (a,b,())=some (UZ x y):=by
 rw[Tryz.rDiv_F h.iL g.iL (Nat.lt_of_le_of_lt h.len hn) (Nat.lt_of_le_of_lt g.len hm),h.val,g.val]
theorem BQ {x y:Int}(h:y≠0):UZ x y=(canon (x/y),canon (x%y),0,()):=if_neg h
def Ic (x n:Int):Int:=if 0≤n then x*2^n.toNat else x/2^(-n).toNat
def MK (x n:Int):List Int×Int×Unit:=if n< -1048576∨1048576<n then([],12,())else(canon (Ic x n),0,())
theorem Ie (N:Nat):(2:Int)^N=pw (N/32)*2^(N%32):=by
 rw[yH,←Int.pow_add];congr 1;omega
def lo (x:Int)(s:Nat):Int:=(x*2^s)%4294967296
def hi (x:Int)(s:Nat):Int:=x*2^s/4294967296
theorem ML {x:Int}{s:Nat}(hx:0≤x∧x<4294967296)(hs:s<32):
  lo x s+4294967296*hi x s=x*2^s∧0≤hi x s∧hi x s<2^s∧0≤lo x s∧lo x s≤4294967296-2^s∧(∀c,0≤c→c<2^s→eP .or .u32 c (lo x s)=lo x s+c)∧hi x s<4294967296:=by
 have p1:=two_pos s
 have hB:=rC (u:=s) (by omega)
 have p32:(2:Int)^s<4294967296:=by
  have:(2:Nat)^s<2^32:=Nat.pow_lt_pow_right (by decide) hs
  have h:=qP s
  omega
 obtain⟨s1,s2,s3,z,s4,s5⟩:=I_ hx hs
 have e:x*2^s/4294967296=x/2^(32-s):=by
  rw[hB,Int.mul_comm x,Int.mul_ediv_mul_of_pos _ _ p1]
 have dX:2^s*z<2^s*2^(32-s):=by rw[←hB,←s5];omega
 have:=Int.lt_of_mul_lt_mul_left dX (Int.le_of_lt p1)
 have h8:2^s*z≤2^s*(2^(32-s)-1):=Int.mul_le_mul_of_nonneg_left (by omega) (Int.le_of_lt p1)
 rw[Int.mul_sub,←hB,Int.mul_one]at h8
 unfold lo hi
 rw[e]
 refine⟨s1,s2,s3,Int.emod_nonneg _ (by decide),by rw[s5];exact h8,fun c h0 h1=>H_ s z s5 s4 ⟨h0,h1⟩ (by rw[s5];omega),by omega⟩
section
variable {a:List Int} {size:Nat} {out:List Int} {W:Int} {s i:Nat}
theorem Q9 (ha:aU a)(hs:s<32):IntKind.u32.wrap (yP .u64 (IntKind.u64.wrap (a.getD i 0)) (s:Int))=lo (a.getD i 0) s∧
  IntKind.u32.wrap (oV .u64 (yP .u64 (IntKind.u64.wrap (a.getD i 0)) (s:Int)) 32)=hi (a.getD i 0) s:=by
 have g:=ha.get i
 have hp:(2:Int)^s<4294967296:=by
  have:(2:Nat)^s<2^32:=Nat.pow_lt_pow_right (by decide) hs
  have h:=qP s
  omega
 have gm:=um g ⟨Int.le_of_lt (two_pos s),hp⟩
 obtain⟨_,_,_,_,_,_,h7⟩:=ML g hs
 have e:yP .u64 (IntKind.u64.wrap (a.getD i 0)) (s:Int)=a.getD i 0*2^s:=by
  rw[IntWalk.u64_in _ (by omega),Ia .u64 _ s (by show s≤64;omega),IntWalk.u64_in _ (by omega)]
 rw[e,SA,pV]
 refine⟨rfl,?_⟩
 have h0:0≤a.getD i 0*2^s/4294967296:=Int.ediv_nonneg gm.1 (by decide)
 unfold hi at h7⊢
 rw[SA];omega
theorem agm (ha:aU a)(hs:s<32)(Ns:i<a.length)(la:a.length<70368744177664)(hW: -70368744177664≤W)(h:i+W+1<0)(k:Nat):
  bF.EC (k+1) a size out W s i=bF.EC k a size out W s ((i+1:Nat):Int):=by
 have e4:IntKind.i64.wrap ((i:Int)+W)=i+W:=IntWalk.i64_in _ (by omega)
 have e5:IntKind.i64.wrap ((i:Int)+W+1)=i+W+1:=IntWalk.i64_in _ (by omega)
 simp(disch:=omega) only[BB,bF.qI,bF.b15,e4,e5,IntWalk.u64_in (s:Int)]
theorem aah (ha:aU a)(hs:s<32)(Ns:i<a.length)(la:a.length<70368744177664)(hW: -70368744177664≤W)(h:i+W= -1)(ho:out.length=size)(h0:0<size)(hz:out.getD 0 0=0)(k:Nat):
  bF.EC (k+1) a size out W s i=bF.EC k a size (out.set 0 (hi (a.getD i 0) s)) W s ((i+1:Nat):Int):=by
 obtain⟨e1,e2⟩:=Q9 (i:=i) ha hs
 obtain⟨_,h2,h3,_,_,_,h7⟩:=ML (ha.get i) hs
 have e3:eP .or .u32 0 (hi (a.getD i 0) s)=hi (a.getD i 0) s:=by
  obtain⟨n,hn⟩:=Int.eq_ofNat_of_zero_le h2
  rw[hn]
  have:=acM (a:=0) (b:=n) (by decide) (by omega)
  simpa using this
 have e4:IntKind.i64.wrap ((i:Int)+W)= -1:=by rw[IntWalk.i64_in _ (by omega)];exact h
 have e5:IntKind.i64.wrap (-1+1)=0:=by decide
 have e6:Int.toNat 0=0:=rfl
 simp(disch:=omega) only[BB,bF.qI,bF.b15,e4,e5,e6,hz,e2,e3,IntWalk.u64_in (s:Int)]
theorem Q_ {p:Nat}(ha:aU a)(hs:s<32)(Ns:i<a.length)(la:a.length<70368744177664)(h:(i:Int)+W=p)(ho:out.length=size)(hp:p+1<size)(pY:size<4611686018427387904)(hz:out.getD (p+1) 0=0)(hc:0≤out.getD p 0∧out.getD p 0<2^s)(k:Nat):
  bF.EC (k+1) a size out W s i=bF.EC k a size ((out.set p (lo (a.getD i 0) s+out.getD p 0)).set (p+1) (hi (a.getD i 0) s)) W s ((i+1:Nat):Int):=by
 obtain⟨e1,e2⟩:=Q9 (i:=i) ha hs
 obtain⟨_,h2,h3,_,_,h6,h7⟩:=ML (ha.get i) hs
 have e3:eP .or .u32 0 (hi (a.getD i 0) s)=hi (a.getD i 0) s:=by
  obtain⟨n,hn⟩:=Int.eq_ofNat_of_zero_le h2
  rw[hn]
  have:=acM (a:=0) (b:=n) (by decide) (by omega)
  simpa using this
 have e4:IntKind.i64.wrap ((i:Int)+W)=(p:Int):=by rw[IntWalk.i64_in _ (by omega)];exact h
 have e5:=h6 _ hc.1 hc.2
 have e6:(out.set p (lo (a.getD i 0) s+out.getD p 0)).getD (p+1) 0=0:=by rw[fZ (by omega),if_neg (by omega)];exact hz
 simp(disch:=omega) only[BB,bF.qI,bF.b15,e4,e1,e2,e5,e6,e3,IntWalk.u64_in (s:Int),List.length_set]
theorem acZ {p:Nat}(ha:aU a)(hs:s<32)(Ns:i<a.length)(la:a.length<70368744177664)(h:(i:Int)+W=p)(ho:out.length=size)(hp:p+1=size)(pY:size<4611686018427387904)(hc:0≤out.getD p 0∧out.getD p 0<2^s)(k:Nat):
  bF.EC (k+1) a size out W s i=bF.EC k a size (out.set p (lo (a.getD i 0) s+out.getD p 0)) W s ((i+1:Nat):Int):=by
 obtain⟨e1,e2⟩:=Q9 (i:=i) ha hs
 obtain⟨_,h2,h3,_,_,h6,h7⟩:=ML (ha.get i) hs
 have e4:IntKind.i64.wrap ((i:Int)+W)=(p:Int):=by rw[IntWalk.i64_in _ (by omega)];exact h
 have e5:=h6 _ hc.1 hc.2
 simp(disch:=omega) only[BB,bF.qI,bF.b15,e4,e1,e2,e5,IntWalk.u64_in (s:Int),List.length_set]
end
theorem MN {out:List Int}{p:Nat}{l h x c:Int}(hp:p+1<out.length)(hz:out.getD (p+1) 0=0)(hc:out.getD p 0=c)(e:l+4294967296*h=x):val ((out.set p (l+c)).set (p+1) h)=val out+x*pw p:=by
 have hn:=oM (c:=out) (i:=p) (v:=l+c) (carry:=0) (carry':=h) (x:=x) (S:=val out) (by omega) (by omega) (by omega)
 rw[pI _ (by simp;omega),fZ (by omega),if_neg (by omega),hz,Int.sub_zero]
 exact hn
theorem aai {a:List Int}(ha:aU a)(la:a.length<70368744177664){s q:Nat}(hs:s<32)(hq:q≤40000)(hf:a.length+q+1≤70368744177664):
  ∃j,∀k,bF.EC (k+j) a ((a.length+q+1:Nat):Int) (List.replicate (a.length+q+1) 0) (q:Int) (s:Int) 0=some (canon (val a*2^s*pw q),0,()):=by
 have ps:=two_pos s
 refine up (fun k (x:Nat×List Int)=>bF.EC k a ((a.length+q+1:Nat):Int) x.2 (q:Int) (s:Int) (x.1:Int)) _ (fun i r=>r.length=a.length+q+1∧aU r∧(∀j,i+q<j→r.getD j 0=0)∧r.getD (i+q) 0<2^s∧val r=val (a.take i)*2^s*pw q) a.length
  (fun i r Ns ⟨h1,h2,h3,h4,h5⟩=> ?_) (fun r ⟨h1,h2,h3,h4,h5⟩=> ?_) 0 (List.replicate (a.length+q+1) 0) (Nat.zero_le _) ⟨by simp,aU.xA _,fun j _=>iU _ _,by rw[iU];exact ps,by simp[kK,iZ]⟩
 ·have gr:=h2.get (i+q)
  obtain⟨l1,l2,l3,l4,l5,l6,l7⟩:=ML (ha.get i) hs
  have hz:=h3 (i+q+1) (by omega)
  refine⟨(r.set (i+q) (lo (a.getD i 0) s+r.getD (i+q) 0)).set (i+q+1) (hi (a.getD i 0) s),⟨by simpa using h1,(h2.set _ (by omega)).set _ ⟨l2,l7⟩,fun j hj=> ?_,?_,?_⟩,1,fun k=> ?_⟩
  ·rw [fZ (by simp;omega),if_neg (by omega),fZ (by omega),if_neg (by omega)];exact h3 j (by omega)
  ·rw [fZ (by simp;omega),if_pos (by omega)];exact l3
  ·rw [MN (by omega) hz rfl l1,h5,dL,QU,Int.add_mul,Int.add_mul,Int.mul_right_comm (a.getD i 0) (pw i),Int.mul_assoc (a.getD i 0*2^s)]
  ·exact Q_ (p:=i+q) ha hs Ns la (by omega) h1 (by omega) (by omega) hz ⟨gr.1,h4⟩ k
 ·rw [List.take_length]at h5
  refine⟨1,fun k=> ?_⟩
  simp(disch:=omega) only[BB,bF.qI,bF.b15,rNorm_F h2 (by omega),h5]
theorem U0 {a:List Int}(ha:aU a)(la:a.length<70368744177664):
  ∃j,∀k,bF.EC (k+j) a a.length (List.replicate a.length 0) 0 ((0:Nat):Int) 0=some (canon (val a),0,()):=by
 refine up (fun k (x:Nat×List Int)=>bF.EC k a a.length x.2 0 ((0:Nat):Int) (x.1:Int)) _ (fun i r=>r.length=a.length∧aU r∧(∀j,i≤j→r.getD j 0=0)∧val r=val (a.take i)) a.length
  (fun i r Ns ⟨h1,h2,h3,h5⟩=> ?_) (fun r ⟨h1,h2,h3,h5⟩=> ?_) 0 _ (Nat.zero_le _) ⟨by simp,aU.xA _,fun j _=>iU _ _,by simp[kK,iZ]⟩
 ·have g:=ha.get i
  obtain⟨l1,l2,l3,l4,l5,l6,l7⟩:=ML g (show 0<32 by decide)
  rw[Int.pow_zero]at l1 l3
  have hr:=h3 i (Nat.le_refl _)
  have hh:hi (a.getD i 0) 0=0:=by omega
  have JJ:lo (a.getD i 0) 0=a.getD i 0:=by omega
  by_cases hl:i+1<a.length
  ·have hz:=h3 (i+1) (by omega)
   refine⟨(r.set i (lo (a.getD i 0) 0+r.getD i 0)).set (i+1) (hi (a.getD i 0) 0),⟨by simpa using h1,(h2.set _ (by omega)).set _ ⟨l2,l7⟩,fun j hj=> ?_,?_⟩,1,fun k=> ?_⟩
   ·rw [fZ (by simp;omega)]
    split
    ·exact hh
    ·rw [fZ (by omega),if_neg (by omega)];exact h3 j (by omega)
   ·rw [MN (by omega) hz rfl l1,h5,dL,Int.mul_one]
   ·exact Q_ (p:=i) ha (by decide) Ns la (by omega) h1 (by omega) (by omega) hz (by rw[hr];simp) k
  ·refine ⟨r.set i (lo (a.getD i 0) 0+r.getD i 0),⟨by simpa using h1,h2.set _ (by omega),fun j hj=> ?_,?_⟩,1,fun k=> ?_⟩
   ·rw [fZ (by omega),if_neg (by omega)];exact h3 j (by omega)
   ·rw [pI _ (by omega),hr,JJ,h5,dL];simp
   ·exact acZ (p:=i) ha (by decide) Ns la (by omega) h1 (by omega) (by omega) (by rw[hr];simp) k
 ·rw [List.take_length]at h5
  refine⟨1,fun k=> ?_⟩
  simp(disch:=omega) only[BB,bF.qI,bF.b15,rNorm_F h2 (by omega),h5]
theorem Ja {a:List Int}(ha:aU a)(la:a.length<70368744177664){s w:Nat}(hs:s<32)(hw:1≤w)(hw2:w≤40000):
  ∃j,∀k,bF.EC (k+j) a a.length (List.replicate a.length 0) (-(w:Int)) (s:Int) 0=some (canon (val a*2^s/pw w),0,()):=by
 have ps:=two_pos s
 have p32:(2:Int)^s<4294967296:=by
  have:(2:Nat)^s<2^32:=Nat.pow_lt_pow_right (by decide) hs
  have h:=qP s
  omega
 have pw0:=kS w
 have small:∀i,i+1≤w→val (a.take i)*2^s/pw w=0:=by
  intro i h
  have h1:=bn (ha.take i)
  have h2:=jM (ha.take i)
  have h3:(a.take i).length≤i:=by simp;omega
  have h4:=rZ h3
  have h5:=rZ h
  refine Int.ediv_eq_zero_of_lt (Int.mul_nonneg h1 (Int.le_of_lt ps)) ?_
  have h6:val (a.take i)*2^s≤(pw i-1)*2^s:=Int.mul_le_mul_of_nonneg_right (by omega) (Int.le_of_lt ps)
  have h7:(pw i-1)*2^s≤(pw i-1)*4294967296:=Int.mul_le_mul_of_nonneg_left (by omega) (by have:=kS i;omega)
  rw[iY]at h5
  omega
 refine up (fun k (x:Nat×List Int)=>bF.EC k a a.length x.2 (-(w:Int)) (s:Int) (x.1:Int)) _ (fun i r=>r.length=a.length∧aU r∧(∀j,i<j+w→r.getD j 0=0)∧(w≤i→r.getD (i-w) 0<2^s)∧val r=val (a.take i)*2^s/pw w) a.length
  (fun i r Ns ⟨h1,h2,h3,h4,h5⟩=> ?_) (fun r ⟨h1,h2,h3,h4,h5⟩=> ?_) 0 _ (Nat.zero_le _) ⟨by simp,aU.xA _,fun j _=>iU _ _,fun _=>by rw[iU];exact ps,by rw[small 0 hw,kK]⟩
 ·obtain ⟨l1,l2,l3,l4,l5,l6,l7⟩:=ML (ha.get i) hs
  rcases Nat.lt_or_ge i w with hiw|hiw
  ·rcases Nat.lt_or_ge (i+1) w with arQ|arQ
   ·refine ⟨r,⟨h1,h2,fun j hj=>h3 j (by omega),fun h=>by omega,?_⟩,1,fun k=>agm ha hs Ns la (by omega) (by omega) k⟩
    rw[h5,small i (by omega),small (i+1) (by omega)]
   ·obtain rfl:w=i+1:=by omega
    have hz:=h3 0 (by omega)
    refine⟨r.set 0 (hi (a.getD i 0) s),⟨by simpa using h1,h2.set _ ⟨l2,l7⟩,fun j hj=> ?_,fun _=> ?_,?_⟩,1,fun k=>aah ha hs Ns la (by omega) (by omega) h1 (by omega) hz k⟩
    ·rw [fZ (by omega),if_neg (by omega)];exact h3 j (by omega)
    ·rw [fZ (by omega),if_pos (by omega)];exact l3
    ·rw [pI _ (by omega),hz,h5,small i (by omega),Dc,dL,Int.add_mul]
     have pi:=kS i
     have hc0:0≤val (a.take i)*2^s:=Int.mul_nonneg (bn (ha.take i)) (Int.le_of_lt ps)
     have dX:=jM (ha.take i)
     rw[show (a.take i).length=i by simp;omega]at dX
     have hc1:val (a.take i)*2^s<pw i*2^s:=Int.mul_lt_mul_of_pos_right dX ps
     have e1:a.getD i 0*pw i*2^s=pw i*(a.getD i 0*2^s):=by rw[Int.mul_right_comm,Int.mul_comm]
     rw[iY,Int.mul_comm 4294967296,←Int.ediv_ediv_of_nonneg (Int.le_of_lt pi),e1,Int.add_mul_ediv_left _ _ (by omega)]
     have hd0:=Int.ediv_nonneg hc0 (Int.le_of_lt pi)
     have hd1:val (a.take i)*2^s/pw i<2^s:=by rw[Int.ediv_lt_iff_lt_mul pi,Int.mul_comm (2^s)];exact hc1
     omega
  ·have gr:=h2.get (i-w)
   have hz:=h3 (i-w+1) (by omega)
   refine⟨(r.set (i-w) (lo (a.getD i 0) s+r.getD (i-w) 0)).set (i-w+1) (hi (a.getD i 0) s),⟨by simpa using h1,(h2.set _ (by have:=h4 hiw;omega)).set _ ⟨l2,l7⟩,fun j hj=> ?_,fun _=> ?_,?_⟩,1,fun k=> ?_⟩
   ·rw [fZ (by simp;omega),if_neg (by omega),fZ (by omega),if_neg (by omega)];exact h3 j (by omega)
   ·rw [fZ (by simp;omega),if_pos (by omega)];exact l3
   ·have e1:pw i=pw w*pw (i-w):=by rw[←QU];congr 1;omega
    have e2:a.getD i 0*pw i*2^s=pw w*(a.getD i 0*2^s*pw (i-w)):=by
     rw[e1,Int.mul_left_comm,Int.mul_assoc (pw w),Int.mul_right_comm]
    rw[MN (by omega) hz rfl l1,h5,dL,Int.add_mul,e2,Int.add_mul_ediv_left _ _ (by omega)]
   ·exact Q_ (p:=i-w) ha hs Ns la (by omega) h1 (by omega) (by omega) hz ⟨gr.1,h4 hiw⟩ k
 ·rw [List.take_length]at h5
  refine⟨1,fun k=> ?_⟩
  simp(disch:=omega) only[BB,bF.qI,bF.b15,rNorm_F h2 (by omega),h5]
theorem rShift_FF {a:List Int}{n:Int}(ha:aU a)(la:a.length<70368744177664)(lu:n≤0∨a.length≤70368744100000)(hn: -9223372036854775808≤n∧n≤9223372036854775807):bF.F (a,n,())=some (MK (val a) n):=by
 have hx:=bn ha
 unfold MK
 suffices hs:∃k,bF.e (bF.EC k) a n=some (if n< -1048576∨1048576<n then([],12,())else(canon (Ic (val a) n),0,()))by obtain⟨k,hk⟩:=hs;exact bF.of k a n hk
 by_cases h1:n< -1048576
 ·refine ⟨0,?_⟩
  rw[if_pos (by omega)]
  simp(disch:=omega) only[BB,bF.e]
 by_cases h2:n>1048576
 ·refine ⟨0,?_⟩
  rw[if_pos (by omega)]
  simp(disch:=omega) only[BB,bF.e]
 rw[if_neg (by omega)]
 have hN:=rNorm_F ha (by omega)
 have Hz:=f_ hx
 by_cases hz:val a=0
 ·have hl:=Hz.2 hz
  have hs0:Ic (val a) n=0:=by unfold Ic;rw[hz];split<;>simp
  refine⟨0,?_⟩
  rw[hs0,mD]
  simp(disch:=omega) only[BB,bF.e,hN,hl]
 have hl:(canon (val a)).length≠0:=fun h=>hz (Hz.1 h)
 have VL:((canon (val a)).length:Int)≠0:=by omega
 unfold Ic
 by_cases h0:0<n
 ·obtain ⟨N,rfl⟩:=Int.eq_ofNat_of_zero_le (Int.le_of_lt h0)
  rw[if_pos (by omega),Int.toNat_natCast]
  obtain⟨j,hj⟩:=aai ha (by omega) (s:=N%32) (q:=N/32) (Nat.mod_lt _ (by decide)) (by omega) (by omega)
  have hv:val a*2^(N%32)*pw (N/32)=val a*2^N:=by rw[Ie N,Int.mul_assoc,Int.mul_comm (2^(N%32))]
  rw[hv]at hj
  have e1:(N:Int)/32=((N/32:Nat):Int):=by omega
  have e2:(N:Int)%32=((N%32:Nat):Int):=by omega
  have e3:(a.length:Int)+(((N/32:Nat):Int)+1)=((a.length+N/32+1:Nat):Int):=by omega
  refine⟨0+j,?_⟩
  simp(disch:=omega) only[BB,bF.e,hN,IntWalk.i64_quo,IntWalk.rem_in,IntWalk.i64_in,e1,e2,e3]
  exact hj 0
 ·by_cases Zh:n=0
  ·subst Zh
   rw[if_pos (by omega),show(0:Int).toNat=0 from rfl,Int.pow_zero,Int.mul_one]
   obtain⟨j,hj⟩:=U0 ha (by omega)
   have e1:IntKind.i64.wrap (Int.tdiv 0 32)=0:=by decide
   have e2:Int.tmod 0 32=0:=by decide
   refine⟨0+j,?_⟩
   simp(disch:=omega) only[BB,bF.e,hN,e1,e2]
   exact hj 0
  ·obtain ⟨N,hN'⟩:=Int.eq_ofNat_of_zero_le (show 0≤-n by omega)
   obtain rfl:n= -(N:Int):=by omega
   rw[if_neg (by omega),Int.neg_neg,Int.toNat_natCast]
   have e1:IntKind.i64.wrap (Int.tdiv (-(N:Int)) 32)= -((N/32:Nat):Int):=by
    rw[Int.neg_tdiv,show Int.tdiv (N:Int) 32=((N/32:Nat):Int)from rfl,IntWalk.i64_in _ (by omega)]
   have e2:Int.tmod (-(N:Int)) 32= -((N%32:Nat):Int):=by
    rw[Int.neg_tmod];rfl
   by_cases hm:N%32=0
   ·obtain ⟨j,hj⟩:=Ja ha (by omega) (s:=0) (w:=N/32) (by decide) (by omega) (by omega)
    have hv:val a*2^0/pw (N/32)=val a/2^N:=by rw[Ie N,hm,Int.pow_zero,Int.mul_one,Int.mul_one]
    rw[Int.pow_zero,Int.mul_one]at hv
    rw[Int.pow_zero,Int.mul_one,hv]at hj
    have e3: -((N%32:Nat):Int)=((0:Nat):Int):=by omega
    refine⟨0+j,?_⟩
    simp(disch:=omega) only[BB,bF.e,hN,e1,e2,e3]
    exact hj 0
   ·obtain ⟨j,hj⟩:=Ja ha (by omega) (s:=32-N%32) (w:=N/32+1) (by omega) (by omega) (by omega)
    have hv:val a*2^(32-N%32)/pw (N/32+1)=val a/2^N:=by
     have hB:=rC (u:=32-N%32) (by omega)
     rw[show 32-(32-N%32)=N%32 by omega]at hB
     rw[Ie N,iY,hB,Int.mul_comm (val a),Int.mul_assoc,Int.mul_ediv_mul_of_pos _ _ (two_pos _),Int.mul_comm (2^(N%32))]
    rw[hv]at hj
    have e3:IntKind.i64.wrap (-((N/32:Nat):Int)-1)= -((N/32+1:Nat):Int):=by rw[IntWalk.i64_in _ (by omega)];omega
    have e4:IntKind.i64.wrap (-((N%32:Nat):Int)+32)=((32-N%32:Nat):Int):=by rw[IntWalk.i64_in _ (by omega)];omega
    refine⟨0+j,?_⟩
    simp(disch:=omega) only[BB,bF.e,hN,e1,e2,e3,e4]
    exact hj 0
theorem Nm.Df {a x n}(h:Nm a x n)(hn:n<70368744177664){i:Int}(hi: -9223372036854775808≤i∧i≤0):bF.F (a,i,())=some (MK x i):=by
 rw[Tryz.rShift_FF h.iL (Nat.lt_of_le_of_lt h.len hn) (.inl hi.2) (by omega),h.val]
theorem aaj {x i:Int}(h:¬(i< -1048576∨1048576<i)):MK x i=(canon (Ic x i),0,()):=if_neg h
def gY (x y:Int):Int:=(Int.gcd x y:Int)
theorem wJ (x y:Int):gY x y=gY y x:=by unfold gY;rw[Int.gcd_comm]
theorem zk {x:Int}(h:0≤x):gY x 0=x:=by unfold gY;rw[Int.gcd_zero_right];omega
theorem U1 (x:Int):gY x 1=1:=by unfold gY;rw[Int.gcd_one];rfl
theorem zn {x y:Int}(h:x≠0∨y≠0):0<gY x y:=by
  have:=Int.gcd_pos_iff.2 h
  unfold gY;omega
theorem uJ (x y:Int):gY x y∣x:=Int.gcd_dvd_left ..
theorem agn {x y:Int}(hx:0<x):gY x y≤x:=Int.le_of_dvd hx (uJ x y)
theorem aak (x y:Int):gY y (x%y)=gY x y:=by
  unfold gY
  rw[Int.emod_def,Int.gcd_sub_mul_left_right,Int.gcd_comm]
theorem U2 (x y:Int):gY y (x-y)=gY x y:=by
  unfold gY
  rw[Int.gcd_sub_self_right,Int.gcd_comm]
theorem ac0 (x y c:Int)(hc:0≤c):gY (x*c) (y*c)=gY x y*c:=by
  unfold gY
  rw[Int.gcd_mul_right,Int.natCast_mul]
  congr 1;omega
theorem ac1 (x y:Int):gY (2*x) (2*y)=2*gY x y:=by
  rw[Int.mul_comm 2,Int.mul_comm 2,ac0 _ _ 2 (by decide),Int.mul_comm]
theorem Pq {x y:Int}(hy:y%2=1):gY (2*x) y=gY x y:=by
  have h2:Int.gcd 2 y=1:=by
    have h3:=Int.gcd_dvd_left (a:=2) (b:=y)
    have h4:=Int.gcd_dvd_right (a:=2) (b:=y)
    have h5:0<Int.gcd 2 y:=Int.gcd_pos_iff.2 (.inl (by decide))
    have h6:=Int.le_of_dvd (by decide) h3
    rcases(show Int.gcd 2 y=1∨Int.gcd 2 y=2 by omega)with h|h
    · exact h
    · rw [h] at h4
      have:y%2=0:=Int.emod_eq_zero_of_dvd h4
      omega
  unfold gY
  rw[Int.gcd_mul_right_left_of_gcd_eq_one h2]
theorem Rf {x y:Int}{n:Nat}(hx:0≤x)(hy:0≤y)(h1:x<pw n)(h2:y<pw n):gY x y<pw n:=by
  by_cases h:x=0
  · subst h;rw[wJ,zk hy];exact h2
  · have:=agn (y:=y) (show 0<x by omega);omega
theorem Gcd_F {a b:List Int}{x y:Int}{n:Nat}(ha:Nm a x n)(hb:Nm b y n)(hn:n<70368744177664):qm.F (a,b,())=some (canon (gY x y),()):=by
  have hx:=ha.pos
  have hy:=hb.pos
  obtain⟨j,hj⟩:=ends (fun k (s:Int×Int)=>qm.L2 k (canon s.1) (canon s.2)) (canon (gY x y),()) (fun s=>0≤s.1∧0≤s.2∧s.1<pw n∧s.2<pw n∧gY s.1 s.2=gY x y) (fun s=>s.2.toNat) (fun s hs=>by
    obtain⟨u,v⟩:=s
    obtain⟨h1,h2,h3,h4,h5⟩:=hs
    simp only at h1 h2 h3 h4 h5
    have hz:=f_ h2
    by_cases h0:v=0
    · have hl := hz.2 h0
      refine .inr ⟨1,fun k=> ?_⟩
      rw[h0,zk h1]at h5
      simp(disch:=omega) only[BB,qm.mX,qm.b2,hl]
      rw[h5]
    · have hl : (canon v).length ≠ 0 := fun h => h0 (hz.1 h)
      have d:=(Nm.canon h1 h3).Div_F (Nm.canon h2 h4) hn hn
      rw[BQ h0]at d
      have m1:=Int.emod_nonneg u h0
      have m2:=Int.emod_lt_of_pos u (show 0<v by omega)
      refine .inl ⟨(v,u%v),⟨h2,m1,h4,by simp only;omega,by simp only;rw[aak,h5]⟩,by simp only;omega,1,fun k=> ?_⟩
      simp(disch:=omega) only[BB,qm.mX,qm.b2,d]) (x,y) ⟨hx,hy,ha.lt,hb.lt,rfl⟩
  refine qm.of (0+j) a b ?_
  have o1:=BP ha.iL (by have:=ha.len;omega)
  have o2:=BP hb.iL (by have:=hb.len;omega)
  rw[ha.val]at o1
  rw[hb.val]at o2
  simp only[qm.e,o1,o2,Option.bind_some]
  exact hj 0
theorem Gl (x:Int):Q8 x 0=decide (x%2=1):=by
  simp[Q8]
theorem Ig {x:Int}:MK x (-1)=(canon (x/2),0,()):=by
  rw[aaj (by decide)]
  rfl
theorem agp {g:Int}{n s:Nat}(hg:0≤g)(dX:g*2^s<pw n)(hn:n<70368744177664)(hs:s<4611686018427387904):∃j,∀k,dD.Yf (k+j) (canon g) (s:Int) 0=some (canon (g*2^s),()):=by
  have:=up (fun k (q:Nat×Unit)=>dD.Yf k (canon (g*2^q.1)) (s:Int) (q.1:Int)) (canon (g*2^s),()) (fun _ _=>True) s (fun i _ hi _=> ?_) (fun _ _=> ?_) 0 () (Nat.zero_le _) trivial
  · simpa using this
  · refine ⟨(), trivial, 1, fun k => ?_⟩
    have p:=two_pos i
    have q:=Int.mul_nonneg hg (Int.le_of_lt p)
    have hle:g*2^i≤g*2^s:=Int.mul_le_mul_of_nonneg_left (by
      have h1:(2:Nat)^i≤2^s:=Nat.pow_le_pow_right (by decide) (Nat.le_of_lt hi)
      have h2:=Int.ofNat_le.2 h1
      have h3:=qP i
      have h4:=qP s
      rw[h3,h4]at h2;exact h2) hg
    have t:=Ym (jJ (g*2^i)) (Nat.lt_of_le_of_lt (oK q (show g*2^i<pw n by omega)) hn) false
    have e:2*(g*2^i)+(if false=true then 1 else 0)=g*2^(i+1):=by
      rw[Int.pow_succ,Int.mul_comm (2^i),Int.mul_left_comm g];simp only[Bool.false_eq_true,if_false];omega
    rw[fA q,e]at t
    simp(disch:=omega) only[BB,dD.UE,dD.b24,t]
  · refine ⟨1, fun k => ?_⟩
    simp(disch:=omega) only[BB,dD.UE,dD.b24]
theorem ac2 {n:Nat}(hS:n<70368744177664)(s:Int)(x y:Int)(hx:0<x)(hy:0≤y)(lx:x<pw n)(ly:y<pw n)(ho:x%2=1∨y%2=1):
    ∃j,∀k,dD.EC (k+j) (canon x) (canon y) s=dD.Yf k (canon (gY x y)) s 0:=by
  have hn:n<70368744177664:=by omega
  obtain⟨t,ht,j,hj⟩:=reach (fun k (q:Nat×Int×Int)=>if q.1=0 then dD.L18 k (canon q.2.1) (canon q.2.2) s else if q.1=1 then dD.L16 k (canon q.2.1) (canon q.2.2) s else dD.EC k (canon q.2.1) (canon q.2.2) s)
    (fun k (t:Int)=>dD.Yf k (canon t) s 0)
    (fun q=>q.1≤2∧0<q.2.1∧0≤q.2.2∧q.2.1<pw n∧q.2.2<pw n∧(q.2.1%2=1∨q.2.2%2=1)∧gY q.2.1 q.2.2=gY x y∧(q.1≤1→0<q.2.2)∧(q.1=0→q.2.1%2=1))
    (fun q=>3*(q.2.1.toNat+q.2.2.toNat)+q.1) (fun t=>t=gY x y) (fun q hq=>by
      obtain⟨t,u,v⟩:=q
      obtain⟨h1,h2,h3,h4,h5,h6,h7,h8,h9⟩:=hq
      simp only at h1 h2 h3 h4 h5 h6 h7 h8 h9
      have nu:=Nm.canon (Int.le_of_lt h2) h4
      have nv:=Nm.canon h3 h5
      have bu:=MJ (i:=0) nu.iL (Nat.le_trans nu.len (Nat.le_of_lt hn)) (by decide)
      have bv:=MJ (i:=0) nv.iL (Nat.le_trans nv.len (Nat.le_of_lt hn)) (by decide)
      rw[nu.val,Gl]at bu
      rw[nv.val,Gl]at bv
      have hz:=f_ h3
      rcases(show t=0∨t=1∨t=2 by omega)with rfl|rfl|rfl
      · have h9 := h9 rfl
        have h8:=h8 (by decide)
        by_cases he:v%2=1
        · rw [decide_eq_true he] at bv
          have c:=nu.rCmp_F nv (Nat.le_of_lt hn) (Nat.le_of_lt hn)
          by_cases hc:v<u
          · rw [J_ hc] at c
            have d:=nu.rSub_F nv (Nat.le_of_lt hn) (Nat.le_of_lt hn)
            rw[if_neg (by omega)]at d
            refine .inl ⟨(2,v,u-v),⟨by simp only;omega,by simp only;omega,by simp only;omega,by simp only;omega,by simp only;omega,.inl he,by simp only;rw[U2,h7],fun h=>absurd h (by simp only;omega),fun h=>absurd h (by simp only;omega)⟩,by simp only;omega,1,fun k=> ?_⟩
            simp only[if_true,show ¬(2:Nat)=0 by decide,show ¬(2:Nat)=1 by decide,if_false]
            simp only[dD.L9,dD.b18,bv,c,d,Option.bind_some,Bool.not_true,cond_false,cond_true,show decide ((1:Int)>0)=true by decide]
          · have c' : ¬ qy u v > 0 := by unfold qy; rw [if_neg (show ¬ v < u by omega)]; split <;> decide
            have d:=nv.rSub_F nu (Nat.le_of_lt hn) (Nat.le_of_lt hn)
            rw[if_neg (by omega)]at d
            refine .inl ⟨(2,u,v-u),⟨by simp only;omega,by simp only;omega,by simp only;omega,by simp only;omega,by simp only;omega,.inl h9,by simp only;rw[U2,wJ,h7],fun h=>absurd h (by simp only;omega),fun h=>absurd h (by simp only;omega)⟩,by simp only;omega,1,fun k=> ?_⟩
            simp only[if_true,show ¬(2:Nat)=0 by decide,show ¬(2:Nat)=1 by decide,if_false]
            simp only[dD.L9,dD.b18,bv,c,d,Option.bind_some,Bool.not_true,cond_false,cond_true,decide_eq_false c']
        · rw [decide_eq_false he] at bv
          have d:=nv.Df (i:= -1) hS (by decide)
          rw[Ig]at d
          refine .inl ⟨(0,u,v/2),⟨by simp only;omega,by simp only;omega,by simp only;omega,by simp only;omega,by simp only;omega,.inl h9,?_,fun h=>by simp only;omega,fun _=>h9⟩,by simp only;omega,1,fun k=> ?_⟩
          · simp only
            rw[←h7,wJ,wJ u v,←Pq h9]
            congr 1;omega
          · simp only [if_true]
            simp only[dD.L9,dD.b18,bv,d,Option.bind_some,Bool.not_false,cond_false,cond_true]
      · have h8 := h8 (by decide)
        by_cases he:u%2=1
        · rw [decide_eq_true he] at bu
          refine .inl ⟨(0,u,v),⟨by simp only;omega,h2,h3,h4,h5,h6,h7,fun _=>h8,fun _=>he⟩,by simp only;omega,1,fun k=> ?_⟩
          simp only[show ¬(1:Nat)=0 by decide,if_true,if_false]
          simp only[dD.UD,dD.b16,bu,Option.bind_some,Bool.not_true,cond_false,cond_true]
        · rw [decide_eq_false he] at bu
          have d:=nu.Df (i:= -1) hS (by decide)
          rw[Ig]at d
          have hv:v%2=1:=h6.resolve_left he
          refine .inl ⟨(1,u/2,v),⟨by simp only;omega,by simp only;omega,h3,by simp only;omega,h5,.inr hv,?_,fun h=>h8,fun h=>absurd h (by simp only;omega)⟩,by simp only;omega,1,fun k=> ?_⟩
          · simp only
            rw[←h7,←Pq hv]
            congr 1;omega
          · simp only [show ¬(1 : Nat) = 0 by decide, if_true, if_false]
            simp only[dD.UD,dD.b16,bu,d,Option.bind_some,Bool.not_false,cond_false,cond_true]
      · by_cases h0 : v = 0
        · have hl := hz.2 h0
          rw[h0,zk (Int.le_of_lt h2)]at h7
          refine .inr ⟨u,h7,1,fun k=> ?_⟩
          simp only[show ¬(2:Nat)=0 by decide,show ¬(2:Nat)=1 by decide,if_false]
          simp(disch:=omega) only[BB,dD.qI,dD.b15,hl]
        · have hl : (canon v).length ≠ 0 := fun h => h0 (hz.1 h)
          refine .inl ⟨(1,u,v),⟨by simp only;omega,h2,h3,h4,h5,h6,h7,fun _=>by simp only;omega,fun h=>absurd h (by simp only;omega)⟩,by simp only;omega,1,fun k=> ?_⟩
          simp only[show ¬(2:Nat)=0 by decide,show ¬(2:Nat)=1 by decide,show ¬(1:Nat)=0 by decide,if_false,if_true]
          simp(disch:=omega) only[BB,dD.qI,dD.b15]) (2,x,y) ⟨Nat.le_refl 2,hx,hy,lx,ly,ho,rfl,fun h=>absurd h (by simp only;omega),fun h=>absurd h (by simp only;omega)⟩
  subst ht
  exact⟨j,fun k=>by have:=hj k;simpa only[show ¬(2:Nat)=0 by decide,show ¬(2:Nat)=1 by decide,if_false]using this⟩
theorem ac3 {n:Nat}(hS:n<70368744177664)(x y:Int)(hx:0<x)(hy:0<y)(lx:x<pw n)(ly:y<pw n):
    ∃j,∀k,dD.Nu (k+j) (canon x) (canon y) 0=some (canon (gY x y),()):=by
  have hn:n<70368744177664:=by omega
  obtain⟨t,⟨hs,ht⟩,j,hj⟩:=reach (fun k (q:Nat×Int×Int)=>dD.Nu k (canon q.2.1) (canon q.2.2) (q.1:Int))
    (fun k (q:Nat×Int)=>dD.Yf k (canon q.2) (q.1:Int) 0)
    (fun q=>0<q.2.1∧0<q.2.2∧q.2.1*2^q.1=x∧q.2.1<pw n∧q.2.2<pw n∧gY q.2.1 q.2.2*2^q.1=gY x y)
    (fun q=>q.2.1.toNat) (fun t=>0<t.2∧t.2*2^t.1=gY x y) (fun q hq=>by
      obtain⟨s,u,v⟩:=q
      obtain⟨h1,h2,h3,h4,h5,h6⟩:=hq
      simp only at h1 h2 h3 h4 h5 h6
      have nu:=Nm.canon (Int.le_of_lt h1) h4
      have nv:=Nm.canon (Int.le_of_lt h2) h5
      have bu:=MJ (i:=0) nu.iL (Nat.le_trans nu.len (Nat.le_of_lt hn)) (by decide)
      have bv:=MJ (i:=0) nv.iL (Nat.le_trans nv.len (Nat.le_of_lt hn)) (by decide)
      rw[nu.val,Gl]at bu
      rw[nv.val,Gl]at bv
      have hs:s<4611686018427387904:=by
        have p:=two_pos s
        have e1:(2:Int)^s≤u*2^s:=by
          have:=Int.mul_le_mul_of_nonneg_right (show (1:Int)≤u by omega) (Int.le_of_lt p);omega
        have e2:(2:Int)^s<2^(32*n):=by rw[←yH];omega
        have e3:=qP s
        have e4:=qP (32*n)
        rw[←e3,←e4]at e2
        have:=(Nat.pow_lt_pow_iff_right (by decide:1<2)).1 (Int.ofNat_lt.1 e2)
        omega
      have fin:(u%2=1∨v%2=1)→∃t:Nat×Int,(0<t.2∧t.2*2^t.1=gY x y)∧∃j,∀k,dD.EC (k+j) (canon u) (canon v) (s:Int)=dD.Yf k (canon t.2) (t.1:Int) 0:=fun ho=>⟨(s,gY u v),⟨zn (.inl (by omega)),h6⟩,ac2 hS s u v h1 (Int.le_of_lt h2) h4 h5 ho⟩
      by_cases he:u%2=1
      · rw [decide_eq_true he] at bu
        obtain⟨t,ht,j,hj⟩:=fin (.inl he)
        refine .inr ⟨t,ht,j+1,fun k=> ?_⟩
        rw[←hj k,←Nat.add_assoc]
        simp only[dD.xk,dD.b11,bu,Option.bind_some,Bool.not_true,cond_false,cond_true]
      · rw [decide_eq_false he] at bu
        by_cases hf:v%2=1
        · rw [decide_eq_true hf] at bv
          obtain⟨t,ht,j,hj⟩:=fin (.inr hf)
          refine .inr ⟨t,ht,j+1,fun k=> ?_⟩
          rw[←hj k,←Nat.add_assoc]
          simp only[dD.xk,dD.b11,bu,bv,Option.bind_some,Bool.not_true,Bool.not_false,cond_false,cond_true]
        · rw [decide_eq_false hf] at bv
          have d:=nu.Df (i:= -1) hS (by decide)
          have e:=nv.Df (i:= -1) hS (by decide)
          rw[Ig]at d e
          have hu:u=2*(u/2):=by omega
          have hv:v=2*(v/2):=by omega
          refine .inl ⟨(s+1,u/2,v/2),⟨by simp only;omega,by simp only;omega,?_,by simp only;omega,by simp only;omega,?_⟩,by simp only;omega,1,fun k=> ?_⟩
          · simp only;rw[Int.pow_succ,Int.mul_comm (2^s),←Int.mul_assoc,Int.mul_comm (u/2),←hu,h3]
          · simp only;rw[Int.pow_succ,Int.mul_comm (2^s),←Int.mul_assoc,Int.mul_comm (gY _ _),←ac1,←hu,←hv,h6]
          · simp only[dD.xk,dD.b11,bu,bv,d,e,up1 hs,Option.bind_some,Bool.not_true,Bool.not_false,cond_false,cond_true]) (0,x,y) ⟨hx,hy,by simp,lx,ly,by simp⟩
  have hl:=Rf (Int.le_of_lt hx) (Int.le_of_lt hy) lx ly
  have hs':t.1<4611686018427387904:=by
    have p:=two_pos t.1
    have e1:(2:Int)^t.1≤t.2*2^t.1:=by
      have:=Int.mul_le_mul_of_nonneg_right (show (1:Int)≤t.2 by omega) (Int.le_of_lt p);omega
    have e2:(2:Int)^t.1<2^(32*n):=by rw[←yH];omega
    have e3:=qP t.1
    have e4:=qP (32*n)
    rw[←e3,←e4]at e2
    have:=(Nat.pow_lt_pow_iff_right (by decide:1<2)).1 (Int.ofNat_lt.1 e2)
    omega
  obtain⟨i,hi⟩:=agp (g:=t.2) (n:=n) (s:=t.1) (Int.le_of_lt hs) (by omega) hn hs'
  refine⟨i+j,fun k=> ?_⟩
  rw[←Nat.add_assoc]
  have:=hj (k+i)
  simp only at this
  rw[show ((0:Nat):Int)=0 from rfl]at this
  rw[this,hi k,ht]
theorem rGcd_F {a b:List Int}{x y:Int}{n:Nat}(ha:Nm a x n)(hb:Nm b y n)(hS:n<70368744177664):dD.F (a,b,())=some (canon (gY x y),()):=by
  have hn:n<70368744177664:=by omega
  have hx:=ha.pos
  have hy:=hb.pos
  suffices hs:∃k,dD.e (dD.Nu k) (dD.EC k) (dD.L16 k) (dD.L18 k) (dD.Yf k) a b=some (canon (gY x y),())by obtain⟨k,hk⟩:=hs;exact dD.of k a b hk
  simp only[dD.e,ha.rNorm_F (Nat.le_of_lt hn),hb.rNorm_F (Nat.le_of_lt hn),Option.bind_some]
  have hzx:=f_ hx
  have hzy:=f_ hy
  by_cases h0:x=0
  · have hl := hzx.2 h0
    refine⟨0,?_⟩
    rw[h0,wJ,zk hy]
    rw[h0]at hl
    simp(disch:=omega) only[BB,hl]
  · have hl : (canon x).length ≠ 0 := fun h => h0 (hzx.1 h)
    by_cases h1:y=0
    · have hm := hzy.2 h1
      refine⟨0,?_⟩
      rw[h1,zk hx]
      rw[h1]at hm
      simp(disch:=omega) only[BB,hm]
    · have hm : (canon y).length ≠ 0 := fun h => h1 (hzy.1 h)
      have cx:=(Nm.canon hx ha.lt).rCmp_F (Nm.one (x:=1) (by decide)) (Nat.le_of_lt hn) (by decide)
      have cy:=(Nm.canon hy hb.lt).rCmp_F (Nm.one (x:=1) (by decide)) (Nat.le_of_lt hn) (by decide)
      by_cases h2:x=1
      · rw [Ko h2] at cx
        refine⟨0,?_⟩
        simp(disch:=omega) only[BB,cx]
        rw[h2,wJ,U1,Ib (by decide)]
      · have g2 : qy x 1 ≠ 0 := by unfold qy;(repeat' split)<;>first|decide|omega
        by_cases h3:y=1
        · rw [Ko h3] at cy
          refine⟨0,?_⟩
          simp(disch:=omega) only[BB,cx,cy]
          rw[h3,U1,Ib (by decide)]
        · have g3 : qy y 1 ≠ 0 := by unfold qy;(repeat' split)<;>first|decide|omega
          obtain⟨j,hj⟩:=ac3 hS x y (by omega) (by omega) ha.lt hb.lt
          refine⟨0+j,?_⟩
          simp(disch:=omega) only[BB,cx,cy]
          exact hj 0
theorem Nm.Gcd_F {a b x y n}(h:Nm a x n)(g:Nm b y n)(hn:n<70368744177664):qm.F (a,b,())=some (sZ.canon (gY x y),()):=Tryz.Gcd_F h g hn
theorem Nm.rGcd_F {a b x y n}(h:Nm a x n)(g:Nm b y n)(hn:n<70368744177664):dD.F (a,b,())=some (sZ.canon (gY x y),()):=Tryz.rGcd_F h g hn
def wv (p:Bool×List Int):Int:=if p.1=true then -(val p.2)else val p.2
def wc (z:Int):Bool×List Int:=(decide (z<0),canon (if z<0 then -z else z))
def wE (z:Int):Int:=if z<0 then -1 else if z=0 then 0 else 1
theorem Em {z:Int}(h:0≤z):wc z=(false,canon z):=by
 unfold wc;rw[if_neg (by omega),decide_eq_false (by omega)]
theorem Rh {z:Int}(h:z<0):wc z=(true,canon (-z)):=by
 unfold wc;rw[if_pos h,decide_eq_true h]
structure Wn (p:Bool×List Int) (z:Int) (n:Nat):Prop where
 iL:aU p.2
 val:wv p=z
 len:p.2.length≤n
def ab (z:Int):Int:=if z<0 then -z else z
theorem Pv (z:Int):(z<0∧wE z= -1∧ab z= -z)∨(z=0∧wE z=0∧ab z=0)∨(0<z∧wE z=1∧ab z=z):=by
 unfold wE ab
 by_cases h:z<0
 ·rw [if_pos h,if_pos h];omega
 ·by_cases h0:z=0
  ·rw [if_neg h,if_pos h0,if_neg h];omega
  ·rw [if_neg h,if_neg h0,if_neg h];omega
theorem aal (z:Int):0≤ab z:=by unfold ab;split<;>omega
theorem Wn.nm {p z n}(h:Wn p z n):Nm p.2 (ab z) n:=by
 refine⟨h.iL,?_,h.len⟩
 unfold ab
 have hv:=bn h.iL
 have:=h.val
 unfold wv at this
 split at this<;>split<;>omega
theorem Wn.sign {p z n}(h:Wn p z n):(z<0→p.1=true)∧(0<z→p.1=false):=by
 have hv:=bn h.iL
 have:=h.val
 unfold wv at this
 constructor
 ·intro hz
  cases hp:p.1
  ·rw [hp,if_neg (by simp)]at this;omega
  ·rfl
 ·intro hz
  cases hp:p.1
  ·rfl
  ·rw [hp,if_pos rfl]at this;omega
theorem Wn.bound {p z n}(h:Wn p z n): -pw n<z∧z<pw n:=by
 have:=h.nm.lt
 unfold ab at this
 split at this<;>omega
theorem Gm (z:Int):wv (wc z)=z:=by
 by_cases h:z<0
 ·rw [Rh h];unfold wv;simp only[if_true];rw[fA (by omega)];omega
 ·rw [Em (by omega)];unfold wv;rw[if_neg (by simp)];exact fA (by omega)
theorem Wn.of {z:Int}{n:Nat}(h: -pw n<z∧z<pw n):Wn (wc z) z n:=by
 refine⟨jJ _,Gm z,?_⟩
 show(canon (if z<0 then -z else z)).length≤n
 refine oK ?_ ?_<;>split<;>omega
theorem Wn.norm {p z n}(h:Wn p z n):Wn (wc z) z n:= .of h.bound
theorem Nm.wn {a x n}(h:Nm a x n):Wn (false,a) x n:=⟨h.iL,by unfold wv;rw[if_neg (by simp)];exact h.val,h.len⟩
theorem ac4 {v:Int}(h:0≤v):decide (((canon v).length:Int)>0)=decide (-v<0):=by
 refine decide_eq_decide.2 ?_
 have:=f_ h
 omega
theorem ajN {xs:List Int}(h:aU xs)(hl:xs.length≤70368744177664):jB.F (xs,())=some (canon (val xs),()):=by
 obtain⟨j,hj⟩:=ends (fun k (n:Nat)=>jB.L2 k xs (n:Int)) (canon (val xs),()) (fun n=>n≤xs.length∧∀j,n≤j→xs.getD j 0=0) id (fun n ⟨hn,hz⟩=>by
  by_cases h0:0<n
  ·by_cases h1:xs.getD (n-1) 0=0
   ·refine .inl ⟨n-1,⟨by omega,fun j hj=> ?_⟩,by show n-1<n;omega,1,fun k=> ?_⟩
    ·by_cases hjn:j=n-1
     ·rw [hjn,h1]
     ·exact hz j (by omega)
    ·simp (disch:=omega) only[BB,jB.mX,jB.b2,h1]
   ·refine .inr ⟨1,fun k=> ?_⟩
    simp(disch:=omega) only[BB,jB.mX,jB.b2,h1,uj h hn hz (.inr h1)]
  ·refine .inr ⟨1,fun k=> ?_⟩
   obtain rfl:n=0:=by omega
   simp(disch:=omega) only[BB,jB.mX,jB.b2,uj h hn hz (.inl rfl)]) xs.length ⟨Nat.le_refl _,fun j hj=>m_ hj⟩
 refine jB.of (0+j) xs ?_
 simp only[jB.e]
 exact hj 0
theorem Wn.En {p z n}(h:Wn p z n)(hn:n≤70368744177664):eX.F (p,())=some (wE z,()):=by
 obtain⟨b,a⟩:=p
 have hm:=h.nm
 have hs:=h.sign
 refine eX.of 0 (b,a) ?_
 have hp:=hm.pos
 have hc:=ajN h.iL (Nat.le_trans h.len hn)
 have hv:=hm.val
 unfold ab at hp hv
 have hmz:(if z<0 then -z else z)=0↔z=0:=by split<;>omega
 simp only at hv hc hs
 rw[hv]at hc
 generalize (if z<0 then -z else z)=m at hp hc hmz
 have hl:=f_ hp
 by_cases h0:z=0
 ·have:(canon m).length=0:=hl.2 (hmz.2 h0)
  simp(disch:=omega) only[BB,eX.e,hc]
  unfold wE;rw[if_neg (by omega),if_pos h0]
 ·have:(canon m).length≠0:=fun h=>h0 (hmz.1 (hl.1 h))
  by_cases hz:z<0
  ·simp (disch:=omega) only[BB,eX.e,hc,hs.1 hz,cond_true]
   unfold wE;rw[if_pos hz]
  ·simp (disch:=omega) only[BB,eX.e,hc,hs.2 (by omega),cond_false]
   unfold wE;rw[if_neg hz,if_neg h0]
def prod:List Int→Int
 |[]=>1
 |s::r=>s*prod r
theorem U3 {a:List Int}{x:Int}{n:Nat}(h:Nm a x n)(hn:n≤70368744177664){ss:List Int}(hs:∀s∈ss,s= -1∨s=0∨s=1)(hl:ss.length≤1000):
  bT.F (a,ss,())=some (wc (if prod ss<0 then -x else x),()):=by
 have hx:=h.pos
 have last:∀(s:Int) (ss:List Int) (i:Nat),i=ss.length→∀k,bT.L4 (k+1) (canon x) false s ss ss.length i=some (wc (if s<0 then -x else x),()):=by
  intro s ss i hi k
  subst hi
  by_cases hs:s<0
  ·by_cases h0:x=0
   ·have hc:(canon x).length=0:=(f_ hx).2 h0
    simp(disch:=omega) only[BB,bT.iW,bT.b4,Em (show 0≤-x by omega),hc]
    subst h0;rfl
   ·have hc:(canon x).length≠0:=fun h=>h0 ((f_ hx).1 h)
    simp(disch:=omega) only[BB,bT.iW,bT.b4,Rh (show -x<0 by omega)]
    rw[Int.neg_neg,decide_eq_true (by omega)]
  ·simp (disch:=omega) only[BB,bT.iW,bT.b4,Em hx]
 have Pv:∀{p q:Int},(p= -1∨p=0∨p=1)→(q= -1∨q=0∨q=1)→(p*q= -1∨p*q=0∨p*q=1):=by
  intro p q hp hq
  rcases hp with rfl|rfl|rfl<;>rcases hq with rfl|rfl|rfl<;>simp
 obtain⟨j,hj⟩:=up (fun k (s:Nat×Int)=>bT.L4 k (canon x) false s.2 ss ss.length (s.1:Int)) (wc (if prod ss<0 then -x else x),()) (fun i p=>(p= -1∨p=0∨p=1)∧p*prod (ss.drop i)=prod ss) ss.length (fun i p hi ⟨h1,h2⟩=>by
   have hg:ss.drop i=ss.getD i 0::ss.drop (i+1):=by
    rw[List.drop_eq_getElem_cons hi];simp[List.getD,hi]
   have h3:ss.getD i 0= -1∨ss.getD i 0=0∨ss.getD i 0=1:=hs _ (by rw[show ss.getD i 0=ss[i]by simp[List.getD,hi]];exact List.getElem_mem hi)
   have h4:=Pv h1 h3
   refine⟨p*ss.getD i 0,⟨h4,by rw[←h2,hg];simp only[prod];rw[Int.mul_assoc]⟩,1,fun k=> ?_⟩
   simp(disch:=omega) only[BB,bT.iW,bT.b4]
   rw[IntWalk.i64_in (p*ss.getD i 0) (by omega)]) (fun p ⟨h1,h2⟩=>⟨1,fun k=>by
   have:=last p ss ss.length rfl k
   rw[List.drop_length]at h2
   simp only[prod,Int.mul_one]at h2
   rw[←h2];exact this⟩) 0 1 (Nat.zero_le _) ⟨by simp,by simp⟩
 refine bT.of (0+j) a ss ?_
 simp only[bT.e,h.Norm_F hn,Option.bind_some]
 exact hj 0
theorem wK (z:Int):wE z= -1∨wE z=0∨wE z=1:=by unfold wE;split<;>(try split)<;>simp
theorem pe {α β:Type}(p:α×β):(p.1,p.2)=p:=rfl
theorem amW (s:Int):prod [s]=s:=by simp[prod]
theorem amX (s t:Int):prod [s,t]=s*t:=by simp[prod]
theorem ajO {s:Int}(h:s= -1∨s=0∨s=1):∀x∈[s],x= -1∨x=0∨x=1:=by intro x hx;simp at hx;rw[hx];exact h
theorem ajP {s t:Int}(h:s= -1∨s=0∨s=1)(g:t= -1∨t=0∨t=1):∀x∈[s,t],x= -1∨x=0∨x=1:=by
 intro x hx;simp at hx;rcases hx with rfl|rfl
 ·exact h
 ·exact g
theorem Nm.Kr {a x n}(h:Nm a x n)(hn:n≤70368744177664){s:Int}(hs:s= -1∨s=0∨s=1):bT.F (a,[s],())=some (wc (if s<0 then -x else x),()):=by
 rw[U3 h hn (ajO hs) (by simp),amW]
theorem Nm.Yn {a x n}(h:Nm a x n)(hn:n≤70368744177664){s t:Int}(hs:s= -1∨s=0∨s=1)(ht:t= -1∨t=0∨t=1):bT.F (a,[s,t],())=some (wc (if s*t<0 then -x else x),()):=by
 rw[U3 h hn (ajP hs ht) (by simp),amX]
theorem Nm.made {a x n}(h:Nm a x n)(hn:n≤70368744177664)(b:Bool):iH.F (b,a,())=some (wc (if b=true then -x else x),()):=by
 refine iH.of 0 b a ?_
 have hx:=h.pos
 have hl:=ac4 hx
 cases b
 ·simp (disch:=omega) only[BB,iH.e,h.rNorm_F hn,cond_false,Em hx,Bool.false_eq_true]
 ·simp (disch:=omega) only[BB,iH.e,h.rNorm_F hn,cond_true]
  rw[hl]
  by_cases h0: -x<0
  ·rw [Rh h0,decide_eq_true h0,Int.neg_neg]
  ·have:x=0:=by omega
   subst this
   rfl
theorem Wn.Norm_F {p z n}(h:Wn p z n)(hn:n≤70368744177664):qV.F (p,())=some (wc z,()):=by
 refine qV.of 0 p ?_
 have e:(if wE z<0 then -ab z else ab z)=z:=by
  rcases Pv z with⟨_,h1,h2⟩|⟨_,h1,h2⟩|⟨_,h1,h2⟩<;>rw[h1,h2]<;>simp<;>omega
 simp only[qV.e,pe,h.En hn,Option.bind_some,h.nm.Kr hn (wK z),e]
theorem Wn.amY {p z n}(h:Wn p z n)(hn:n≤70368744177664):tX.F (p,())=some (wc (-z),()):=by
 refine tX.of 0 p ?_
 have e:(if -1*wE z<0 then -ab z else ab z)= -z:=by
  rcases Pv z with⟨_,h1,h2⟩|⟨_,h1,h2⟩|⟨_,h1,h2⟩<;>rw[h1,h2]<;>simp<;>omega
 simp only[tX.e,pe,h.En hn,Option.bind_some,h.nm.Yn hn (Or.inl rfl) (wK z),e]
theorem Wn.Ah {p z n}(h:Wn p z n):(if p.1=true then -ab z else ab z)=z:=by
 have hs:=h.sign
 rcases Pv z with⟨hz,_,h2⟩|⟨hz,_,h2⟩|⟨hz,_,h2⟩
 ·rw [hs.1 hz,h2,if_pos rfl];omega
 ·rw [h2,hz];simp
 ·rw [hs.2 hz,h2,if_neg (by simp)]
theorem Wn.rNorm_F {p z n}(h:Wn p z n)(hn:n≤70368744177664):qH.F (p,())=some (wc z,()):=by
 refine qH.of 0 p ?_
 simp only[qH.e,pe,h.nm.made hn,Option.bind_some,h.Ah]
theorem Wn.Xb {p z n}(h:Wn p z n)(hn:n≤70368744177664):zZ.F (p,())=some (wc (-z),()):=by
 refine zZ.of 0 p ?_
 have e:(if (!p.1)=true then -ab z else ab z)= -z:=by
  have:=h.Ah
  cases hp:p.1<;>rw[hp]at this<;>simp at this⊢<;>omega
 simp only[zZ.e,pe,h.nm.made hn,Option.bind_some,e]
theorem Wn.Gn {p z n}(h:Wn p z n)(hn:n≤70368744177664):xq.F (p,())=some (wE z,()):=by
 refine xq.of 0 p ?_
 simp only[xq.e,pe,h.rNorm_F hn,Option.bind_some]
 rcases Pv z with⟨hz,h1,_⟩|⟨hz,h1,_⟩|⟨hz,h1,_⟩
 ·rw [Rh hz,h1];rfl
 ·subst hz;rw[h1];simp only[Em (Int.le_refl 0),mD];rfl
 ·have hl:=f_ (n:=z) (by omega)
  rw[Em (by omega),h1]
  simp(disch:=omega) only[BB,cond_false]
theorem Px (a b:List Int)(hl:a.length≤70368744177664):iP.F (a,b,())=some (decide (a=b),()):=by
 by_cases hn:a.length=b.length
 ·obtain ⟨j,hj⟩:=ends (fun k (i:Nat)=>iP.L4 k a b (i:Int)) (decide (a=b),()) (fun i=>i≤a.length∧∀j,j<i→a.getD j 0=b.getD j 0) (fun i=>a.length-i) (fun i ⟨hi,hz⟩=>by
   by_cases h0:i<a.length
   ·by_cases h1:a.getD i 0=b.getD i 0
    ·refine .inl ⟨i+1,⟨h0,fun j hj=> ?_⟩,by show a.length-(i+1)<a.length-i;omega,1,fun k=> ?_⟩
     ·by_cases hji:j=i
      ·rw [hji,h1]
      ·exact hz j (by omega)
     ·simp (disch:=omega) only[BB,iP.iW,iP.b4,h1]
    ·refine .inr ⟨1,fun k=> ?_⟩
     have:a≠b:=fun e=>h1 (by rw[e])
     simp(disch:=omega) only[BB,iP.iW,iP.b4,decide_eq_false this]
   ·refine .inr ⟨1,fun k=> ?_⟩
    have:a=b:=acR hn fun j hj=>hz j (by omega)
    simp(disch:=omega) only[BB,iP.iW,iP.b4,decide_eq_true this]) 0 ⟨Nat.zero_le _,fun j hj=>by omega⟩
  refine iP.of (0+j) a b ?_
  simp(disch:=omega) only[BB,iP.e]
  exact hj 0
 ·have:a≠b:=fun e=>hn (by rw[e])
  refine iP.of 0 a b ?_
  simp(disch:=omega) only[BB,iP.e,decide_eq_false this]
theorem aam (p q:Bool×List Int)(hl:p.2.length≤70368744177664):uf.F (p,q,())=some (decide (p=q),()):=by
 refine uf.of 0 p q ?_
 obtain⟨b,x⟩:=p
 obtain⟨c,y⟩:=q
 simp only[uf.e,Px x y hl,Option.bind_some]
 cases b<;>cases c<;>simp
theorem Wn.add {p q y z n}(h:Wn p y n)(g:Wn q z n):Wn (wc (y+z)) (y+z) (n+1):= .of (by
 have:=h.bound
 have:=g.bound
 rw[iY];omega)
theorem Wn.neg {p z n}(h:Wn p z n):Wn (wc (-z)) (-z) n:= .of (by have:=h.bound;omega)
theorem Wn.sub {p q y z n}(h:Wn p y n)(g:Wn q z n):Wn (wc (y-z)) (y-z) (n+1):= .of (by
 have:=h.bound
 have:=g.bound
 rw[iY];omega)
theorem ajQ (y z:Int):ab (y*z)=ab y*ab z:=by
 have e:∀x,ab x=(x.natAbs:Int):=fun x=>by unfold ab;split<;>omega
 rw[e,e,e,Int.natAbs_mul];push_cast;rfl
theorem Wn.mul {p q y z n m}(h:Wn p y n)(g:Wn q z m):Wn (wc (y*z)) (y*z) (n+m):=by
 have hm:=(h.nm.mul g.nm).lt
 rw[←ajQ]at hm
 refine .of ?_
 unfold ab at hm
 have:=kS (n+m)
 split at hm<;>omega
theorem ac5 {x y:Int}(hx:x= -1∨x=0∨x=1)(hy:y= -1∨y=0∨y=1)(h:0≤x*y):eP .or .i64 (eP .or .i64 x y) 1=if x<0∨y<0 then -1 else 1:=by
 rcases hx with rfl|rfl|rfl<;>rcases hy with rfl|rfl|rfl<;>first|(exfalso;revert h;decide)|decide
theorem agq {x y:Int}(hx:x= -1∨x=0∨x=1)(hy:y= -1∨y=0∨y=1):x*y= -1∨x*y=0∨x*y=1:=by
 rcases hx with rfl|rfl|rfl<;>rcases hy with rfl|rfl|rfl<;>simp
theorem Wn.Add_F {p q y z n}(h:Wn p y n)(g:Wn q z n)(hn:n<70368744177664):tV.F (p,q,())=some (wc (y+z),()):=by
 refine tV.of 0 p q ?_
 have CG:n≤70368744177664:=Nat.le_of_lt hn
 have sp:=wK y
 have sq:=wK z
 have hm:=agq sp sq
 simp only[tV.e,pe,h.En CG,g.En CG,Option.bind_some,IntWalk.i64_in (wE y*wE z) (by omega)]
 by_cases hs:0≤wE y*wE z
 ·have hA:=h.nm.add g.nm
  have Zx:=ac5 sp sq hs
  rw[Zx]
  have hs':¬(y<0∧0<z)∧¬(0<y∧z<0):=by
   rcases Pv y with⟨hy,h1,h2⟩|⟨hy,h1,h2⟩|⟨hy,h1,h2⟩<;>rcases Pv z with⟨hz,h3,h4⟩|⟨hz,h3,h4⟩|⟨hz,h3,h4⟩<;>rw[h1,h3]at hs<;>first|(exfalso;revert hs;decide)|omega
  have t1:=Pv y
  have t2:=Pv z
  have e:(if (if wE y<0∨wE z<0 then(-1:Int)else 1)<0 then -(ab y+ab z)else ab y+ab z)=y+z:=by
   by_cases amZ:wE y<0∨wE z<0
   ·rw [if_pos amZ,if_pos (by decide)];omega
   ·rw [if_neg amZ,if_neg (by decide)];omega
  simp(disch:=omega) only[BB,h.nm.Add_F g.nm hn,hA.Kr (by omega) (show (if wE y<0∨wE z<0 then(-1:Int)else 1)= -1∨(if wE y<0∨wE z<0 then(-1:Int)else 1)=0∨(if wE y<0∨wE z<0 then(-1:Int)else 1)=1 by split<;>simp),e,pe]
 ·have hx:(y<0∧0<z∧ab y= -y∧ab z=z∧wE y= -1∧wE z=1)∨(0<y∧z<0∧ab y=y∧ab z= -z∧wE y=1∧wE z= -1):=by
   have hs':(y<0∧0<z)∨(0<y∧z<0):=by
    rcases Pv y with⟨hy,h1,h2⟩|⟨hy,h1,h2⟩|⟨hy,h1,h2⟩<;>rcases Pv z with⟨hz,h3,h4⟩|⟨hz,h3,h4⟩|⟨hz,h3,h4⟩<;>rw[h1,h3]at hs<;>first|(exfalso;revert hs;decide)|exact .inl ⟨hy,hz⟩|exact .inr ⟨hy,hz⟩
   have t1:=Pv y
   have t2:=Pv z
   rcases hs' with⟨hy,hz⟩|⟨hy,hz⟩
   ·exact .inl ⟨hy,hz,by omega,by omega,by omega,by omega⟩
   ·exact .inr ⟨hy,hz,by omega,by omega,by omega,by omega⟩
  have hC:=h.nm.Cmp_F g.nm CG CG
  by_cases hle:ab z≤ab y
  ·have hc:0≤qy (ab y) (ab z):=by unfold qy;rw[if_neg (by omega)];split<;>decide
   have hS:=h.nm.Sub_F g.nm CG CG
   rw[if_neg (by omega)]at hS
   have hD:=h.nm.sub g.nm hle
   have e:(if wE y<0 then -(ab y-ab z)else ab y-ab z)=y+z:=by
    rcases hx with⟨_,_,h1,h2,h3,h4⟩|⟨_,_,h1,h2,h3,h4⟩<;>rw[h1,h2,h3]<;>simp<;>omega
   simp(disch:=omega) only[BB,hC,hS,hD.Kr CG sp,e,pe]
  ·have hc:qy (ab y) (ab z)= -1:=wB (by omega)
   have hS:=g.nm.Sub_F h.nm CG CG
   rw[if_neg (by omega)]at hS
   have hD:=g.nm.sub h.nm (show ab y≤ab z by omega)
   have e:(if wE z<0 then -(ab z-ab y)else ab z-ab y)=y+z:=by
    rcases hx with⟨_,_,h1,h2,h3,h4⟩|⟨_,_,h1,h2,h3,h4⟩<;>rw[h1,h2,h4]<;>simp<;>omega
   simp(disch:=omega) only[BB,hC,hc,hS,hD.Kr CG sq,e,pe]
theorem Wn.rAdd_F {p q y z n}(h:Wn p y n)(g:Wn q z n)(hn:n<70368744177664):wu.F (p,q,())=some (wc (y+z),()):=by
 refine wu.of 0 p q ?_
 have CG:n≤70368744177664:=Nat.le_of_lt hn
 have ep:=h.Ah
 have eq:=g.Ah
 by_cases hb:p.1=q.1
 ·have e:(if q.1=true then -(ab y+ab z)else ab y+ab z)=y+z:=by
   rw[hb]at ep
   cases hq:q.1<;>rw[hq]at ep eq<;>simp at ep eq⊢<;>omega
  simp only[wu.e,hb,beq_self_eq_true,cond_true,h.nm.rAdd_F g.nm hn,Option.bind_some,(h.nm.add g.nm).made (by omega),e,pe]
 ·have AZ:(p.1==q.1)=false:=by simpa using hb
  have hC:=h.nm.rCmp_F g.nm CG CG
  by_cases hle:ab z≤ab y
  ·have hc:0≤qy (ab y) (ab z):=by unfold qy;rw[if_neg (by omega)];split<;>decide
   have hS:=h.nm.rSub_F g.nm CG CG
   rw[if_neg (by omega)]at hS
   have hD:=h.nm.sub g.nm hle
   have e:(if p.1=true then -(ab y-ab z)else ab y-ab z)=y+z:=by
    cases hp:p.1<;>cases hq:q.1<;>rw[hp]at ep hb<;>rw[hq]at eq hb<;>simp at ep eq hb⊢<;>omega
   simp(disch:=omega) only[BB,wu.e,AZ,cond_false,hC,hS,hD.made CG,e,pe]
  ·have hc:qy (ab y) (ab z)= -1:=wB (by omega)
   have hS:=g.nm.rSub_F h.nm CG CG
   rw[if_neg (by omega)]at hS
   have hD:=g.nm.sub h.nm (show ab y≤ab z by omega)
   have e:(if q.1=true then -(ab z-ab y)else ab z-ab y)=y+z:=by
    cases hp:p.1<;>cases hq:q.1<;>rw[hp]at ep hb<;>rw[hq]at eq hb<;>simp at ep eq hb⊢<;>omega
   simp(disch:=omega) only[BB,wu.e,AZ,cond_false,hC,hc,hS,hD.made CG,e,pe]
theorem Wn.Sub_F {p q y z n}(h:Wn p y n)(g:Wn q z n)(hn:n<70368744177664):tY.F (p,q,())=some (wc (y-z),()):=by
 refine tY.of 0 p q ?_
 simp only[tY.e,pe,g.amY (Nat.le_of_lt hn),Option.bind_some,h.Add_F g.neg hn]
 rw[Int.sub_eq_add_neg]
theorem Wn.Cmp_F {p q y z n}(h:Wn p y n)(g:Wn q z n)(hn:n<70368744177664):tZ.F (p,q,())=some (wE (y-z),()):=by
 refine tZ.of 0 p q ?_
 simp only[tZ.e,pe,h.Sub_F g hn,Option.bind_some,(h.sub g).En hn]
theorem Wn.Mul_F {p q y z n m}(h:Wn p y n)(g:Wn q z m)(hn:n+m≤70368744177664):qX.F (p,q,())=some (wc (y*z),()):=by
 refine qX.of 0 p q ?_
 have e:(if wE y*wE z<0 then -(ab y*ab z)else ab y*ab z)=y*z:=by
  rcases Pv y with⟨hy,h1,h2⟩|⟨hy,h1,h2⟩|⟨hy,h1,h2⟩<;>rcases Pv z with⟨hz,h3,h4⟩|⟨hz,h3,h4⟩|⟨hz,h3,h4⟩<;>rw[h1,h2,h3,h4]<;>simp[Int.neg_mul,Int.mul_neg, *]
 simp only[qX.e,pe,h.nm.Mul_F g.nm hn,h.En (show n≤70368744177664 by omega),g.En (show m≤70368744177664 by omega),Option.bind_some,(h.nm.mul g.nm).Yn hn (wK y) (wK z),e]
theorem Wn.rMul_F {p q y z n m}(h:Wn p y n)(g:Wn q z m)(hn:n+m≤70368744177664):yg.F (p,q,())=some (wc (y*z),()):=by
 refine yg.of 0 p q ?_
 have ep:=h.Ah
 have eq:=g.Ah
 have e:(if (!(p.1==q.1))=true then -(ab y*ab z)else ab y*ab z)=y*z:=by
  have hy:ab y=if p.1=true then -y else y:=by cases hp:p.1<;>rw[hp]at ep<;>simp at ep⊢<;>omega
  have hz:ab z=if q.1=true then -z else z:=by cases hq:q.1<;>rw[hq]at eq<;>simp at eq⊢<;>omega
  rw[hy,hz]
  cases p.1<;>cases q.1<;>simp[Int.neg_mul,Int.mul_neg]
 simp only[yg.e,pe,h.nm.rMul_F g.nm hn,Option.bind_some,(h.nm.mul g.nm).made hn,e]
end Go.Fx.Tryz
