import Derived.Test.YthmdbafinpmojaaGreatNB
import Derived.Test.YthmdbafinpmojaaGreatW08b
import Derived.Test.YthmdbafinpmojaaGreatND
import Derived.Test.YthmdbafinpmojaaGreatEvD
set_option linter.unusedVariables false
set_option linter.unusedSimpArgs false
namespace Go.Fx.Tryz
open Go Go.Fx Go.Fx.sZ
section
variable {α β:Type}
theorem st {x:Option α}{a:α}{f:α→Option β}{r:Option β}(h:x=some a)(g:f a=r):x.bind f=r:=by rw[h];exact g
theorem yes {b:Bool}{x y r:Option β}(h:b=true)(g:x=r):(bif b then x else y)=r:=by rw[h];exact g
theorem no {b:Bool}{x y r:Option β}(h:b=false)(g:y=r):(bif b then x else y)=r:=by rw[h];exact g
end
theorem ng {i:Int}(h: -9223372036854775808≤i)(h2:i<9223372036854775808):IntKind.i64.wrap i=i:=aga ⟨h,by omega⟩
def bdn (nf:cu→cu)(b:jL):jL:=if b.1=true then(true,nf b.2.1,b.2.2)else HY
def Xc (nf:cu→cu)(l:dJ):dJ:=(bdn nf l.1,bdn nf l.2)
def chn (nf:cu→cu)(c:bZ):bZ:=(c.1,c.2.1,c.2.2.1,bdn nf c.2.2.2)
def stn (nf:cu→cu)(s:b_):b_:=(s.1.map (Xc nf),s.2.1,s.2.2.map (chn nf))
def NB (nf:cu→cu)(b:jL):Prop:=b.1=true→jT.F (b.2.1,())=some (nf b.2.1,())
theorem MO {nf:cu→cu}{b:jL}(h:NB nf b):qY.F (b,())=some (bdn nf b,()):=by
  refine qY.of 0 b ?_
  unfold bdn
  cases hb:b.1 with
  |false=>exact yes (by rw[hb];rfl) rfl
  |true=>exact no (by rw[hb];rfl) (st (h hb) rfl)
def Ri (n:Nat):cO:=(acC,(true,List.replicate n aA))
def mkState (n:Nat):b_:=(List.replicate n aA,acC)
theorem am0 (v:Int):pU.F () (v,())=some (if 0≤v∧v≤65536 then(some (Ri v.toNat),(0,()),())else(none,(1,()),())):=by
  refine pU.of () v _ fun G=>⟨0,?_⟩
  unfold pU.e
  by_cases h1:v<0
  · rw[if_neg (by omega)];exact yes (decide_eq_true h1) rfl
  refine no (decide_eq_false h1) ?_
  by_cases h2:v>65536
  · rw[if_neg (by omega)];exact yes (decide_eq_true h2) rfl
  refine no (decide_eq_false h2) ?_
  rw[if_pos (by omega)]
  exact yes (by rw[J9];simp only[Bool.and_eq_true,decide_eq_true_eq];omega) rfl
theorem ajR (v:Int):yc.F (v,())=some (if 0≤v∧v≤65536 then(mkState v.toNat,0,())else(afV,1,())):=by
  refine yc.of 0 v ?_
  unfold yc.e
  by_cases h1:v<0
  · rw[if_neg (by omega)];exact yes (decide_eq_true h1) rfl
  refine no (decide_eq_false h1) ?_
  by_cases h2:v>65536
  · rw[if_neg (by omega)];exact yes (decide_eq_true h2) rfl
  refine no (decide_eq_false h2) ?_
  rw[if_pos (by omega)]
  exact yes (by rw[J9];simp only[Bool.and_eq_true,decide_eq_true_eq];omega) rfl
theorem ac6 (d:cO):dB.F d ()=some ((),(d.2.1,()),d):=dB.of d _ fun G=>⟨0,rfl⟩
def ac7 (d:cO):Unit×(Int×Int×Unit)×cO:=
  if d.2.2.length=65536 then((),(0,2,()),d)else((),((d.2.2.length:Int),0,()),(d.1,(true,d.2.2++[aA])))
theorem ajS {d:cO}(h:d.2.1=true)(hl:d.2.2.length≤65536):jC.F d ()=some (ac7 d):=by
  refine jC.of d _ fun G=>⟨0,st (ac6 d) (no (by show(!d.2.1)=false;rw[h];rfl) ?_)⟩
  unfold ac7
  by_cases h1:d.2.2.length=65536
  · rw [if_pos h1]
    exact yes (by show(((d.2.2.length:Nat):Int)==65536)=true;rw[h1];rfl) rfl
  · rw [if_neg h1]
    refine no (by show(((d.2.2.length:Nat):Int)==65536)=false;exact beq_eq_false_iff_ne.2 (by omega)) ?_
    refine yes (decide_eq_true (by show d.2.2.length+1<549755813888;omega)) ?_
    have e:IntKind.i64.wrap ((List.length (List.append d.2.2 [aA]):Int)-1)=d.2.2.length:=by
      rw[show List.length (List.append d.2.2 [aA])=d.2.2.length+1 from List.length_append]
      exact(ng (by omega) (by omega)).trans (by omega)
    show some (((),(IntKind.i64.wrap ((List.length (List.append d.2.2 [aA]):Int)-1),(0:Int),()),(d.1,(d.2.1,d.2.2++[aA]))),G.b,([]:List Value))=_
    rw[e,h]
theorem wF {α:Type}(l:List α)(z:α){i:Nat}(h:i<l.length):List.getD l (Int.toNat (i:Int)) z=l[i]:=by
  rw[Int.toNat_natCast,List.getD_eq_getElem?_getD,List.getElem?_eq_getElem h];rfl
theorem ac8 {nf:cu→cu}{s:b_}(h1:∀l∈s.1,NB nf l.1∧NB nf l.2)(h2:∀c∈s.2.2,NB nf c.2.2.2)(n1:s.1.length≤65536)(n2:s.2.2.length<900000000000):
    dh.F (s,())=some (stn nf s,()):=by
  have k7:∃j,∀k,dh.L7 (k+j) s.1 s.2.1 s.2.2 0 (s.1.map (Xc nf)) s.2.1 [] 0=some (stn nf s,()):=by
    refine up (fun k (p:Nat×dA)=>dh.L7 k s.1 s.2.1 s.2.2 0 (s.1.map (Xc nf)) s.2.1 p.2 (p.1:Int)) _
      (fun i (t:dA)=>t=(s.2.2.take i).map (chn nf)) s.2.2.length (fun i t hi ht=> ?_) (fun t ht=>⟨1,fun k=> ?_⟩) 0 [] (Nat.zero_le _) rfl
    · subst ht
      refine⟨_,rfl,1,fun k=> ?_⟩
      show dh.L7 (k+1) _ _ _ _ _ _ _ _=dh.L7 k _ _ _ _ _ _ _ _
      rw[dh.jA]
      unfold dh.b7
      refine yes (decide_eq_true (by omega)) (yes (by simp only[Bool.and_eq_true,decide_eq_true_eq];omega) ?_)
      rw[wF s.2.2 dN hi]
      refine st (MO (h2 _ (List.getElem_mem hi))) ?_
      refine yes (decide_eq_true (by simp only[List.length_map,List.length_take,List.length_cons,List.length_nil];omega)) ?_
      have e:IntKind.i64.wrap ((i:Int)+1)=((i+1:Nat):Int):=(ng (by omega) (by omega)).trans (by omega)
      have e2:List.append ((s.2.2.take i).map (chn nf)) [chn nf s.2.2[i]]=(s.2.2.take (i+1)).map (chn nf):=by
        rw[List.take_succ_eq_append_getElem hi,List.map_append];rfl
      show dh.L7 k s.1 s.2.1 s.2.2 0 (s.1.map (Xc nf)) s.2.1 (List.append ((s.2.2.take i).map (chn nf)) [chn nf s.2.2[i]]) (IntKind.i64.wrap ((i:Int)+1))=_
      rw[e,e2]
    · subst ht
      show dh.L7 (k+1) _ _ _ _ _ _ _ _=_
      rw[dh.jA]
      unfold dh.b7
      refine no (decide_eq_false (by omega)) ?_
      rw[List.take_length];rfl
  obtain⟨_,-,j,hj⟩:=aac (fun k (p:Nat×bC)=>dh.L3 k s.1 s.2.1 s.2.2 0 p.2 s.2.1 (p.1:Int)) (fun k (_:Unit)=>dh.L7 k s.1 s.2.1 s.2.2 0 (s.1.map (Xc nf)) s.2.1 [] 0)
    (fun i (t:bC)=>t=(s.1.take i).map (Xc nf)) (fun _=>True) s.1.length (fun i t hi ht=>by
      subst ht
      refine⟨_,rfl,1,fun k=> ?_⟩
      show dh.L3 (k+1) _ _ _ _ _ _ _=dh.L3 k _ _ _ _ _ _ _
      rw[dh.pG]
      unfold dh.b3
      refine yes (decide_eq_true (by omega)) (yes (by simp only[Bool.and_eq_true,decide_eq_true_eq];omega) ?_)
      rw[wF s.1 aA hi]
      have hm:=h1 _ (List.getElem_mem hi)
      refine st (MO hm.1) (yes (by simp only[Bool.and_eq_true,decide_eq_true_eq];omega) (st (MO hm.2) ?_))
      refine yes (decide_eq_true (by simp only[List.length_map,List.length_take,List.length_cons,List.length_nil];omega)) ?_
      have e:IntKind.i64.wrap ((i:Int)+1)=((i+1:Nat):Int):=(ng (by omega) (by omega)).trans (by omega)
      have e2:List.append ((s.1.take i).map (Xc nf)) [Xc nf s.1[i]]=(s.1.take (i+1)).map (Xc nf):=by
        rw[List.take_succ_eq_append_getElem hi,List.map_append];rfl
      show dh.L3 k s.1 s.2.1 s.2.2 0 (List.append ((s.1.take i).map (Xc nf)) [Xc nf s.1[i]]) s.2.1 (IntKind.i64.wrap ((i:Int)+1))=_
      rw[e,e2]) (fun t ht=>by
      subst ht
      refine⟨(),trivial,1,fun k=> ?_⟩
      show dh.L3 (k+1) _ _ _ _ _ _ _=_
      rw[dh.pG]
      unfold dh.b3
      refine no (decide_eq_false (by omega)) ?_
      rw[List.take_length]) 0 [] (Nat.zero_le _) rfl
  obtain⟨i,hi⟩:=k7
  refine dh.of (i+j) s ?_
  show dh.L3 (i+j) s.1 s.2.1 s.2.2 0 [] s.2.1 0=_
  exact(hj i).trans (by have:=hi 0;rwa[Nat.zero_add]at this)
def ac9 (nf:cu→cu)(s:b_):b_×Int×Int×Unit:=
  if s.1.length=65536 then(s,0,2,())else(((stn nf s).1++[aA],(stn nf s).2),(s.1.length:Int),0,())
theorem agr {nf:cu→cu}{s:b_}(h1:∀l∈s.1,NB nf l.1∧NB nf l.2)(h2:∀c∈s.2.2,NB nf c.2.2.2)(n1:s.1.length≤65536)(n2:s.2.2.length<900000000000):
    xw.F (s,())=some (ac9 nf s):=by
  refine xw.of 0 s ?_
  unfold ac9
  by_cases h:s.1.length=65536
  · rw[if_pos h];exact yes (decide_eq_true (by omega)) rfl
  · rw [if_neg h]
    refine no (decide_eq_false (by omega)) (st (ac8 h1 h2 n1 n2) (yes (decide_eq_true ?_) rfl))
    show((s.1.map (Xc nf)).length+1<549755813888)
    rw[List.length_map];omega
def rv (r:fP):Rat:=Rat.divInt (wv r.1) (val r.2)
noncomputable def vG (q:Rat):fP:=(wc q.num,canon (q.den:Int))
theorem ac_ (z d:Int):gY (ab z) d=(Int.gcd d z:Int):=by
  unfold gY ab
  rw[Int.gcd_comm]
  split<;>simp
theorem Yo {z d:Int}(hd:0<d):(Rat.divInt z d).num=z/gY (ab z) d:=by
  rw[Rat.num_divInt,ac_,Int.sign_eq_one_of_pos hd,Int.one_mul]
theorem ada {z d:Int}(hd:0<d):((Rat.divInt z d).den:Int)=d/gY (ab z) d:=by
  rw[Rat.den_divInt,if_neg (by omega),ac_]
  have:(d.natAbs:Int)=d:=by omega
  rw[Int.natCast_ediv,this]
theorem Ih:vG 0=((false,[]),[1]):=by
  unfold vG
  rw[show (0:Rat).num=0 from rfl,show((0:Rat).den:Int)=1 from rfl,Ib (by decide),Em (by decide),mD]
structure Rt (r:fP) (q:Rat) (n:Nat):Prop where
  num:Wn r.1 (wv r.1) n
  den:Nm r.2 (val r.2) n
  val:rv r=q
  pos:1≤n
theorem den_pos (q:Rat):0<(q.den:Int):=by have:=q.den_nz;omega
theorem Rj (q:Rat):rv (vG q)=q:=by
  unfold rv vG
  rw[Gm,fA (by omega),Rat.num_divInt_den]
theorem Eo {z g b:Int}(hg:0<g)(h: -b<z∧z<b): -b<z/g∧z/g<b:=by
  have h1:z/g*g≤z:=Int.ediv_mul_le z (by omega)
  have h2:z<(z/g+1)*g:=Int.lt_ediv_add_one_mul_self z hg
  rcases Int.lt_trichotomy z 0 with h0|h0|h0
  · have h3 : z / g < 0 := Int.ediv_neg_of_neg_of_pos h0 hg
    have h4:(z/g+1)*g≤(z/g+1)*1:=Int.mul_le_mul_of_nonpos_left (by omega) (by omega)
    omega
  · subst h0;simp;omega
  · have h3 : 0 ≤ z / g := Int.ediv_nonneg (by omega) (by omega)
    have h4:z/g*1≤z/g*g:=Int.mul_le_mul_of_nonneg_left (by omega) h3
    omega
theorem aan {n:Nat}(h:1≤n):1<pw n:=by
  have:=rZ h
  have e:pw 1=4294967296:=by decide
  omega
theorem Rt.bounds {r q n}(h:Rt r q n):(-pw n<q.num∧q.num<pw n)∧(q.den:Int)<pw n:=by
  have hb:=h.num.bound
  have hd:=h.den.lt
  have hv:=h.val
  have h1:=aan h.pos
  unfold rv at hv
  rcases Int.lt_or_eq_of_le h.den.pos with h0|h0
  · have hg := zn (x := ab (wv r.1)) (y := sZ.val r.2) (by omega)
    have e1:=Yo (z:=wv r.1) h0
    have e2:=ada (z:=wv r.1) h0
    rw[hv]at e1 e2
    refine⟨by rw[e1];exact Eo hg hb,?_⟩
    rw[e2]
    exact(Eo hg ⟨by omega,hd⟩).2
  · rw [← h0, Rat.divInt_zero] at hv
    subst hv
    have:=kS n
    refine⟨⟨?_,?_⟩,h1⟩
    · show -pw n<0;omega
    · show 0<pw n;omega
theorem Rt.am1 {q:Rat}{n:Nat}(hn:1≤n)(h1: -pw n<q.num∧q.num<pw n)(h2:(q.den:Int)<pw n):Rt (vG q) q n where
  num:=by
    show Wn (wc q.num) (wv (wc q.num)) n
    rw[Gm];exact .of h1
  den:=by
    show Nm (canon (q.den:Int)) (sZ.val (canon (q.den:Int))) n
    rw[fA (by omega)];exact .canon (by omega) h2
  val:=Rj q
  pos:=hn
theorem Rt.norm {r q n}(h:Rt r q n):Rt (vG q) q n:= .am1 h.pos h.bounds.1 h.bounds.2
theorem U4 {x:Int}(h:0≤x):(jc x.toNat:Int)=0↔x=0:=by
  have key:∀n:Nat,jc n=0↔n=0:=by
    intro n
    constructor
    · intro h
      unfold jc at h
      split at h
      · assumption
      · omega
    · intro h;subst h;unfold jc;rfl
  have:=key x.toNat
  omega
theorem parts {p:dK}{z d:Int}{n:Nat}(hp:Wn p z n)(hd:0<d):Wn (p.1,canon (ab z/gY (ab z) d)) (z/gY (ab z) d) n:=by
  have hg:=zn (x:=ab z) (y:=d) (by omega)
  have ha:=aal z
  have hz:0≤ab z/gY (ab z) d:=Int.ediv_nonneg ha (by omega)
  have XY:=hp.nm.lt
  have hb:=Eo hg ⟨show -pw n<ab z by have:=kS n;omega,XY⟩
  refine⟨jJ _,?_,oK hz hb.2⟩
  have he:=hp.Ah
  unfold wv
  show(if p.1=true then -(sZ.val (canon (ab z/gY (ab z) d)))else sZ.val (canon (ab z/gY (ab z) d)))=z/gY (ab z) d
  rw[fA hz]
  cases wQ:p.1 with
  |true=>
    rw[wQ]at he
    simp only[if_true]at he⊢
    have hdv:gY (ab z) d∣ab z:=uJ _ _
    rw[←Int.neg_ediv_of_dvd hdv,he]
  |false=>
    rw[wQ]at he
    simp only[Bool.false_eq_true,if_false]at he⊢
    rw[he]
theorem ajT {p:dK}{e:aj}{z d:Int}{n:Nat}(hp:Wn p z n)(he:Nm e d n)(hd:0<d)(hn:n<70368744177664):tN.F (p,e,())=some (vG (Rat.divInt z d),()):=by
  have hg:=zn (x:=ab z) (y:=d) (by omega)
  have g1:=hp.nm
  have hgn:Nm (canon (gY (ab z) d)) (gY (ab z) d) n:= .canon (by omega) (Rf g1.pos he.pos g1.lt he.lt)
  refine tN.of 0 p e (st (g1.Gcd_F he hn) (st ((g1.Div_F hgn hn hn).trans (congrArg some (BQ (by omega)))) (st ((he.Div_F hgn hn hn).trans (congrArg some (BQ (by omega)))) (st ((parts hp hd).Norm_F (by omega)) ?_))))
  show some ((wc (z/gY (ab z) d),canon (d/gY (ab z) d)),())=_
  unfold vG
  rw[Yo hd,ada hd]
theorem Rt.Norm_F {r q n}(h:Rt r q n)(hn:n<70368744177664):l9.F (r,())=some (vG q,()):=by
  have hb:=ajH h.den.iL (by have:=h.den.len;omega)
  refine l9.of 0 r (st hb ?_)
  have hv:=h.val
  unfold rv at hv
  rcases Int.lt_or_eq_of_le h.den.pos with h0|h0
  · refine no ?_ (st (ajT h.num h.den h0 hn) ?_)
    · refine beq_eq_false_iff_ne.2 fun e => ?_
      have:=(U4 h.den.pos).1 e
      omega
    · rw[hv]
  · refine yes ?_ ?_
    · rw[←h0];rfl
    · rw [← h0, Rat.divInt_zero] at hv
      subst hv
      rw[Ih]
theorem DI {x:Int}(h:0<x):((canon x).length:Int)≠0:=by
  have:=f_ (n:=x) (by omega)
  omega
theorem Rt.rNorm_F {r q n}(h:Rt r q n)(hn:n<70368744177664):iR.F (r,())=some (vG q,()):=by
  refine iR.of 0 r (st (h.num.rNorm_F (by omega)) (st (h.den.rNorm_F (by omega)) ?_))
  have hv:=h.val
  unfold rv at hv
  rcases Int.lt_or_eq_of_le h.den.pos with h0|h0
  · refine no (beq_eq_false_iff_ne.2 (DI h0)) ?_
    have hw:(wc (wv r.1)).2=canon (ab (wv r.1)):=rfl
    by_cases hz:wv r.1=0
    · refine yes ?_ ?_
      · show (((canon (ab (wv r.1))).length : Int) == 0) = true
        rw[hz,show ab 0=0 from rfl,mD];rfl
      · rw [hz, Rat.zero_divInt] at hv
        subst hv
        rw[Ih]
    · have hab : 0 < ab (wv r.1) := by have := Pv (wv r.1); omega
      refine no (beq_eq_false_iff_ne.2 (DI hab)) ?_
      have g1:Nm (canon (ab (wv r.1))) (ab (wv r.1)) n:=h.num.norm.nm
      have g2:=h.den.norm
      have hg:=zn (x:=ab (wv r.1)) (y:=sZ.val r.2) (by omega)
      have hgn:Nm (canon (gY (ab (wv r.1)) (sZ.val r.2))) (gY (ab (wv r.1)) (sZ.val r.2)) n:= .canon (by omega) (Rf g1.pos g2.pos g1.lt g2.lt)
      refine st (g1.rGcd_F g2 hn) (st ((g1.rDiv_F hgn hn hn).trans (congrArg some (BQ (by omega)))) (st ((g2.rDiv_F hgn hn hn).trans (congrArg some (BQ (by omega)))) ?_))
      show some (((decide (wv r.1<0),canon (ab (wv r.1)/gY (ab (wv r.1)) (sZ.val r.2))),canon (sZ.val r.2/gY (ab (wv r.1)) (sZ.val r.2))),())=_
      rw[←hv]
      unfold vG
      rw[Yo h0,ada h0]
      have hp:=parts h.num.norm h0
      have e1:((wc (wv r.1)).1,canon (ab (wv r.1)/gY (ab (wv r.1)) (sZ.val r.2)))=wc (wv r.1/gY (ab (wv r.1)) (sZ.val r.2)):=by
        have hdv:gY (ab (wv r.1)) (sZ.val r.2)∣ab (wv r.1):=uJ _ _
        have Bo:0<ab (wv r.1)/gY (ab (wv r.1)) (sZ.val r.2):=Int.ediv_pos_of_pos_of_dvd hab (by omega) hdv
        have key:(wv r.1<0↔wv r.1/gY (ab (wv r.1)) (sZ.val r.2)<0)∧ab (wv r.1)/gY (ab (wv r.1)) (sZ.val r.2)=ab (wv r.1/gY (ab (wv r.1)) (sZ.val r.2)):=by
          have t:=Pv (wv r.1/gY (ab (wv r.1)) (sZ.val r.2))
          by_cases hs:wv r.1<0
          · have e2 : ab (wv r.1) = -wv r.1 := by have := Pv (wv r.1); omega
            have arS:gY (ab (wv r.1)) (sZ.val r.2)∣wv r.1:=by
              have:=Int.dvd_neg.2 hdv
              have e: -ab (wv r.1)=wv r.1:=by omega
              rwa[e]at this
            have e3:ab (wv r.1)/gY (ab (wv r.1)) (sZ.val r.2)= -(wv r.1/gY (ab (wv r.1)) (sZ.val r.2)):=by
              rw[←Int.neg_ediv_of_dvd arS,←e2]
            omega
          · have e2 : ab (wv r.1) = wv r.1 := by have := Pv (wv r.1); omega
            have e3:ab (wv r.1)/gY (ab (wv r.1)) (sZ.val r.2)=wv r.1/gY (ab (wv r.1)) (sZ.val r.2):=congrArg (· /_) e2
            omega
        show(decide (wv r.1<0),_)=(decide (wv r.1/gY (ab (wv r.1)) (sZ.val r.2)<0),canon (ab (wv r.1/gY (ab (wv r.1)) (sZ.val r.2))))
        rw[decide_eq_decide.2 key.1,key.2]
      exact congrArg (fun a=>some ((a,_),())) e1
  · refine yes ?_ ?_
    · show (((canon (sZ.val r.2)).length : Int) == 0) = true
      rw[←h0,mD];rfl
    · rw [← h0, Rat.divInt_zero] at hv
      subst hv
      rw[Ih]
def BR (p q:Rat):Int:=wE (p.num*q.den-q.num*p.den)
theorem Yp {p q:Rat}:BR p q<0↔p<q:=by
  rw[Rat.lt_iff]
  unfold BR wE
  split<;>(try split)<;>omega
theorem Yq {p q:Rat}:0<BR p q↔q<p:=by
  rw[Rat.lt_iff]
  unfold BR wE
  split<;>(try split)<;>omega
theorem Kt {p q:Rat}:BR p q=0↔p=q:=by
  constructor
  · intro h
    have h1:=(Rat.le_iff p q).2 (by unfold BR wE at h;split at h<;>(try split at h)<;>omega)
    have h2:=(Rat.le_iff q p).2 (by unfold BR wE at h;split at h<;>(try split at h)<;>omega)
    exact Rat.le_antisymm h1 h2
  · rintro rfl
    unfold BR
    rw[Int.sub_self];rfl
theorem adb {z g:Int}(hg:0<g)(hd:g∣z):wE (z/g)=wE z:=by
  have he:z/g*g=z:=Int.ediv_mul_cancel hd
  rcases Int.lt_trichotomy z 0 with h|h|h
  · have : z / g < 0 := Int.ediv_neg_of_neg_of_pos h hg
    unfold wE
    rw[if_pos h,if_pos this]
  · subst h;simp
  · have : 0 < z / g := Int.ediv_pos_of_pos_of_dvd h (by omega) hd
    unfold wE
    rw[if_neg (by omega),if_neg (by omega),if_neg (by omega),if_neg (by omega)]
theorem ajU {z g:Int}(h:g∣ab z):g∣z:=by
  unfold ab at h
  split at h
  · have:=Int.dvd_neg.2 h;rwa[Int.neg_neg]at this
  · exact h
theorem Yr (p q:Rat):wE (p-q).num=BR p q:=by
  have hd:0<(p.den:Int)*q.den:=Int.mul_pos (den_pos p) (den_pos q)
  have e:p-q=Rat.divInt (p.num*q.den-q.num*p.den) ((p.den:Int)*q.den):=by
    rw[Rat.sub_def',←Rat.divInt_ofNat,Int.natCast_mul]
  rw[e,Yo hd]
  exact adb (zn (by omega)) (ajU (uJ _ _))
theorem Xd (p q:Rat):Rat.divInt (p.num*q.den+q.num*p.den) ((p.den:Int)*q.den)=p+q:=by
  rw[Rat.add_def',←Rat.divInt_ofNat,Int.natCast_mul]
theorem Ju {q:Rat}{n:Nat}(h:Rt (vG q) q n):Wn (wc q.num) q.num n:=by
  have:=h.num
  have e:(vG q).1=wc q.num:=rfl
  rw[e,Gm]at this
  exact this
theorem Gp {q:Rat}{n:Nat}(h:Rt (vG q) q n):Nm (canon (q.den:Int)) (q.den:Int) n:=by
  have:=h.den
  have e:(vG q).2=canon (q.den:Int):=rfl
  rw[e,fA (by omega)]at this
  exact this
theorem Rt.Cmp_F {r s p q n}(h:Rt r p n)(g:Rt s q n)(hn:n+n<70368744177664):t_.F (r,s,())=some (BR p q,()):=by
  have hp:=h.norm
  have hq:=g.norm
  refine t_.of 0 r s (st (h.Norm_F (by omega)) (st (g.Norm_F (by omega)) ?_))
  exact st ((Ju hp).Mul_F (Gp hq).wn (by omega)) (st ((Ju hq).Mul_F (Gp hp).wn (by omega)) (st (((Ju hp).mul (Gp hq).wn).Cmp_F ((Ju hq).mul (Gp hp).wn) (by omega)) rfl))
theorem Rt.Xb {r q n}(h:Rt r q n)(hn:n<70368744177664):CY.F (r,())=some (vG (-q),()):=by
  have hq:=h.norm
  have hb:=hq.bounds
  have hm:Rt (wc (-q.num),canon (q.den:Int)) (-q) n:=by
    refine⟨?_,?_,?_,h.pos⟩
    · show Wn (wc (-q.num)) (wv (wc (-q.num))) n
      rw[Gm];exact .of (by omega)
    · exact hq.den
    · show Rat.divInt (wv (wc (-q.num))) (sZ.val (canon (q.den : Int))) = -q
      rw[Gm,fA (by omega),←Rat.neg_divInt,Rat.num_divInt_den]
  refine CY.of 0 r (st (h.rNorm_F hn) (st ((Ju hq).Xb (by omega)) (st (hm.rNorm_F hn) rfl)))
theorem Rt.neg {q n}(h:Rt (vG q) q n):Rt (vG (-q)) (-q) n:=
  .am1 h.pos (by have:=h.bounds;rw[Rat.neg_num];omega) (by rw[Rat.neg_den];exact h.bounds.2)
theorem Rt.am3 {p q n}(h:Rt (vG p) p n)(g:Rt (vG q) q n):Rt (wc (p.num*q.den+q.num*p.den),canon ((p.den:Int)*q.den)) (p+q) (n+n+1):=by
  have h1:=((Ju h).mul (Gp g).wn).add ((Ju g).mul (Gp h).wn)
  have h2:=(Gp h).mul (Gp g)
  refine⟨?_,?_,?_,by omega⟩
  · show Wn (wc _) (wv (wc _)) _
    rw[Gm];exact h1
  · show Nm (canon _) (sZ.val (canon _)) _
    rw[h2.val];exact h2.mono (by omega)
  · show Rat.divInt (wv (wc _)) (sZ.val (canon _)) = _
    rw[Gm,h2.val,Xd]
theorem Rt.rAdd_F {r s p q n}(h:Rt r p n)(g:Rt s q n)(hn:n+n+1<70368744177664):CX.F (r,s,())=some (vG (p+q),()):=by
  have hp:=h.norm
  have hq:=g.norm
  refine CX.of 0 r s (st (h.rNorm_F (by omega)) (st (g.rNorm_F (by omega)) (st (oH.of 0 _ rfl) (st ((Ju hp).rMul_F (Gp hq).wn (by omega)) (st (oH.of 0 _ rfl) (st ((Ju hq).rMul_F (Gp hp).wn (by omega)) ?_))))))
  exact st (((Ju hp).mul (Gp hq).wn).rAdd_F ((Ju hq).mul (Gp hp).wn) (by omega)) (st ((Gp hp).rMul_F (Gp hq) (by omega)) (st ((hp.am3 hq).rNorm_F hn) rfl))
theorem Rt.rSub_F {r s p q n}(h:Rt r p n)(g:Rt s q n)(hn:n+n+1<70368744177664):z_.F (r,s,())=some (vG (p-q),()):=by
  refine z_.of 0 r s (st (g.Xb (by omega)) (st (h.rAdd_F g.norm.neg hn) ?_))
  rw[Rat.sub_eq_add_neg]
theorem Rt.sub {r s p q n}(h:Rt r p n)(g:Rt s q n):Rt (vG (p-q)) (p-q) (n+n+1):=by
  rw[Rat.sub_eq_add_neg]
  exact(h.norm.am3 g.norm.neg).norm
theorem Rt.Gn {r q n}(h:Rt r q n)(hn:n<70368744177664):oW.F (r,())=some (wE q.num,()):=
  oW.of 0 r (st (h.rNorm_F hn) (st ((Ju h.norm).Gn (by omega)) rfl))
noncomputable def Ai (x:Rat×Rat):cu:=(vG x.1,vG x.2)
def vH (x y:Rat×Rat):Int:=if BR x.1 y.1≠0 then BR x.1 y.1 else BR x.2 y.2
structure Dn (d:cu) (x:Rat×Rat) (n:Nat):Prop where
  a:Rt d.1 x.1 n
  b:Rt d.2 x.2 n
theorem Dn.norm {d x n}(h:Dn d x n):Dn (Ai x) x n:=⟨h.a.norm,h.b.norm⟩
theorem Dn.Norm_F {d x n}(h:Dn d x n)(hn:n<70368744177664):iT.F (d,())=some (Ai x,()):=
  iT.of 0 d (st (h.a.Norm_F hn) (st (h.b.Norm_F hn) rfl))
theorem Dn.rNorm_F {d x n}(h:Dn d x n)(hn:n<70368744177664):jT.F (d,())=some (Ai x,()):=
  jT.of 0 d (st (h.a.rNorm_F hn) (st (h.b.rNorm_F hn) rfl))
theorem Dn.Cmp_F {c d x y n}(h:Dn c x n)(g:Dn d y n)(hn:n+n<70368744177664):qo.F (c,d,())=some (vH x y,()):=by
  refine qo.of 0 c d (st (h.a.Cmp_F g.a hn) ?_)
  unfold vH
  by_cases hz:BR x.1 y.1=0
  · rw [if_neg (by simp [hz])]
    exact no (bne_eq_false_iff_eq.2 hz) (st (h.b.Cmp_F g.b hn) rfl)
  · rw [if_pos hz]
    exact yes (bne_iff_ne.2 hz) rfl
theorem Dn.rCmp_F {c d x y n}(h:Dn c x n)(g:Dn d y n)(hn:n+n+1<70368744177664):Aa.F (c,d,())=some (vH x y,()):=by
  have k1:CZ.F (c,d,())=some (Ai (x.1-y.1,x.2-y.2),()):=
    CZ.of 0 c d (st (h.a.rSub_F g.a hn) (st (h.b.rSub_F g.b hn) rfl))
  have k2:zf.F (Ai (x.1-y.1,x.2-y.2),())=some (vH x y,()):=by
    refine zf.of 0 _ (st ((h.a.sub g.a).Gn hn) ?_)
    unfold vH
    rw[Yr]
    by_cases hz:BR x.1 y.1=0
    · rw [if_neg (by simp [hz])]
      refine no (bne_eq_false_iff_eq.2 hz) (st ((h.b.sub g.b).Gn hn) ?_)
      rw[Yr]
    · rw [if_pos hz]
      exact yes (bne_iff_ne.2 hz) rfl
  exact Aa.of 0 c d (st k1 (st k2 rfl))
def dlt (x y:Rat×Rat):Prop:=x.1<y.1∨(x.1=y.1∧x.2<y.2)
theorem Yt {x y:Rat×Rat}:vH x y<0↔dlt x y:=by
  unfold vH dlt
  by_cases h:BR x.1 y.1=0
  · rw [if_neg (by simp [h]), Yp]
    have:=Kt.1 h
    rw[this]
    have:= @Rat.lt_irrefl y.1
    simp[this]
  · rw [if_pos h, Yp]
    have:x.1≠y.1:=fun e=>h (Kt.2 e)
    simp[this]
theorem Yu {x y:Rat×Rat}:0<vH x y↔dlt y x:=by
  unfold vH dlt
  by_cases h:BR x.1 y.1=0
  · rw [if_neg (by simp [h]), Yq]
    have:=Kt.1 h
    rw[this]
    have:= @Rat.lt_irrefl y.1
    simp[this]
  · rw [if_pos h, Yq]
    have:y.1≠x.1:=fun e=>h (Kt.2 e.symm)
    simp[this]
theorem Py (r s:fP)(h1:r.1.2.length≤70368744177664)(h2:r.2.length≤70368744177664):ug.F (r,s,())=some (decide (r=s),()):=by
  refine ug.of 0 r s (st (aam r.1 s.1 h1) ?_)
  by_cases e1:r.1=s.1
  · refine yes (decide_eq_true e1) (st (Px r.2 s.2 h2) ?_)
    by_cases e2:r.2=s.2
    · rw[decide_eq_true e2,decide_eq_true (Prod.ext e1 e2)]
    · rw[decide_eq_false e2,decide_eq_false fun e=>e2 (congrArg Prod.snd e)]
  · refine no (decide_eq_false e1) ?_
    rw[decide_eq_false fun e=>e1 (congrArg Prod.fst e)]
theorem Jb {c:cu}{x:Rat×Rat}{n:Nat}(h:Dn c x n)(d:cu)(hn:n≤70368744177664):lF.F (c,d,())=some (decide (c=d),()):=by
  have k {r:fP} {q:Rat} (h:Rt r q n):r.1.2.length≤70368744177664∧r.2.length≤70368744177664:=⟨Nat.le_trans h.num.len hn,Nat.le_trans h.den.len hn⟩
  refine lF.of 0 c d (st (Py c.1 d.1 (k h.a).1 (k h.a).2) ?_)
  by_cases e1:c.1=d.1
  · refine yes (decide_eq_true e1) (st (Py c.2 d.2 (k h.b).1 (k h.b).2) ?_)
    by_cases e2:c.2=d.2
    · rw[decide_eq_true e2,decide_eq_true (Prod.ext e1 e2)]
    · rw[decide_eq_false e2,decide_eq_false fun e=>e2 (congrArg Prod.snd e)]
  · refine no (decide_eq_false e1) ?_
    rw[decide_eq_false fun e=>e1 (congrArg Prod.fst e)]
abbrev Q2:=Rat×Rat
abbrev AB:=Option (Q2×Int)
abbrev AL:=AB×AB
abbrev AC:=Int×Bool×Int×AB
structure M where
  level:Int
  changes:List AC
  aP:List AL
noncomputable def bI:AB→jL
  |none=>HY
  |some (x,w)=>(true,Ai x,w)
noncomputable def lI (l:AL):dJ:=(bI l.1,bI l.2)
noncomputable def cI (c:AC):bZ:=(c.1,c.2.1,c.2.2.1,bI c.2.2.2)
noncomputable def mS (m:M):cO:=((m.level,m.changes.map cI),(true,m.aP.map lI))
noncomputable def mR (m:M):b_:=(m.aP.map lI,m.level,m.changes.map cI)
def SZ:Nat:=35184372087808
def Bk (b:AB):Prop:=∀x w,b=some (x,w)→Dn (Ai x) x SZ
theorem Bk.none:Bk none:=fun x w h=>by cases h
theorem Bk.some {x:Q2}{w:Int}(h:Dn (Ai x) x SZ):Bk (some (x,w)):=fun y v e=>by cases e;exact h
structure M.ok (m:M) (K:Nat):Prop where
  uo:∀l∈m.aP,Bk l.1∧Bk l.2
  Jc:∀c∈m.changes,Bk c.2.2.2∧0≤c.1∧c.1<m.aP.length
  nl:m.aP.length≤65536
  nc:m.changes.length≤K
  oh:0≤m.level∧m.level≤K
def tb (up:Bool)(x y:Q2):Bool:=bif up then decide (vH x y<0)else decide (0<vH x y)
theorem zo (x y:Q2):(vH x y<0↔0<vH y x)∧(0<vH x y↔vH y x<0):=by
  rw[Yt,Yu,Yu,Yt]
  exact⟨Iff.rfl,Iff.rfl⟩
def xE (b:AB)(x:Q2):Bool:=match b with
  |none=>false
  |some (y,_)=>tb false x y
def Ii (b:AB)(x:Q2):Bool:=match b with
  |none=>false
  |some (y,_)=>tb true x y
theorem Rk {b:AB}{a:cu}{x:Q2}(hb:Bk b)(ha:Dn a x SZ):dW.F (bI b,a,())=some (xE b x,()):=by
  refine dW.of 0 _ a ?_
  match b,hb with
  |none,_=>exact no rfl rfl
  |some (y,w),hb=>
    refine yes rfl (st ((hb y w rfl).Cmp_F ha (by decide)) ?_)
    show some (decide (vH y x<0),())=some (decide (0<vH x y),())
    rw[decide_eq_decide.2 (zo y x).1]
theorem Rl {b:AB}{a:cu}{x:Q2}(hb:Bk b)(ha:Dn a x SZ):iO.F (bI b,a,())=some (Ii b x,()):=by
  refine iO.of 0 _ a ?_
  match b,hb with
  |none,_=>exact no rfl rfl
  |some (y,w),hb=>
    refine yes rfl (st ((hb y w rfl).Cmp_F ha (by decide)) ?_)
    show some (decide (0<vH y x),())=some (decide (vH x y<0),())
    rw[decide_eq_decide.2 (zo y x).2]
theorem getD_map {l:List AL}{v:Int}:List.getD (l.map lI) v.toNat aA=lI (l.getD v.toNat (none,none)):=by
  rw[List.getD_eq_getElem?_getD,List.getD_eq_getElem?_getD,List.getElem?_map]
  cases l[v.toNat]? <;>rfl
theorem U5 {α:Type}{l:List α}{z:α}{v:Int}(h:0≤v∧v<l.length):l.getD v.toNat z∈l:=by
  rw[List.getD_eq_getElem?_getD,List.getElem?_eq_getElem (by omega)]
  exact List.getElem_mem _
theorem kW {v:Int}{n:Nat}(h:0≤v∧v<n):(decide (0≤v)&&decide (v<(n:Int)))=true:=by simp[h]
theorem Gq (d:cO)(h:d.2.1=true)(v:Int):dR.F d (v,())=some ((),(if 0≤v∧v<d.2.2.length then 0 else 61,()),d):=by
  refine dR.of d v _ fun G=>⟨0,st (ac6 d) (no (by show(!d.2.1)=false;rw[h];rfl) ?_)⟩
  by_cases h1:v<0
  · rw[if_neg (by omega)];exact yes (decide_eq_true h1) rfl
  refine no (decide_eq_false h1) ?_
  by_cases h2:v≥d.2.2.length
  · rw[if_neg (by omega)];exact yes (decide_eq_true h2) rfl
  · rw[if_pos (by omega)];exact no (decide_eq_false h2) rfl
theorem ade (oh:Int)(cs:List bZ)(v:Int)(up:Bool)(b:jL)(h:cs.length<925904528652):fJ.F (oh,cs) (v,up,b,())=some ((),(),(oh,cs++[(v,up,oh,b)])):=
  fJ.of (oh,cs) v up b _ fun G=>⟨0,yes (decide_eq_true (by show cs.length+1<925904528653;omega)) rfl⟩
def own (up:Bool)(l:AL):AB:=bif up then l.2 else l.1
def Sz (up:Bool)(l:AL):AB:=bif up then l.1 else l.2
def put (up:Bool)(l:AL)(b:AB):AL:=bif up then(l.1,b)else(b,l.2)
def kept (up:Bool)(b:AB)(x:Q2):Bool:=match b with
  |none=>false
  |some (y,_)=> !tb up x y
def DJ (up:Bool)(b:AB)(x:Q2):Bool:=match b with
  |none=>false
  |some (y,_)=>tb (!up) y x
def ah9 (b:AB):Int:=match b with
  |none=>0
  |some (_,w)=>w
def rF (up:Bool)(m:M)(v:Int)(x:Q2)(w:Int):M×(Int×Int)×Int:=
  if 0≤v∧v<m.aP.length then
    let l:=m.aP.getD v.toNat (none,none)
    if kept up (own up l) x=true then(m,(0,0),0)
    else if DJ up (Sz up l) x=true then(m,(2,ah9 (Sz up l)),0)
    else(⟨m.level,m.changes++[(v,up,m.level,own up l)],m.aP.set v.toNat (put up l (some (x,w)))⟩,(1,0),0)
  else(m,(0,0),61)
theorem Rn (up:Bool)(x y:Q2):tb (!up) y x=tb up x y:=by
  cases up
  · show decide (vH y x < 0) = decide (0 < vH x y)
    exact decide_eq_decide.2 (zo y x).1
  · show decide (0 < vH y x) = decide (vH x y < 0)
    exact decide_eq_decide.2 (zo y x).2
theorem Pz (b:AB)(x:Q2):DJ false b x=xE b x:=by
  match b with
  |none=>rfl
  |some (y,w)=>exact Rn false x y
theorem adf (b:AB)(x:Q2):DJ true b x=Ii b x:=by
  match b with
  |none=>rfl
  |some (y,w)=>exact Rn true x y
theorem Xe (b:AB):(bI b).2.2=ah9 b:=by cases b<;>rfl
theorem Gs {m:M}{K:Nat}(h:m.ok K){v:Int}(hv:0≤v∧v<m.aP.length):Bk (m.aP.getD v.toNat (none,none)).1∧Bk (m.aP.getD v.toNat (none,none)).2:=h.uo _ (U5 hv)
theorem sF (l:List AL)(i:Nat)(a:AL):List.set (l.map lI) i (lI a)=(l.set i a).map lI:=by rw[List.map_set]
theorem adg (d:cO)(v:Int)(a:cu)(w:Int)(b1 b2:Bool)(n:cu)(hd:d.2.1=true)(hv:0≤v∧v<d.2.2.length)(hn:d.1.2.length<925904528652)
    (h1:dW.F ((List.getD d.2.2 v.toNat aA).1,a,())=some (b1,())) (h2:dW.F ((List.getD d.2.2 v.toNat aA).2,a,())=some (b2,())) (h3:iT.F (a,())=some (n,())):
    iE.F d (v,a,w,())=some (if (List.getD d.2.2 v.toNat aA).1.1=true∧b1=false then((),((0,0),0,()),d)else if b2=true then((),((2,(List.getD d.2.2 v.toNat aA).2.2.2),0,()),d)
      else((),((1,0),0,()),((d.1.1,d.1.2++[(v,false,d.1.1,(List.getD d.2.2 v.toNat aA).1)]),(d.2.1,List.set d.2.2 v.toNat ((true,n,w),(List.getD d.2.2 v.toNat aA).2))))):=by
  refine iE.of d v a w _ fun G=>⟨0,?_⟩
  refine st (Gq d hd v) ?_
  rw[if_pos hv]
  refine no rfl (yes (kW hv) ?_)
  dsimp only
  have hN:=ade d.1.1 d.1.2 v false (List.getD d.2.2 v.toNat aA).1 hn
  by_cases hb:(List.getD d.2.2 v.toNat aA).1.1=true
  rotate_left
  · refine no (Bool.eq_false_iff.2 hb) (st h2 ?_)
    rw[if_neg (fun h=>hb h.1)]
    cases b2 with
    |true=>exact yes rfl rfl
    |false=>exact no rfl (st hN (st h3 rfl))
  · refine yes hb (st h1 ?_)
    cases b1 with
    |false=>rw[if_pos ⟨hb,rfl⟩];exact yes rfl rfl
    |true=>
      rw[if_neg (fun h=>by cases h.2)]
      refine no rfl (st h2 ?_)
      cases b2 with
      |true=>exact yes rfl rfl
      |false=>exact no rfl (st hN (st h3 rfl))
theorem aao (d:cO)(v:Int)(a:cu)(w:Int)(b1 b2:Bool)(n:cu)(hd:d.2.1=true)(hv:0≤v∧v<d.2.2.length)(hn:d.1.2.length<925904528652)
    (h1:iO.F ((List.getD d.2.2 v.toNat aA).2,a,())=some (b1,())) (h2:iO.F ((List.getD d.2.2 v.toNat aA).1,a,())=some (b2,())) (h3:iT.F (a,())=some (n,())):
    gW.F d (v,a,w,())=some (if (List.getD d.2.2 v.toNat aA).2.1=true∧b1=false then((),((0,0),0,()),d)else if b2=true then((),((2,(List.getD d.2.2 v.toNat aA).1.2.2),0,()),d)
      else((),((1,0),0,()),((d.1.1,d.1.2++[(v,true,d.1.1,(List.getD d.2.2 v.toNat aA).2)]),(d.2.1,List.set d.2.2 v.toNat ((List.getD d.2.2 v.toNat aA).1,(true,n,w)))))):=by
  refine gW.of d v a w _ fun G=>⟨0,?_⟩
  refine st (Gq d hd v) ?_
  rw[if_pos hv]
  refine no rfl (yes (kW hv) ?_)
  dsimp only
  have hN:=ade d.1.1 d.1.2 v true (List.getD d.2.2 v.toNat aA).2 hn
  by_cases hb:(List.getD d.2.2 v.toNat aA).2.1=true
  rotate_left
  · refine no (Bool.eq_false_iff.2 hb) (st h2 ?_)
    rw[if_neg (fun h=>hb h.1)]
    cases b2 with
    |true=>exact yes rfl rfl
    |false=>exact no rfl (st hN (st h3 rfl))
  · refine yes hb (st h1 ?_)
    cases b1 with
    |false=>rw[if_pos ⟨hb,rfl⟩];exact yes rfl rfl
    |true=>
      rw[if_neg (fun h=>by cases h.2)]
      refine no rfl (st h2 ?_)
      cases b2 with
      |true=>exact yes rfl rfl
      |false=>exact no rfl (st hN (st h3 rfl))
theorem ajV {m:M}{K:Nat}(h:m.ok K)(hK:K<925904528652)(v:Int){a:cu}{x:Q2}(ha:Dn a x SZ)(w:Int):
    iE.F (mS m) (v,a,w,())=some ((),((rF false m v x w).2.1,(rF false m v x w).2.2,()),mS (rF false m v x w).1):=by
  have hlen:(mS m).2.2.length=m.aP.length:=List.length_map ..
  have hn:(mS m).1.2.length<925904528652:=by
    have:(mS m).1.2.length=m.changes.length:=List.length_map ..
    have:=h.nc;omega
  by_cases hv:0≤v∧v<m.aP.length
  · have hb := Gs h hv
    have hg:List.getD (mS m).2.2 v.toNat aA=lI (m.aP.getD v.toNat (none,none)):=getD_map
    have key:=adg (mS m) v a w _ _ _ rfl (by rw[hlen];exact hv) hn (by rw[hg];exact Rk hb.1 ha) (by rw[hg];exact Rk hb.2 ha) (ha.Norm_F (by decide))
    rw[key,hg]
    unfold rF
    rw[if_pos hv]
    generalize m.aP.getD v.toNat (none,none)=l at hb hg⊢
    obtain⟨lo,hi⟩:=l
    have Hz:DJ false (Sz false (lo,hi)) x=xE hi x:=Pz hi x
    have e1:((lI (lo,hi)).1.1=true∧xE lo x=false)↔kept false (own false (lo,hi)) x=true:=by
      show _↔kept false lo x=true
      match lo with
      |none=>simp[lI,bI,kept]
      |some (y,u)=>simp[lI,bI,kept,xE]
    by_cases hk:kept false (own false (lo,hi)) x=true
    · rw[if_pos (e1.2 hk),if_pos hk]
    · rw [if_neg (fun g => hk (e1.1 g)), if_neg hk]
      by_cases hc:xE hi x=true
      · rw [if_pos hc, if_pos (Hz.trans hc)]
        show some ((),((2,(bI hi).2.2),0,()),mS m)=_
        rw[Xe];rfl
      · rw [if_neg hc, if_neg (fun g => hc (Hz.symm.trans g))]
        refine congrArg some (congrArg (Prod.mk ()) (congrArg (Prod.mk _) ?_))
        unfold mS
        rw[List.map_append,←sF]
        rfl
  · refine iE.of (mS m) v a w _ fun G => ⟨0, st (Gq (mS m) rfl v) ?_⟩
    unfold rF
    rw[hlen,if_neg hv,if_neg hv]
    exact yes rfl rfl
theorem ags {m:M}{K:Nat}(h:m.ok K)(hK:K<925904528652)(v:Int){a:cu}{x:Q2}(ha:Dn a x SZ)(w:Int):
    gW.F (mS m) (v,a,w,())=some ((),((rF true m v x w).2.1,(rF true m v x w).2.2,()),mS (rF true m v x w).1):=by
  have hlen:(mS m).2.2.length=m.aP.length:=List.length_map ..
  have hn:(mS m).1.2.length<925904528652:=by
    have:(mS m).1.2.length=m.changes.length:=List.length_map ..
    have:=h.nc;omega
  by_cases hv:0≤v∧v<m.aP.length
  · have hb := Gs h hv
    have hg:List.getD (mS m).2.2 v.toNat aA=lI (m.aP.getD v.toNat (none,none)):=getD_map
    have key:=aao (mS m) v a w _ _ _ rfl (by rw[hlen];exact hv) hn (by rw[hg];exact Rl hb.2 ha) (by rw[hg];exact Rl hb.1 ha) (ha.Norm_F (by decide))
    rw[key,hg]
    unfold rF
    rw[if_pos hv]
    generalize m.aP.getD v.toNat (none,none)=l at hb hg⊢
    obtain⟨lo,hi⟩:=l
    have Hz:DJ true (Sz true (lo,hi)) x=Ii lo x:=adf lo x
    have e1:((lI (lo,hi)).2.1=true∧Ii hi x=false)↔kept true (own true (lo,hi)) x=true:=by
      show _↔kept true hi x=true
      match hi with
      |none=>simp[lI,bI,kept]
      |some (y,u)=>simp[lI,bI,kept,Ii]
    by_cases hk:kept true (own true (lo,hi)) x=true
    · rw[if_pos (e1.2 hk),if_pos hk]
    · rw [if_neg (fun g => hk (e1.1 g)), if_neg hk]
      by_cases hc:Ii lo x=true
      · rw [if_pos hc, if_pos (Hz.trans hc)]
        show some ((),((2,(bI lo).2.2),0,()),mS m)=_
        rw[Xe];rfl
      · rw [if_neg hc, if_neg (fun g => hc (Hz.symm.trans g))]
        refine congrArg some (congrArg (Prod.mk ()) (congrArg (Prod.mk _) ?_))
        unfold mS
        rw[List.map_append,←sF]
        rfl
  · refine gW.of (mS m) v a w _ fun G => ⟨0, st (Gq (mS m) rfl v) ?_⟩
    unfold rF
    rw[hlen,if_neg hv,if_neg hv]
    exact yes rfl rfl
def U6 (m:M):M:=⟨m.level+1,m.changes,m.aP⟩
theorem ajW {m:M}{K:Nat}(h:m.ok K)(hK:K<925904528652):kJ.F (mS m) ()=some ((),(),mS (U6 m)):=by
  refine kJ.of (mS m) _ fun G=>⟨0,st (ac6 (mS m)) (yes rfl ?_)⟩
  have:=h.oh
  have e:IntKind.i64.wrap (m.level+1)=m.level+1:=ng (by omega) (by omega)
  show some (((),(),((IntKind.i64.wrap (m.level+1),m.changes.map cI),(true,m.aP.map lI))),G.b,([]:List Value))=_
  rw[e];rfl
def tq (m:M):M×Int×Int:=if m.aP.length=65536 then(m,0,2)else(⟨m.level,m.changes,m.aP++[(none,none)]⟩,(m.aP.length:Int),0)
theorem agt {m:M}{K:Nat}(h:m.ok K):jC.F (mS m) ()=some ((),((tq m).2.1,(tq m).2.2,()),mS (tq m).1):=by
  have hlen:(mS m).2.2.length=m.aP.length:=List.length_map ..
  rw[ajS (d:=mS m) rfl (by rw[hlen];exact h.nl)]
  unfold ac7 tq
  rw[hlen]
  by_cases h6:m.aP.length=65536
  · rw[if_pos h6,if_pos h6]
  · rw [if_neg h6, if_neg h6]
    show some ((),(((m.aP.length:Int),(0:Int),())),((m.level,m.changes.map cI),(true,m.aP.map lI++[aA])))=some ((),(((m.aP.length:Int),(0:Int),())),((m.level,m.changes.map cI),(true,(m.aP++[(none,none)]).map lI)))
    rw[List.map_append];rfl
theorem MP {b:AB}(hb:Bk b):gI.F (bI b,())=some (bI b,()):=by
  refine gI.of 0 _ ?_
  unfold gI.e
  match b,hb with
  |none,_=>exact yes rfl rfl
  |some (x,w),hb=>exact no rfl (st ((hb x w rfl).Norm_F (by decide)) rfl)
theorem yI {l:AL}(h1:Bk l.1)(h2:Bk l.2):bg.F (lI l,())=some (lI l,()):=
  bg.of 0 _ (st (MP h1) (st (MP h2) rfl))
def aap (m:M)(v:Int):AL×Int:=if 0≤v∧v<m.aP.length then(m.aP.getD v.toNat (none,none),0)else((none,none),61)
theorem agu {m:M}{K:Nat}(h:m.ok K)(v:Int):gX.F (mS m) (v,())=some ((),(lI (aap m v).1,(aap m v).2,()),mS m):=by
  have hlen:(mS m).2.2.length=m.aP.length:=List.length_map ..
  refine gX.of (mS m) v _ fun G=>⟨0,st (Gq (mS m) rfl v) ?_⟩
  unfold aap
  by_cases hv:0≤v∧v<m.aP.length
  · rw [hlen, if_pos hv, if_pos hv]
    refine no rfl (yes (kW hv) ?_)
    have hb:=Gs h hv
    have hg:List.getD (mS m).2.2 v.toNat aA=lI (m.aP.getD v.toNat (none,none)):=getD_map
    dsimp only
    have key:=yI hb.1 hb.2
    rw[←hg]at key⊢
    exact st key rfl
  · rw [hlen, if_neg hv, if_neg hv]
    exact yes rfl rfl
def undo (k:Int):List AC→List AL→List AC×List AL
  |[],l=>([],l)
  |c::r,l=>if c.2.2.1≤k then(c::r,l)else undo k r (l.set c.1.toNat (put c.2.1 (l.getD c.1.toNat (none,none)) c.2.2.2))
def vN (m:M)(k:Int):M×Int:=
  if k<0∨m.level<k then(m,80)else(⟨k,(undo k m.changes.reverse m.aP).1.reverse,(undo k m.changes.reverse m.aP).2⟩,0)
noncomputable def nxt (k:Int):List AC→bZ×Bool×List AC
  |[]=>(dN,false,[])
  |c::r=>if c.2.2.1≤k then(dN,false,c::r)else(cI c,true,r)
theorem adh {k:Int}{c:AC}{r:List AC}(h:c.2.2.1≤k):nxt k (c::r)=(dN,false,c::r):=if_pos h
theorem adi {k:Int}{c:AC}{r:List AC}(h:¬c.2.2.1≤k):nxt k (c::r)=(cI c,true,r):=if_neg h
theorem Aj {k:Int}{c:AC}{r:List AC}{l:List AL}(h:c.2.2.1≤k):undo k (c::r) l=(c::r,l):=if_pos h
theorem Ak {k:Int}{c:AC}{r:List AC}{l:List AL}(h:¬c.2.2.1≤k):undo k (c::r) l=undo k r (l.set c.1.toNat (put c.2.1 (l.getD c.1.toNat (none,none)) c.2.2.2)):=if_neg h
theorem Ij {r:List AC}{c:AC}:List.getD (((c::r).reverse).map cI) r.length dN=cI c:=by
  rw[List.getD_eq_getElem?_getD,List.reverse_cons,List.map_append,List.getElem?_append_right (by simp)]
  simp
theorem PD {r:List AC}{c:AC}:List.take r.length (((c::r).reverse).map cI)=(r.reverse).map cI:=by
  rw[List.reverse_cons,List.map_append,List.take_append_of_le_length (by simp),List.take_of_length_le (by simp)]
theorem adk (oh k:Int)(r:List AC)(hr:r.length<900000000000):gG.F (oh,(r.reverse).map cI) (k,())=some ((),((nxt k r).1,(nxt k r).2.1,()),(oh,((nxt k r).2.2.reverse).map cI)):=by
  refine gG.of (oh,(r.reverse).map cI) k _ fun G=>⟨0,?_⟩
  have hlen:(((r.reverse).map cI).length:Int)=r.length:=by simp
  unfold gG.e
  simp only[hlen]
  match r,hr,hlen with
  |[],hr,hlen=>exact yes rfl rfl
  |c::r,hr,hlen=>
    have hr:r.length+1<900000000000:=hr
    have e:IntKind.i64.wrap (((c::r).length:Int)-1)=(r.length:Int):=by
      rw[show ((c::r).length:Int)-1=(r.length:Int)by simp]
      exact ng (by omega) (by omega)
    rw[e]
    have QC:(decide (0≤(r.length:Int))&&decide ((r.length:Int)<((c::r).length:Int)))=true:=by simp<;>omega
    refine no (decide_eq_false (by omega)) (yes QC ?_)
    simp only[Int.toNat_natCast,Ij,PD]
    by_cases hk:c.2.2.1≤k
    · rw [adh hk]
      exact yes (decide_eq_true hk) rfl
    · rw [adi hk]
      exact no (decide_eq_false hk) (yes QC (yes (by simp<;>omega) rfl))
noncomputable def LB (K:Nat)(g:Nat)(oh:Int)(cs:List bZ)(ls:List dJ)(k:Int)(c:bZ)(ok:Bool):Option ((Unit×(Int×Unit)×cO)×Nat×List Value):=
  dQ.L6 K g oh cs true ls k c.1 c.2.1 c.2.2.1 c.2.2.2.1 c.2.2.2.2.1.1.1.1 c.2.2.2.2.1.1.1.2 c.2.2.2.2.1.1.2 c.2.2.2.2.1.2.1.1 c.2.2.2.2.1.2.1.2 c.2.2.2.2.1.2.2 c.2.2.2.2.2 ok
theorem Yv (K g:Nat)(oh:Int)(cs:List bZ)(ls:List dJ)(k:Int)(c:bZ):LB (K+1) g oh cs ls k c false=some (((),(0,()),((k,cs),(true,ls))),g,[]):=by
  unfold LB
  rw[dQ.mJ]
  unfold dQ.b6
  exact no rfl rfl
theorem agv (K g:Nat)(oh:Int)(cs:List bZ)(ls:List AL)(k:Int)(c:AC)(hc:0≤c.1∧c.1<ls.length){y:bZ}{b:Bool}{cs':List bZ}
    (hl:gG.F (oh,cs) (k,())=some ((),(y,b,()),(oh,cs'))):
    LB (K+1) g oh cs (ls.map lI) k (cI c) true=LB K g oh cs' ((ls.set c.1.toNat (put c.2.1 (ls.getD c.1.toNat (none,none)) c.2.2.2)).map lI) k y b:=by
  unfold LB
  rw[dQ.mJ]
  unfold dQ.b6
  have hlen:((ls.map lI).length:Int)=ls.length:=by simp
  have hg:List.getD (ls.map lI) c.1.toNat aA=lI (ls.getD c.1.toNat (none,none)):=getD_map
  obtain⟨v,up,l,was⟩:=c
  refine yes rfl ?_
  have QC:(decide (0≤v)&&decide (v<((ls.map lI).length:Int)))=true:=by rw[hlen];exact kW hc
  cases up with
  |true=>
    refine yes rfl (yes QC (st hl ?_))
    rw[←sF]
    dsimp only at hg
    show dQ.L6 K g oh cs' true (List.set (ls.map lI) v.toNat ((List.getD (ls.map lI) v.toNat aA).1,bI was)) k _ _ _ _ _ _ _ _ _ _ _ _=_
    rw[hg];rfl
  |false=>
    refine no rfl (yes QC (st hl ?_))
    rw[←sF]
    dsimp only at hg
    show dQ.L6 K g oh cs' true (List.set (ls.map lI) v.toNat (bI was,(List.getD (ls.map lI) v.toNat aA).2)) k _ _ _ _ _ _ _ _ _ _ _ _=_
    rw[hg];rfl
theorem adl (g:Nat)(oh k:Int):∀(r:List AC) (ls:List AL),r.length<900000000000→(∀c∈r,0≤c.1∧c.1<ls.length)→
    ∃j,∀K,LB (K+j) g oh (((nxt k r).2.2.reverse).map cI) (ls.map lI) k (nxt k r).1 (nxt k r).2.1=some (((),(0,()),((k,((undo k r ls).1.reverse).map cI),(true,(undo k r ls).2.map lI))),g,[])
  |[],ls,_,_=>⟨1,fun K=>Yv K g oh _ _ k _⟩
  |c::r,ls,hr,hc=>by
    by_cases hk:c.2.2.1≤k
    · rw [adh hk, Aj hk]
      exact⟨1,fun K=>Yv K g oh _ _ k _⟩
    · rw [adi hk, Ak hk]
      have hr:r.length+1<900000000000:=hr
      obtain⟨j,hj⟩:=adl g oh k r (ls.set c.1.toNat (put c.2.1 (ls.getD c.1.toNat (none,none)) c.2.2.2)) (by omega) fun d hd=>by
        rw[List.length_set];exact hc d (List.mem_cons_of_mem _ hd)
      refine⟨j+1,fun K=> ?_⟩
      rw[←Nat.add_assoc,agv (K+j) g oh _ ls k c (hc c (List.mem_cons_self ..)) (adk oh k r (by omega))]
      exact hj K
theorem ajX {m:M}{K:Nat}(h:m.ok K)(hK:K<900000000000)(k:Int):dQ.F (mS m) (k,())=some ((),((vN m k).2,()),mS (vN m k).1):=by
  have hr:m.changes.reverse.length<900000000000:=by rw[List.length_reverse];have:=h.nc;omega
  have hc:∀c∈m.changes.reverse,0≤c.1∧c.1<m.aP.length:=fun c hc=>(h.Jc c (List.mem_reverse.1 hc)).2
  refine dQ.of (mS m) k _ fun G=> ?_
  obtain⟨j,hj⟩:=adl G.b m.level k m.changes.reverse m.aP hr hc
  refine⟨0+j,st (ac6 (mS m)) (no rfl ?_)⟩
  unfold vN
  by_cases h1:k<0
  · rw[if_pos (.inl h1)];exact yes (decide_eq_true h1) rfl
  refine no (decide_eq_false h1) ?_
  by_cases h2:m.level<k
  · rw[if_pos (.inr h2)];exact yes (decide_eq_true h2) rfl
  refine no (decide_eq_false h2) ?_
  rw[if_neg (by omega)]
  have hl:=adk m.level k m.changes.reverse hr
  rw[List.reverse_reverse]at hl
  exact st hl (hj 0)
theorem Xf (b:AB):bdn id (bI b)=bI b:=by cases b<;>rfl
theorem ajY (l:AL):Xc id (lI l)=lI l:=by unfold Xc lI;rw[Xf,Xf]
theorem ajZ (c:AC):chn id (cI c)=cI c:=by unfold chn cI;rw[Xf]
theorem adn (m:M):stn id (mR m)=mR m:=by
  unfold stn mR
  simp only[List.map_map]
  have e1:(Xc id∘lI)=lI:=funext ajY
  have e2:(chn id∘cI)=cI:=funext ajZ
  rw[e1,e2]
theorem ado {b:AB}(h:Bk b):NB id (bI b):=by
  intro hb
  match b,h with
  |some (x,w),h=>exact(h x w rfl).rNorm_F (by decide)
theorem okL {m:M}{K:Nat}(h:m.ok K):∀l∈(mR m).1,NB id l.1∧NB id l.2:=by
  intro l hl
  obtain⟨a,ha,rfl⟩:=List.mem_map.1 hl
  exact⟨ado (h.uo a ha).1,ado (h.uo a ha).2⟩
theorem okC {m:M}{K:Nat}(h:m.ok K):∀c∈(mR m).2.2,NB id c.2.2.2:=by
  intro c hc
  obtain⟨a,ha,rfl⟩:=List.mem_map.1 hc
  exact ado (h.Jc a ha).1
theorem aaq (m:M):(mR m).1.length=m.aP.length:=List.length_map ..
theorem agw (m:M):(mR m).2.2.length=m.changes.length:=List.length_map ..
theorem Ro {m:M}{K:Nat}(h:m.ok K)(hK:K<900000000000):dh.F (mR m,())=some (mR m,()):=by
  rw[ac8 (okL h) (okC h) (by rw[aaq];exact h.nl) (by rw[agw];have:=h.nc;omega),adn]
theorem adp {m:M}{K:Nat}(h:m.ok K)(hK:K<900000000000):xw.F (mR m,())=some (mR (tq m).1,(tq m).2.1,(tq m).2.2,()):=by
  rw[agr (okL h) (okC h) (by rw[aaq];exact h.nl) (by rw[agw];have:=h.nc;omega)]
  unfold ac9 tq
  rw[aaq,adn]
  by_cases h6:m.aP.length=65536
  · rw[if_pos h6,if_pos h6]
  · rw [if_neg h6, if_neg h6]
    show some (((m.aP.map lI++[aA],(mR m).2)),(m.aP.length:Int),(0:Int),())=some ((((m.aP++[(none,none)]).map lI,(mR m).2)),(m.aP.length:Int),(0:Int),())
    rw[List.map_append];rfl
theorem agx {m:M}{K:Nat}(h:m.ok K)(hK:K<900000000000):zh.F (mR m,())=some (mR (U6 m),()):=by
  refine zh.of 0 (mR m) (st (Ro h hK) ?_)
  have:=h.oh
  have e:IntKind.i64.wrap (m.level+1)=m.level+1:=ng (by omega) (by omega)
  show some ((m.aP.map lI,(IntKind.i64.wrap (m.level+1),m.changes.map cI)),())=_
  rw[e];rfl
theorem am4 (s:b_)(v:Int):Ed.F (s,v,())=some (decide (0≤v∧v<s.1.length),()):=by
  refine Ed.of 0 s v ?_
  unfold Ed.e
  by_cases h:v≥0
  · refine yes (decide_eq_true h) ?_
    show some (decide (v<s.1.length),())=_
    congr 2
    exact decide_eq_decide.2 ⟨fun g=>⟨h,g⟩,fun g=>g.2⟩
  · refine no (decide_eq_false h) ?_
    rw[decide_eq_false (by omega)]
theorem aar (up:Bool){a:cu}{x y:Q2}(ha:Dn a x SZ)(hy:Dn (Ai y) y SZ):iI.F (up,a,Ai y,())=some (tb up x y,()):=by
  refine iI.of 0 up a (Ai y) ?_
  unfold iI.e
  cases up with
  |true=>exact yes rfl (st (ha.rCmp_F hy (by decide)) rfl)
  |false=>exact no rfl (st (ha.rCmp_F hy (by decide)) rfl)
def Xg (up:Bool)(l:dJ):jL:=bif up then l.2 else l.1
def Xh (up:Bool)(l:dJ):jL:=bif up then l.1 else l.2
def am5 (up:Bool)(l:dJ)(b:jL):dJ:=bif up then(l.1,b)else(b,l.2)
theorem Xi (s:b_)(v:Int)(up:Bool)(a:cu)(w:Int)(t1 t2:Bool)(n:cu)(hv:0≤v∧v<s.1.length)(hn:s.2.2.length<925904528652)(hc:dh.F (s,())=some (s,()))
    (h1:(Xg up (List.getD s.1 v.toNat aA)).1=true→iI.F (up,a,(Xg up (List.getD s.1 v.toNat aA)).2.1,())=some (t1,()))
    (h2:(Xh up (List.getD s.1 v.toNat aA)).1=true→iI.F (up,a,(Xh up (List.getD s.1 v.toNat aA)).2.1,())=some (t2,())) (h3:jT.F (a,())=some (n,())):
    mg.F (s,v,up,a,w,())=some (if (Xg up (List.getD s.1 v.toNat aA)).1=true∧t1=false then(s,(0,0),0,())
      else if(Xh up (List.getD s.1 v.toNat aA)).1=true∧t2=true then(s,(2,(Xh up (List.getD s.1 v.toNat aA)).2.2),0,())
      else((List.set s.1 v.toNat (am5 up (List.getD s.1 v.toNat aA) (true,n,w)),(s.2.1,s.2.2++[(v,up,s.2.1,Xg up (List.getD s.1 v.toNat aA))])),(1,0),0,())):=by
  refine mg.of 0 s v up a w ?_
  refine st (am4 s v) (no (by rw[decide_eq_true hv];rfl) (yes (kW hv) (yes (kW hv) ?_)))
  have hlen:decide (List.length s.2.2+1<925904528653)=true:=decide_eq_true (by omega)
  cases up with
  |true=>
    refine yes rfl ?_
    dsimp only[Xg,Xh,cond_true]at h1 h2
    by_cases g1:(List.getD s.1 v.toNat aA).2.1=true
    · refine yes g1 (st (h1 g1) ?_)
      cases t1 with
      |false=>rw[if_pos ⟨g1,rfl⟩];exact yes rfl rfl
      |true=>
        rw[if_neg fun h=>by cases h.2]
        refine no rfl ?_
        by_cases g2:(List.getD s.1 v.toNat aA).1.1=true
        · refine yes g2 (st (h2 g2) ?_)
          cases t2 with
          |true=>rw[if_pos ⟨g2,rfl⟩];exact yes rfl rfl
          |false=>
            rw[if_neg fun h=>by cases h.2]
            exact no rfl (st hc (yes hlen (st h3 (yes rfl (yes (kW hv) rfl)))))
        · refine no (Bool.eq_false_iff.2 g2) ?_
          rw[if_neg fun h=>g2 h.1]
          exact st hc (yes hlen (st h3 (yes rfl (yes (kW hv) rfl))))
    · refine no (Bool.eq_false_iff.2 g1) ?_
      rw[if_neg fun h=>g1 h.1]
      by_cases g2:(List.getD s.1 v.toNat aA).1.1=true
      · refine yes g2 (st (h2 g2) ?_)
        cases t2 with
        |true=>rw[if_pos ⟨g2,rfl⟩];exact yes rfl rfl
        |false=>
          rw[if_neg fun h=>by cases h.2]
          exact no rfl (st hc (yes hlen (st h3 (yes rfl (yes (kW hv) rfl)))))
      · refine no (Bool.eq_false_iff.2 g2) ?_
        rw[if_neg fun h=>g2 h.1]
        exact st hc (yes hlen (st h3 (yes rfl (yes (kW hv) rfl))))
  |false=>
    refine no rfl ?_
    dsimp only[Xg,Xh,cond_false]at h1 h2
    by_cases g1:(List.getD s.1 v.toNat aA).1.1=true
    · refine yes g1 (st (h1 g1) ?_)
      cases t1 with
      |false=>rw[if_pos ⟨g1,rfl⟩];exact yes rfl rfl
      |true=>
        rw[if_neg fun h=>by cases h.2]
        refine no rfl ?_
        by_cases g2:(List.getD s.1 v.toNat aA).2.1=true
        · refine yes g2 (st (h2 g2) ?_)
          cases t2 with
          |true=>rw[if_pos ⟨g2,rfl⟩];exact yes rfl rfl
          |false=>
            rw[if_neg fun h=>by cases h.2]
            exact no rfl (st hc (yes hlen (st h3 (no rfl (yes (kW hv) rfl)))))
        · refine no (Bool.eq_false_iff.2 g2) ?_
          rw[if_neg fun h=>g2 h.1]
          exact st hc (yes hlen (st h3 (no rfl (yes (kW hv) rfl))))
    · refine no (Bool.eq_false_iff.2 g1) ?_
      rw[if_neg fun h=>g1 h.1]
      by_cases g2:(List.getD s.1 v.toNat aA).2.1=true
      · refine yes g2 (st (h2 g2) ?_)
        cases t2 with
        |true=>rw[if_pos ⟨g2,rfl⟩];exact yes rfl rfl
        |false=>
          rw[if_neg fun h=>by cases h.2]
          exact no rfl (st hc (yes hlen (st h3 (no rfl (yes (kW hv) rfl)))))
      · refine no (Bool.eq_false_iff.2 g2) ?_
        rw[if_neg fun h=>g2 h.1]
        exact st hc (yes hlen (st h3 (no rfl (yes (kW hv) rfl))))
theorem aia (up:Bool)(l:AL):Xg up (lI l)=bI (own up l):=by cases up<;>rfl
theorem aib (up:Bool)(l:AL):Xh up (lI l)=bI (Sz up l):=by cases up<;>rfl
theorem am6 (up:Bool)(l:AL)(x:Q2)(w:Int):am5 up (lI l) (true,Ai x,w)=lI (put up l (some (x,w))):=by cases up<;>rfl
def tbB (up:Bool)(b:AB)(x:Q2):Bool:=match b with
  |none=>false
  |some (y,_)=>tb up x y
theorem aic (up:Bool){a:cu}{x:Q2}(ha:Dn a x SZ){b:AB}(hb:Bk b)(h:(bI b).1=true):iI.F (up,a,(bI b).2.1,())=some (tbB up b x,()):=by
  match b,hb with
  |some (y,w),hb=>exact aar up ha (hb y w rfl)
theorem U7 {m:M}{K:Nat}(h:m.ok K)(hK:K<900000000000)(up:Bool)(v:Int){a:cu}{x:Q2}(ha:Dn a x SZ)(w:Int):
    mg.F (mR m,v,up,a,w,())=some (mR (rF up m v x w).1,(rF up m v x w).2.1,(rF up m v x w).2.2,()):=by
  by_cases hv:0≤v∧v<m.aP.length
  · have hb := Gs h hv
    have hg:List.getD (mR m).1 v.toNat aA=lI (m.aP.getD v.toNat (none,none)):=getD_map
    have ho:Bk (own up (m.aP.getD v.toNat (none,none)))∧Bk (Sz up (m.aP.getD v.toNat (none,none))):=by
      cases up
      · exact hb
      · exact⟨hb.2,hb.1⟩
    have key:=Xi (mR m) v up a w _ _ _ (by rw[aaq];exact hv) (by rw[agw];have:=h.nc;omega) (Ro h hK)
      (by rw[hg,aia];exact aic up ha ho.1) (by rw[hg,aib];exact aic up ha ho.2) (ha.rNorm_F (by decide))
    rw[key,hg,aia,aib,am6]
    unfold rF
    rw[if_pos hv]
    generalize m.aP.getD v.toNat (none,none)=l at hb hg ho⊢
    have e1:((bI (own up l)).1=true∧tbB up (own up l) x=false)↔kept up (own up l) x=true:=by
      match own up l with
      |none=>simp[bI,kept,HY]
      |some (y,u)=>simp[bI,kept,tbB]
    have e2:((bI (Sz up l)).1=true∧tbB up (Sz up l) x=true)↔DJ up (Sz up l) x=true:=by
      match Sz up l with
      |none=>simp[bI,DJ,HY]
      |some (y,u)=>simp[bI,DJ,tbB,Rn]
    by_cases hk:kept up (own up l) x=true
    · rw[if_pos (e1.2 hk),if_pos hk]
    · rw [if_neg (fun g => hk (e1.1 g)), if_neg hk]
      by_cases hc:DJ up (Sz up l) x=true
      · rw[if_pos (e2.2 hc),if_pos hc,Xe]
      · rw [if_neg (fun g => hc (e2.1 g)), if_neg hc]
        have e3:(mR m).1=m.aP.map lI:=rfl
        rw[e3,sF]
        show some ((_,(m.level,m.changes.map cI++[cI (v,up,m.level,own up l)])),_)=some ((_,(m.level,(m.changes++[(v,up,m.level,own up l)]).map cI)),_)
        rw[List.map_append];rfl
  · refine mg.of 0 (mR m) v up a w (st (am4 (mR m) v) ?_)
    unfold rF
    rw[if_neg hv]
    exact yes (by rw[decide_eq_false (by rw[aaq];exact hv)];rfl) rfl
theorem aj0 (oh:Int)(ls:List AL)(c:AC)(r:List AC)(hr:r.length<900000000000)(hc:0≤c.1∧c.1<ls.length):
    xu.F () ((ls.map lI,(oh,((c::r).reverse).map cI)),())=some ((),(((ls.set c.1.toNat (put c.2.1 (ls.getD c.1.toNat (none,none)) c.2.2.2)).map lI,(oh,(r.reverse).map cI)),()),()):=by
  refine xu.of () _ _ fun G=>⟨0,?_⟩
  have hlen:((((c::r).reverse).map cI).length:Int)=(c::r).length:=by simp
  have e:IntKind.i64.wrap (((c::r).length:Int)-1)=(r.length:Int):=by
    rw[show ((c::r).length:Int)-1=(r.length:Int)by simp]
    exact ng (by omega) (by omega)
  have QC:(decide (0≤(r.length:Int))&&decide ((r.length:Int)<((c::r).length:Int)))=true:=by simp<;>omega
  unfold xu.e
  simp only[hlen,e,Int.toNat_natCast,Ij,PD]
  refine yes QC (yes (by simp<;>omega) ?_)
  have hll:((ls.map lI).length:Int)=ls.length:=by simp
  have hg:List.getD (ls.map lI) c.1.toNat aA=lI (ls.getD c.1.toNat (none,none)):=getD_map
  have hi:(decide (0≤c.1)&&decide (c.1<((ls.map lI).length:Int)))=true:=by rw[hll];exact kW hc
  obtain⟨v,up,l,was⟩:=c
  cases up with
  |true=>
    refine yes rfl (yes hi ?_)
    rw[←sF]
    show some (((),((List.set (ls.map lI) v.toNat ((List.getD (ls.map lI) v.toNat aA).1,bI was),(oh,(r.reverse).map cI)),()),()),0,([]:List Value))=_
    rw[hg];rfl
  |false=>
    refine no rfl (yes hi ?_)
    rw[←sF]
    show some (((),((List.set (ls.map lI) v.toNat (bI was,(List.getD (ls.map lI) v.toNat aA).2),(oh,(r.reverse).map cI)),()),()),0,([]:List Value))=_
    rw[hg];rfl
theorem adq (k z:Int):∀(r:List AC) (ls:List AL) (oh:Int),r.length<900000000000→(∀c∈r,0≤c.1∧c.1<ls.length)→
    ∃j,∀K,mZ.L4 (K+j) k z (ls.map lI) oh ((r.reverse).map cI)=some (((undo k r ls).2.map lI,(k,((undo k r ls).1.reverse).map cI)),0,())
  |[],ls,oh,_,_=>⟨1,fun K=>by
    rw[mZ.iW]
    unfold mZ.b4
    exact no rfl rfl⟩
  |c::r,ls,oh,hr,hc=>by
    have hr:r.length+1<900000000000:=hr
    have hlen:((((c::r).reverse).map cI).length:Int)=(c::r).length:=by simp
    have e:IntKind.i64.wrap (((c::r).length:Int)-1)=(r.length:Int):=by
      rw[show ((c::r).length:Int)-1=(r.length:Int)by simp]
      exact ng (by omega) (by omega)
    have QC:(decide (0≤(r.length:Int))&&decide ((r.length:Int)<((c::r).length:Int)))=true:=by simp<;>omega
    have step:∀K,mZ.L4 (K+1) k z (ls.map lI) oh (((c::r).reverse).map cI)=if c.2.2.1≤k then some ((ls.map lI,(k,((c::r).reverse).map cI)),0,())else
        mZ.L4 K k z ((ls.set c.1.toNat (put c.2.1 (ls.getD c.1.toNat (none,none)) c.2.2.2)).map lI) oh ((r.reverse).map cI):=by
      intro K
      rw[mZ.iW]
      unfold mZ.b4
      simp only[hlen,e,Int.toNat_natCast,Ij]
      refine yes (decide_eq_true (by simp<;>omega)) (yes QC ?_)
      by_cases hk:c.2.2.1≤k
      · rw [if_pos hk]
        exact no (decide_eq_false (by show ¬c.2.2.1>k;omega)) rfl
      · rw [if_neg hk]
        exact yes (decide_eq_true (by show c.2.2.1>k;omega)) (st (aj0 oh ls c r (by omega) (hc c (List.mem_cons_self ..))) rfl)
    by_cases hk:c.2.2.1≤k
    · rw [Aj hk]
      exact⟨1,fun K=>by rw[step,if_pos hk]⟩
    · rw [Ak hk]
      obtain⟨j,hj⟩:=adq k z r (ls.set c.1.toNat (put c.2.1 (ls.getD c.1.toNat (none,none)) c.2.2.2)) oh (by omega) fun d hd=>by
        rw[List.length_set];exact hc d (List.mem_cons_of_mem _ hd)
      exact⟨j+1,fun K=>by rw[←Nat.add_assoc,step,if_neg hk];exact hj K⟩
theorem agy {m:M}{K:Nat}(h:m.ok K)(hK:K<900000000000)(k:Int):mZ.F (mR m,k,())=some (mR (vN m k).1,(vN m k).2,()):=by
  have hr:m.changes.reverse.length<900000000000:=by rw[List.length_reverse];have:=h.nc;omega
  have hc:∀c∈m.changes.reverse,0≤c.1∧c.1<m.aP.length:=fun c hc=>(h.Jc c (List.mem_reverse.1 hc)).2
  obtain⟨j,hj⟩:=adq k 0 m.changes.reverse m.aP m.level hr hc
  refine mZ.of (0+j) (mR m) k ?_
  unfold mZ.e vN
  by_cases h1:k<0
  · rw[if_pos (.inl h1)];exact yes (decide_eq_true h1) rfl
  refine no (decide_eq_false h1) ?_
  by_cases h2:m.level<k
  · rw[if_pos (.inr h2)];exact yes (decide_eq_true h2) rfl
  refine no (decide_eq_false h2) ?_
  rw[if_neg (by omega)]
  refine st (Ro h hK) ?_
  have:=hj 0
  rw[List.reverse_reverse]at this
  exact this
theorem Rq {up:Bool}{l:AL}{b:AB}(hl:Bk l.1∧Bk l.2)(hb:Bk b):Bk (put up l b).1∧Bk (put up l b).2:=by
  cases up
  · exact⟨hb,hl.2⟩
  · exact⟨hl.1,hb⟩
theorem aj1 {up:Bool}{l:AL}(hl:Bk l.1∧Bk l.2):Bk (own up l):=by cases up;exact hl.1;exact hl.2
theorem Ru {ls:List AL}(h:∀l∈ls,Bk l.1∧Bk l.2)(i:Nat):Bk (ls.getD i (none,none)).1∧Bk (ls.getD i (none,none)).2:=by
  rw[List.getD_eq_getElem?_getD]
  cases hi:ls[i]? with
  |none=>exact⟨.none,.none⟩
  |some l=>exact h l (List.mem_of_getElem? hi)
theorem Rw {ls:List AL}(h:∀l∈ls,Bk l.1∧Bk l.2)(i:Nat){a:AL}(ha:Bk a.1∧Bk a.2):∀l∈ls.set i a,Bk l.1∧Bk l.2:=by
  intro l hl
  rcases List.mem_or_eq_of_mem_set hl with h1|h1
  · exact h l h1
  · rw[h1];exact ha
theorem Yw (k:Int):∀(r:List AC) (ls:List AL),(∀c∈r,Bk c.2.2.2)→(∀l∈ls,Bk l.1∧Bk l.2)→
    (∀c∈(undo k r ls).1,c∈r)∧(undo k r ls).1.length≤r.length∧(undo k r ls).2.length=ls.length∧∀l∈(undo k r ls).2,Bk l.1∧Bk l.2
  |[],ls,_,h=>⟨fun c hc=>hc,Nat.le_refl _,rfl,h⟩
  |c::r,ls,hr,h=>by
    by_cases hk:c.2.2.1≤k
    · rw [Aj hk]
      exact⟨fun c hc=>hc,Nat.le_refl _,rfl,h⟩
    · rw [Ak hk]
      obtain⟨h1,h2,h3,h4⟩:=Yw k r (ls.set c.1.toNat (put c.2.1 (ls.getD c.1.toNat (none,none)) c.2.2.2)) (fun d hd=>hr d (List.mem_cons_of_mem _ hd))
        (Rw h _ (Rq (Ru h _) (hr c (List.mem_cons_self ..))))
      refine⟨fun d hd=>List.mem_cons_of_mem _ (h1 d hd),Nat.le_succ_of_le h2,by rw[h3,List.length_set],h4⟩
theorem M.ok.mono {m:M}{K L:Nat}(h:m.ok K)(hKL:K≤L):m.ok L:=⟨h.uo,h.Jc,h.nl,Nat.le_trans h.nc hKL,by have:=h.oh;omega⟩
theorem Yx {m:M}{K:Nat}(h:m.ok K)(up:Bool)(v:Int){x:Q2}(hx:Dn (Ai x) x SZ)(w:Int):(rF up m v x w).1.ok (K+1):=by
  unfold rF
  by_cases hv:0≤v∧v<m.aP.length
  · rw [if_pos hv]
    dsimp only
    split
    · exact h.mono (Nat.le_succ _)
    · split
      · exact h.mono (Nat.le_succ _)
      · have hb := Gs h hv
        refine⟨Rw h.uo _ (Rq hb (.some hx)),?_,by rw[List.length_set];exact h.nl,?_,?_⟩
        · intro c hc
          rw[List.length_set]
          rcases List.mem_append.1 hc with h1|h1
          · exact h.Jc c h1
          · rw [List.mem_singleton.1 h1]
            exact⟨aj1 hb,hv⟩
        · show (m.changes ++ [_]).length ≤ K + 1
          rw[List.length_append]
          have:=h.nc
          show m.changes.length+1≤K+1
          omega
        · have := h.oh
          show 0≤m.level∧m.level≤((K+1:Nat):Int)
          omega
  · rw[if_neg hv];exact h.mono (Nat.le_succ _)
theorem agz {m:M}{K:Nat}(h:m.ok K):(U6 m).ok (K+1):=
  ⟨h.uo,h.Jc,h.nl,Nat.le_succ_of_le h.nc,by have:=h.oh;show 0≤m.level+1∧m.level+1≤((K+1:Nat):Int);omega⟩
theorem agA {m:M}{K:Nat}(h:m.ok K):(tq m).1.ok K:=by
  unfold tq
  by_cases h6:m.aP.length=65536
  · rw[if_pos h6];exact h
  · rw [if_neg h6]
    have:=h.nl
    refine⟨?_,?_,?_,h.nc,h.oh⟩
    · intro l hl
      rcases List.mem_append.1 hl with h1|h1
      · exact h.uo l h1
      · rw[List.mem_singleton.1 h1];exact⟨.none,.none⟩
    · intro c hc
      have:=h.Jc c hc
      refine⟨this.1,this.2.1,?_⟩
      show c.1<((m.aP++[(none,none)]).length:Int)
      rw[List.length_append]
      have:=this.2.2
      show c.1<((m.aP.length+1:Nat):Int)
      omega
    · show (m.aP ++ [(none, none)]).length ≤ 65536
      rw[List.length_append]
      show m.aP.length+1≤65536
      omega
theorem agB {m:M}{K:Nat}(h:m.ok K)(k:Int):(vN m k).1.ok K:=by
  unfold vN
  by_cases hk:k<0∨m.level<k
  · rw[if_pos hk];exact h
  · rw [if_neg hk]
    obtain⟨h1,h2,h3,h4⟩:=Yw k m.changes.reverse m.aP (fun c hc=>(h.Jc c (List.mem_reverse.1 hc)).1) h.uo
    refine⟨h4,?_,by show(undo k _ _).2.length≤_;rw[h3];exact h.nl,?_,?_⟩
    · intro c hc
      show _∧_∧_<(((undo k m.changes.reverse m.aP).2.length:Nat):Int)
      rw[h3]
      exact h.Jc c (List.mem_reverse.1 (h1 c (List.mem_reverse.1 hc)))
    · show (undo k _ _).1.reverse.length ≤ K
      rw[List.length_reverse]
      rw[List.length_reverse]at h2
      have:=h.nc;omega
    · have := h.oh
      show 0≤k∧k≤K
      omega
def Yy:List AC→Int→Prop
  |[],_=>True
  |c::r,b=>c.2.2.1≤b∧Yy r c.2.2.1
theorem Yy.mono:∀{r:List AC} {a b:Int},Yy r a→a≤b→Yy r b
  |[],_,_,_,_=>trivial
  |_::_,_,_,h,hab=>⟨Int.le_trans h.1 hab,h.2⟩
theorem Yy.undo (k:Int):∀{r:List AC} {ls:List AL} {b:Int},Yy r b→Yy (undo k r ls).1 k
  |[],ls,b,h=>trivial
  |c::r,ls,b,h=>by
    by_cases hk:c.2.2.1≤k
    · rw[Aj hk];exact⟨hk,h.2⟩
    · rw[Ak hk];exact Yy.undo k h.2
def Lv (m:M):Prop:=Yy m.changes.reverse m.level
theorem agC {m:M}(h:Lv m)(up:Bool)(v:Int)(x:Q2)(w:Int):Lv (rF up m v x w).1:=by
  unfold rF
  split
  · dsimp only
    split
    · exact h
    · split
      · exact h
      · show Yy (m.changes ++ [_]).reverse m.level
        rw[List.reverse_append]
        exact⟨Int.le_refl _,h⟩
  · exact h
theorem agD {m:M}(h:Lv m):Lv (U6 m):=Yy.mono h (show m.level≤m.level+1 by omega)
theorem agE {m:M}(h:Lv m):Lv (tq m).1:=by unfold tq;split;exact h;exact h
theorem agF {m:M}(h:Lv m)(k:Int):Lv (vN m k).1:=by
  unfold vN
  split
  · exact h
  · show Yy ((Tryz.undo k m.changes.reverse m.aP).1.reverse).reverse k
    rw[List.reverse_reverse]
    exact Yy.undo k h
def dv (d:cu):Q2:=(rv d.1,rv d.2)
structure OkO (o:kQ):Prop where
  at':Dn o.2.2.1 (dv o.2.2.1) SZ
def zq (m:M)(o:kQ):M:=
  if o.1=0 then(rF false m o.2.1 (dv o.2.2.1) o.2.2.2.1).1
  else if o.1=1 then(rF true m o.2.1 (dv o.2.2.1) o.2.2.2.1).1
  else if o.1=2 then U6 m
  else if o.1=3 then(vN m o.2.2.2.1).1
  else if o.1=4 then(tq m).1
  else m
theorem wo {m:M}{K:Nat}(h:m.ok K){o:kQ}(ho:OkO o):(zq m o).ok (K+1):=by
  unfold zq
  split
  · exact Yx h _ _ ho.at'.norm _
  split
  · exact Yx h _ _ ho.at'.norm _
  split
  · exact agz h
  split
  · exact(agB h _).mono (Nat.le_succ _)
  split
  · exact(agA h).mono (Nat.le_succ _)
  · exact h.mono (Nat.le_succ _)
theorem Gt (x:Int):VH x x=true:=by unfold VH;simp
theorem BU {a b:Int}(h:a≠b):(a==b)=false:=beq_eq_false_iff_ne.2 h
theorem aj3 {m:M}{K:Nat}(h:m.ok K)(hK:K<900000000000){o:kQ}(ho:OkO o):BM.F (mS m) (mR m,o,())=some ((),(mR (zq m o),true,()),mS (zq m o)):=by
  refine BM.of (mS m) (mR m) o _ fun G=>⟨0,?_⟩
  unfold BM.e zq
  by_cases h0:o.1=0
  · rw [if_pos h0]
    refine yes (by rw[h0];rfl) (yes (by rw[h0];rfl) (st (ajV h (by omega) o.2.1 ho.at' o.2.2.2.1) ?_))
    have hA:=U7 h hK false o.2.1 ho.at' o.2.2.2.1
    have e1:(o.1==(1:Int))=false:=BU (by omega)
    rw[←e1]at hA
    refine st hA (yes ?_ ?_)
    · show (VH _ _ && (VH _ _ && true)) = true
      rw[e1,Gt,Gt];rfl
    · rw [e1]
      show some (((),(mR (rF false m o.2.1 (dv o.2.2.1) o.2.2.2.1).1,(_==_),()),mS (rF false m o.2.1 (dv o.2.2.1) o.2.2.2.1).1),G.b,([]:List Value))=_
      rw[beq_self_eq_true]
  rw[if_neg h0]
  refine no (BU h0) ?_
  by_cases h1:o.1=1
  · rw [if_pos h1]
    refine yes (by rw[h1];rfl) (no (BU h0) (st (ags h (by omega) o.2.1 ho.at' o.2.2.2.1) ?_))
    have hA:=U7 h hK true o.2.1 ho.at' o.2.2.2.1
    have e1:(o.1==(1:Int))=true:=by rw[h1];rfl
    rw[←e1]at hA
    refine st hA (yes ?_ ?_)
    · show (VH _ _ && (VH _ _ && true)) = true
      rw[e1,Gt,Gt];rfl
    · rw [e1]
      show some (((),(mR (rF true m o.2.1 (dv o.2.2.1) o.2.2.2.1).1,(_==_),()),mS (rF true m o.2.1 (dv o.2.2.1) o.2.2.2.1).1),G.b,([]:List Value))=_
      rw[beq_self_eq_true]
  rw[if_neg h1]
  refine no (BU h1) ?_
  by_cases h2:o.1=2
  · rw [if_pos h2]
    exact yes (by rw[h2];rfl) (st (ajW h (by omega)) (st (agx h hK) rfl))
  rw[if_neg h2]
  refine no (BU h2) ?_
  by_cases h3:o.1=3
  · rw [if_pos h3]
    refine yes (by rw[h3];rfl) (st (ajX h hK o.2.2.2.1) (st (agy h hK o.2.2.2.1) ?_))
    show some (((),(mR _,(_==_),()),mS _),G.b,([]:List Value))=_
    rw[beq_self_eq_true]
  rw[if_neg h3]
  refine no (BU h3) ?_
  by_cases h4:o.1=4
  · rw [if_pos h4]
    refine yes (by rw[h4];rfl) (st (agt h) (st (adp h hK) (yes (beq_self_eq_true _) ?_)))
    show some (((),(mR _,(_==_),()),mS _),G.b,([]:List Value))=_
    rw[beq_self_eq_true]
  rw[if_neg h4]
  exact no (BU h4) rfl
def Jv (n:Nat):M:=⟨0,[],List.replicate n (none,none)⟩
theorem agG {n:Nat}(h:n≤65536):(Jv n).ok 0 where
  uo l hl:=by rw[List.eq_of_mem_replicate hl];exact⟨.none,.none⟩
  Jc c hc:=by cases hc
  nl:=by show(List.replicate n _).length≤_;rw[List.length_replicate];exact h
  nc:=Nat.le_refl _
  oh:=⟨Int.le_refl _,Int.le_refl _⟩
theorem agH (n:Nat):Lv (Jv n):=trivial
theorem aas (n:Nat):Ri n=mS (Jv n):=by
  unfold Ri mS Jv
  rw[List.map_replicate];rfl
theorem aat (n:Nat):mkState n=mR (Jv n):=by
  unfold mkState mR Jv
  rw[List.map_replicate];rfl
def PE (m:M)(os:List kQ):M:=os.foldl zq m
theorem Yz:∀{os:List kQ} {m:M} {K:Nat},m.ok K→(∀o∈os,OkO o)→(PE m os).ok (K+os.length)
  |[],m,K,h,_=>h
  |o::os,m,K,h,ho=>by
    have:=Yz (os:=os) (wo h (ho o (List.mem_cons_self ..))) fun p hp=>ho p (List.mem_cons_of_mem _ hp)
    rw[show K+(o::os).length=K+1+os.length by rw[List.length_cons];omega]
    exact this
theorem Rx:Rt WW 0 SZ where
  num:=⟨Gf (fun x hx=>by cases hx),rfl,Nat.zero_le _⟩
  den:=⟨Gf (fun x hx=>by cases hx),rfl,Nat.zero_le _⟩
  val:=by show Rat.divInt (wv (false,[])) (sZ.val [])=0;rw[show sZ.val []=0 from rfl,Rat.divInt_zero]
  pos:=by decide
theorem YA:Dn QI (0,0) SZ:=⟨Rx,Rx⟩
theorem am8 {b:AB}(h:Bk b):∃x,Dn (bI b).2.1 x SZ:=by
  match b,h with
  |none,_=>exact⟨(0,0),YA⟩
  |some (x,w),h=>exact⟨x,h x w rfl⟩
theorem BX {a:AB}(ha:Bk a)(c:jL):kC.F (bI a,c,())=some (decide (bI a=c),()):=by
  obtain⟨x,hx⟩:=am8 ha
  refine kC.of 0 _ _ ?_
  unfold kC.e
  by_cases h1:(bI a).1=c.1
  · refine yes (by rw [h1]; exact beq_self_eq_true _) ?_
    by_cases h2:(bI a).2.2=c.2.2
    · refine yes (by rw [h2]; exact beq_self_eq_true _) (st (Jb hx c.2.1 (by decide)) ?_)
      by_cases h3:(bI a).2.1=c.2.1
      · rw[decide_eq_true h3,decide_eq_true (Prod.ext h1 (Prod.ext h3 h2))]
      · rw[decide_eq_false h3,decide_eq_false fun h=>h3 (congrArg (fun z=>z.2.1) h)]
    · refine no (BU h2) ?_
      rw[decide_eq_false fun h=>h2 (congrArg (fun z=>z.2.2) h)]
  · refine no (beq_eq_false_iff_ne.2 h1) ?_
    rw[decide_eq_false fun h=>h1 (congrArg Prod.fst h)]
theorem U8 {a:AL}(ha:Bk a.1∧Bk a.2)(c:dJ):qZ.F (lI a,c,())=some (decide (bI a.1=c.1)&&decide (bI a.2=c.2),()):=by
  refine qZ.of 0 _ _ (st (BX ha.1 c.1) ?_)
  by_cases h1:bI a.1=c.1
  · refine yes (decide_eq_true h1) (st (BX ha.2 c.2) ?_)
    rw[decide_eq_true h1,Bool.true_and]
  · refine no (decide_eq_false h1) ?_
    rw[decide_eq_false h1,Bool.false_and]
theorem Ry {α:Type}{f:α→Nat}:∀{l:List α} {x:α},x∈l→f x≤(l.map f).sum
  |y::l,x,h=>by
    simp only[List.map_cons,List.sum_cons]
    rcases List.mem_cons.1 h with rfl|h
    · omega
    · have:=Ry (f:=f) h;omega
theorem Ku {α:Type}{f:α→Nat}(hf:∀x,1≤f x):∀l:List α,l.length≤(l.map f).sum
  |[]=>Nat.le_refl _
  |x::l=>by
    have:=Ku hf l
    have:=hf x
    simp only[List.map_cons,List.sum_cons,List.length_cons]
    omega
theorem YB {a:aj}(w:K.wf dI a)(b:K.bulk dI a≤1048576):Nm a (sZ.val a) SZ:=by
  refine⟨Gf fun x hx=>w x hx,rfl,?_⟩
  have h:((a:List Int).map (K.bulk (.int .u32))).sum+1≤1048576:=b
  have h2:List.length (α:=Int) a≤((a:List Int).map (K.bulk (.int .u32))).sum:=Ku (f:=K.bulk (.int .u32)) (fun x=>Nat.le_refl 1) a
  show List.length (α:=Int) a≤35184372087808
  omega
theorem ads {r:fP}(w:K.wf pq r)(b:K.bulk pq r≤1048576):Rt r (rv r) SZ:=by
  have hb:(1+K.bulk dI r.1.2)+K.bulk dI r.2≤1048576:=b
  have:=YB w.1.2 (by omega)
  exact⟨⟨this.iL,rfl,this.len⟩,YB w.2 (by omega),rfl,by decide⟩
theorem aj6 {d:cu}(w:K.wf nX d)(b:K.bulk nX d≤1048576):Dn d (dv d) SZ:=by
  have hb:K.bulk pq d.1+K.bulk pq d.2≤1048576:=b
  exact⟨ads w.1 (by omega),ads w.2 (by omega)⟩
theorem aj7 {o:kQ}(w:K.wf zW o)(b:K.bulk zW o≤1048576):OkO o:=by
  have hb:1+(1+(K.bulk nX o.2.2.1+(1+K.bulk ajt o.2.2.2.2)))≤1048576:=b
  exact⟨aj6 w.2.2.1 (by omega)⟩
theorem agI {l:zX}(w:K.wf Z4 l)(b:K.bulk Z4 l≤1048576):(∀o∈l,OkO o)∧l.length≤1048576:=by
  have hb:((l:List kQ).map (K.bulk zW)).sum+1≤1048576:=b
  refine⟨fun o ho=>aj7 (w o ho) ?_,?_⟩
  · have:=Ry (f:=K.bulk zW) ho;omega
  · have h2 : List.length (α := kQ) l ≤ ((l : List kQ).map (K.bulk zW)).sum := Ku (f := K.bulk zW) (fun x => by show 1 ≤ 1 + _; omega) l
    omega
end Go.Fx.Tryz
