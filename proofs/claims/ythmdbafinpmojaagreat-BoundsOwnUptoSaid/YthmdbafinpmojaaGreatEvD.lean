import Derived.Test.YthmdbafinpmojaaGreatEvC
import Derived.KernelRfl
import Derived.WalkKit
import Derived.ProofKit
import Derived.OpenShut
import Derived.ShutString
import Derived.ChangeOld
import Derived.ChangeSlices
import Derived.Below
import Derived.SizedLaws
import Derived.ChangeSame
import Derived.WideShapes
set_option linter.unusedVariables false
set_option linter.unusedSimpArgs false
namespace Go.Fx
open Go Go.RowKit
section
variable {R:Type} {P:Program} {T:dH} {C:ak} {w w':World} {may:Nat→Prop} {ow aO:Ow} {r:R} {s:S} {a:Act}
def GN (L:Array Bool)(i:Nat):Prop:=L.getD i false=true
def OT (B:Nat)(ops:List Oper)(L:Array Bool):Nat→Bool:=fun i=>Nat.ble B i&&(((ops[i-B]?).map lW).getD false&& !(L.getD (i-B) false))
theorem uH {B:Nat}{ops:List Oper}{L:Array Bool}{i:Nat}:OT B ops L i=true↔∃(j:Nat) (o:Oper),i=B+j∧ops[j]? =some o∧lW o=true∧¬GN L j:=by
 unfold OT GN
 constructor
 ·intro h
  simp only[Bool.and_eq_true,Nat.ble_eq,Bool.not_eq_true']at h
  obtain⟨h1,h2,h3⟩:=h
  cases ho:ops[i-B]? with
  |none=>rw[ho]at h2;cases h2
  |some o=>
   rw[ho]at h2
   exact⟨i-B,o,by omega,ho,h2,by rw[h3];decide⟩
 ·rintro ⟨j,o,rfl,ho,hn,hl⟩
  have:B+j-B=j:=by omega
  simp only[this,ho,Option.map_some,Option.getD_some,hn,Bool.true_and,Bool.and_eq_true,Nat.ble_eq,Bool.not_eq_true']
  exact⟨by omega,by simpa using hl⟩
def kV (B:Nat)(ops:List Oper)(es:List D7)(sf:S)(L:Array Bool)(k:Nat):Mem:=(qG es sf k).m.jK (OT B ops L)
structure afG (P:Program) (N B:Nat) (may:Nat→Prop) (w0:World) (BH:Ow) (m0:Mem) (a0:Act) (C:ak) (ops:List Oper) (es:List D7) (sf:S) (L:Array Bool) (k:Nat) (a:Act) (w:World) (ow:Ow):Prop where
 size:L.size=ops.length
 closed:Qy ops (GN L)
 kn:k≤ops.length
 kw:∀(i:Nat) (o:Oper) (e:D7),ops[i]? =some o→es[i]? =some e→(j_ C B i e.s o e.wt e.m).w=true→(GN L i↔i<k)
 mem:aC w may ow (kV B ops es sf L k)
 aW:dZ may w0 BH m0 w ow (kV B ops es sf L k)
 abW:a.tmps.size=N
 defers:a.defers=a0.defers
 TM:∀(j:Nat),j≤ops.length→(j<ops.length→¬GN L j)→∀t,(∀o,ops[j]? =some o→t∈looks ops o)→(∀(i:Nat) (o:Oper),i<j→ops[i]? =some o→o.dst=some t→GN L i)→
  (∀(i:Nat) (o:Oper),j<i→ops[i]? =some o→o.dst=some t→¬GN L i)→aS w (ay ow (kV B ops es sf L k)) may ow (kV B ops es sf L k) ((qG es sf j).get t) (a.tmps.getD t undef)
theorem oC {L:Array Bool}{i j:Nat}(hi:i<L.size):GN (L.setIfInBounds i true) j↔j=i∨GN L j:=by
 unfold GN
 by_cases h:i=j
 ·subst h;simp[Array.getElem?_setIfInBounds,hi]
 ·simp only[Array.getD_eq_getD_getElem?,Array.getElem?_setIfInBounds_ne h]
  constructor
  ·exact .inr
  ·rintro (rfl|h2)
   ·exact absurd rfl h
   ·exact h2
theorem BL {L:Array Bool}{i:Nat}(h:L.getD i true=false):¬GN L i∧i<L.size:=by
 unfold GN
 rcases Nat.lt_or_ge i L.size with h1|h1
 ·simp [h1]at h⊢;exact h
 ·simp [Array.getElem?_eq_none h1]at h
theorem WJ (l:List Nat)(f:Nat→SV)(t:Nat):lookup (l.map fun t=>(t,f t)) t=if t∈l then f t else .undef:=by
 induction l with
 |nil=>rfl
 |cons x l ih=>
  simp only[List.map_cons,lookup_cons,ih]
  by_cases h:x=t
  ·subst h;simp
  ·have:t≠x:=fun e=>h e.symm
   simp[h,this]
structure yB (P:Program) (C:ak) (T:dH) (N B:Nat) (s0:S) (ops:List Oper) (es:List D7) (sf:S):Prop where
 chain:Dy C T N B ops 0 s0 ops es sf
 jm:XV ops (ops.zip (yA C B 0 ops es)) (SI ops [])
 ready:∀(j:Nat) (o:Oper),ops[j]? =some o→lW o=true→s0.m.box? (B+j)=DU T o
 room:B+ops.length≤s0.m.boxes.length
section
variable {N B:Nat} {w0:World} {BH:Ow} {m0:Mem} {s0:S} {a0:Act} {ops:List Oper} {es:List D7} {sf:S} {L:Array Bool} {k:Nat}
theorem yB.Vq (D:yB P C T N B s0 ops es sf){j:Nat}{o:Oper}(h:ops[j]? =some o):∃e,es[j]? =some e:=by
 have dX:=(List.getElem?_eq_some_iff.1 h).1
 exact⟨_,List.getElem?_eq_getElem (by rw[D.chain.len];exact dX)⟩
theorem yB.log (D:yB P C T N B s0 ops es sf){j:Nat}{o:Oper}{e:D7}(h:ops[j]? =some o)(k:es[j]? =some e):(ops.zip (yA C B 0 ops es))[j]? =some (o,j_ C B j e.s o e.wt e.m):=by
 have:=Lu (C:=C) (B:=B) (n:=0) h k
 rwa[Nat.zero_add]at this
theorem yB.step (D:yB P C T N B s0 ops es sf){j:Nat}{o:Oper}{e:D7}(h:ops[j]? =some o)(k:es[j]? =some e):
  (∃s0,OQ C T N B ops j s0 o e)∧(qG es sf (j+1)).m=e.m∧∀t,Ref ((e.s.put o.dst e.v e.m).get t) ((qG es sf (j+1)).get t):=by
 have:=D.chain.at j o e h k
 rwa[Nat.zero_add]at this
theorem yB.ahK (D:yB P C T N B s0 ops es sf):∀(j:Nat) (o:Oper),ops[j]? =some o→EI j o=true:=by
 intro j o h
 obtain⟨e,he⟩:=D.Vq h
 exact(D.jm.one j _ _ (D.log h he)).2.1
theorem yB.pair (D:yB P C T N B s0 ops es sf)(hc:Qy ops (GN L)){i j:Nat}{x y:Oper}{ex ey:D7}(hij:i<j)(hi:ops[i]? =some x)(hj:ops[j]? =some y)(yO:es[i]? =some ex)(hej:es[j]? =some ey):
  ((∀e∈y.after.toList,Region.binds .any e=true→GN L e.on)→GN L i)∨zD ops x y (j_ C B i ex.s x ex.wt ex.m) (j_ C B j ey.s y ey.wt ey.m)=true:=by
 obtain⟨_,_,bj,hb⟩:=D.jm.one j _ _ (D.log hj hej)
 rcases(D.jm.two i j _ _ _ _ bj hij (D.log hi yO) (D.log hj hej) hb).1 with h|h
 ·exact .inl fun ha=>ai7 hc D.ahK j y bj hj hb ha i h
 ·exact .inr h
theorem yB.fresh (D:yB P C T N B s0 ops es sf){i j:Nat}{x y:Oper}{ex ey:D7}(hij:i<j)(hi:ops[i]? =some x)(hj:ops[j]? =some y)(yO:es[i]? =some ex)(hej:es[j]? =some ey)(hn:lW y=true):
  wO (j_ C B i ex.s x ex.wt ex.m).rd [2*(B+j)+1]=true∧wO (j_ C B i ex.s x ex.wt ex.m).tc [2*(B+j)+1]=true:=by
 obtain⟨_,_,bj,hb⟩:=D.jm.one j _ _ (D.log hj hej)
 have:=(D.jm.two i j _ _ _ _ bj hij (D.log hi yO) (D.log hj hej) hb).2 hn
 simpa[j_,hn]using this
theorem pR {j:Nat}{e:D7}(h:es[j]? =some e):qG es sf j=e.s:=by simp[qG,h]
theorem OU (D:yB P C T N B s0 ops es sf):∀(n i:Nat),i+n≤ops.length→(∀(q:Nat) (o:Oper) (e:D7),i≤q→q<i+n→ops[q]? =some o→es[q]? =some e→(j_ C B q e.s o e.wt e.m).w=false)→(qG es sf (i+n)).m=(qG es sf i).m
 |0,i,_,_=>rfl
 |n+1,i,hn,h=>by
  have dX:i+n<ops.length:=by omega
  have ho:ops[i+n]? =some ops[i+n]:=List.getElem?_eq_getElem dX
  obtain⟨e,he⟩:=D.Vq ho
  obtain⟨⟨sx,hs⟩,h1,_⟩:=D.step ho he
  have h2:=h (i+n) _ _ (by omega) (by omega) ho he
  have ih:=OU D n i (by omega) fun q o e h1 h2=>h q o e h1 (by omega)
  rw[show i+(n+1)=i+n+1 by omega,h1,←ih,pR he]
  cases OV:lW ops[i+n]with
  |true=>exact(hs.new OV).2.2.1
  |false=>
  cases Vx:e.wt with
  |false=>exact(hs.no Vx).2.1
  |true=>
   rw[Vx]at h2
   simp only[j_,OV,Ji,cond_true,cond_false]at h2
   cases hw:isW C e.s ops[i+n]with
   |false=>exact(xY hw (hs.yes OV Vx).1).1
   |true=>rw[hw]at h2;simp at h2
theorem LC (D:yB P C T N B s0 ops es sf){i j:Nat}(hij:i≤j)(hj:j≤ops.length)(h:∀(q:Nat)(o:Oper)(e:D7),i≤q→q<j→ops[q]? =some o→es[q]? =some e→(j_ C B q e.s o e.wt e.m).w=false):(qG es sf j).m=(qG es sf i).m:=by
 have:=OU D (j-i) i (by omega) fun q o e h1 h2=>h q o e h1 (by omega)
 rwa[show i+(j-i)=j by omega]at this
theorem wZ (D:yB P C T N B s0 ops es sf){ids:List Nat}:∀(n i:Nat),i+n≤ops.length→(∀(q:Nat) (o:Oper) (e:D7),i≤q→q<i+n→ops[q]? =some o→es[q]? =some e→lW o=true∨wO ids (j_ C B q e.s o e.wt e.m).tc=true)→
  og ids (qG es sf i).m (qG es sf (i+n)).m∧(qG es sf i).m.boxes.length≤(qG es sf (i+n)).m.boxes.length
 |0,i,_,_=>⟨⟨fun _ _=>rfl,fun _ _=>rfl⟩,Nat.le_refl _⟩
 |n+1,i,hn,h=>by
  have dX:i+n<ops.length:=by omega
  have ho:ops[i+n]? =some ops[i+n]:=List.getElem?_eq_getElem dX
  obtain⟨e,he⟩:=D.Vq ho
  obtain⟨⟨sx,hs⟩,h1,_⟩:=D.step ho he
  have h2:=h (i+n) _ _ (by omega) (by omega) ho he
  have ih:=wZ D (ids:=ids) n i (by omega) fun q o e h1 h2=>h q o e h1 (by omega)
  rw[show i+(n+1)=i+n+1 by omega,h1]
  have hm:e.s.m=(qG es sf (i+n)).m:=by rw[pR he]
  suffices H:og ids e.s.m e.m∧e.s.m.boxes.length≤e.m.boxes.length by
   rw[hm]at H
   exact⟨⟨fun q hq=>(H.1.1 q hq).trans (ih.1.1 q hq),fun q hq=>(H.1.2 q hq).trans (ih.1.2 q hq)⟩,Nat.le_trans ih.2 H.2⟩
  have same:e.m=e.s.m→og ids e.s.m e.m∧e.s.m.boxes.length≤e.m.boxes.length:=fun h=>by rw[h];exact⟨⟨fun _ _=>rfl,fun _ _=>rfl⟩,Nat.le_refl _⟩
  cases OV:lW ops[i+n]with
  |true=>exact same (hs.new OV).2.2.1
  |false=>
  have h2:=h2.resolve_left (by rw[OV];decide)
  have nin:∀x∈ids,x∉(j_ C B (i+n) e.s ops[i+n] e.wt e.m).tc:=by
   intro x hx hx2
   have:=List.all_eq_true.1 h2 x hx
   simp only[Bool.not_eq_true',List.any_eq_false]at this
   exact this x hx2 (Nat.beq_refl x)
  cases Vx:e.wt with
  |false=>exact same (hs.no Vx).2.1
  |true=>
   have hev:=(hs.yes OV Vx).1
   cases hw:isW C e.s ops[i+n]with
   |false=>exact same (xY hw hev).1
   |true=>
    have hl:=Qx hev
    have htc:(j_ C B (i+n) e.s ops[i+n] e.wt e.m).tc=uO e.s ops[i+n]++VI e.s.m e.m:=by simp[j_,OV,Ji,Vx,hw]
    rw[htc]at nin
    refine⟨⟨fun q hq=> ?_,fun q hq=> ?_⟩,hl.lb⟩
    ·have hn:=nin _ hq
     simp only[List.mem_append,not_or]at hn
     rcases Nat.lt_or_ge q e.s.m.rows.length with h3|h3
     ·exact hl.rows q h3 hn.1
     ·rcases Nat.lt_or_ge q e.m.rows.length with h4|h4
      ·exfalso
       refine hn.2 (List.mem_append_left _ (List.mem_map.2 ⟨q-e.s.m.rows.length,List.mem_range.2 (by omega),by omega⟩))
      ·simp [Mem.row?,List.getElem?_eq_none h3,List.getElem?_eq_none h4]
    ·have hn:=nin _ hq
     simp only[List.mem_append,not_or]at hn
     rcases Nat.lt_or_ge q e.s.m.boxes.length with h3|h3
     ·exact hl.boxes q h3 hn.1
     ·rcases Nat.lt_or_ge q e.m.boxes.length with h4|h4
      ·exfalso
       refine hn.2 (List.mem_append_right _ (List.mem_map.2 ⟨q-e.s.m.boxes.length,List.mem_range.2 (by omega),by omega⟩))
      ·simp [Mem.box?,List.getElem?_eq_none h3,List.getElem?_eq_none h4]
theorem ZN {x y:List Nat}(h:wO x y=true):wO y x=true:=by
 refine List.all_eq_true.2 fun a ha=> ?_
 simp only[Bool.not_eq_true',List.any_eq_false]
 intro b hb e
 have e:=Nat.eq_of_beq_eq_true e
 subst e
 have:=List.all_eq_true.1 h a hb
 simp only[Bool.not_eq_true',List.any_eq_false]at this
 exact this a ha (Nat.beq_refl a)
theorem FD {x y:List Nat}(h:wO x y=true){a:Nat}(ha:a∈x)(hb:a∈y):False:=by
 have:=List.all_eq_true.1 h a ha
 simp only[Bool.not_eq_true',List.any_eq_false]at this
 exact this a hb (Nat.beq_refl a)
theorem XW (D:yB P C T N B s0 ops es sf){i:Nat}(hi:i≤ops.length):B+ops.length≤(qG es sf i).m.boxes.length:=by
 have h:=(wZ D (ids:=[]) i 0 (by omega) fun q o e _ _ _ _=> .inr rfl).2
 have h0:=D.chain.first.1
 rw[Nat.zero_add,h0]at h
 exact Nat.le_trans D.room h
theorem og.symm {ids:List Nat}{m m':Mem}(h:og ids m m'):og ids m' m:=⟨fun i hi=>(h.1 i hi).symm,fun i hi=>(h.2 i hi).symm⟩
theorem jI {all:List Oper}{x y:Oper}{p q:yj}(h:zD all x y p q=true):¬(p.w=true∧q.w=true)∧wO p.rd q.tc=true∧wO q.rd p.tc=true∧(∀t,x.dst=some t→t∉looks all y)∧(∀t,y.dst=some t→t∉looks all x)∧(∀t,x.dst=some t→y.dst≠some t)∧wO p.tc q.tc=true:=by
 simp only[zD,Bool.and_eq_true,Bool.not_eq_true',Bool.and_eq_false_iff]at h
 obtain⟨⟨h1,h0,_⟩,h2,h3,h4,h5,h6⟩:=h
 refine⟨fun ⟨a,b⟩=>by rcases h1 with h1|h1<;>simp_all,h2,h3,fun t ht hm=> ?_,fun t ht hm=> ?_,fun t ht ht2=> ?_,h0⟩
 ·rw [ht]at h4;simp only[XC]at h4;rw[Uh hm]at h4;cases h4
 ·rw [ht]at h5;simp only[XC]at h5;rw[Uh hm]at h5;cases h5
 ·rw [ht,ht2]at h6;simp[aht]at h6
theorem LD {o:Oper}{g d:Nat}{want:Bool}(h1:o.guard=some (g,want))(h2:(ops[g]?).bind (·.dst)=some d):d∈looks ops o:=by
 simp[looks,h1,h2]
theorem abX {o:Oper}{t:Nat}(h:Operand.tmp t∈o.op.operands):t∈looks ops o:=by
 unfold looks
 refine List.mem_append_right _ (List.mem_filterMap.2 ⟨.tmp t,by simpa using h,rfl⟩)
theorem WL (D:yB P C T N B s0 ops es sf)(hc:Qy ops (GN L))(kn:k≤ops.length)(kw:∀(i:Nat)(o:Oper)(e:D7),ops[i]? =some o→es[i]? =some e→(j_ C B i e.s o e.wt e.m).w=true→(GN L i↔i<k))
  {j:Nat} {o:Oper} (ho:ops[j]? =some o) (hn:lW o=true) (hl:¬GN L j):(qG es sf k).m.box? (B+j)=DU T o:=by
 obtain⟨e,he⟩:=D.Vq ho
 have hd:∀(q:Nat) (x:Oper) (ex:D7),q<k→ops[q]? =some x→es[q]? =some ex→lW x=true∨wO [2*(B+j)+1] (j_ C B q ex.s x ex.wt ex.m).tc=true:=by
  intro q x ex hq hx hex
  cases Qz:lW x with
  |true=>exact .inl rfl
  |false=>
  refine .inr ?_
  rcases Nat.lt_trichotomy q j with h|h|h
  ·exact ZN (D.fresh h hx ho hex he hn).2
  ·subst h;rw[ho]at hx;obtain rfl:=Option.some.inj hx;rw[hn]at Qz;cases Qz
  ·cases WM:(j_ C B q ex.s x ex.wt ex.m).w with
   |false=>
    have:(j_ C B q ex.s x ex.wt ex.m).tc=[]:=by
     revert WM
     unfold j_ Ji
     rw[Qz]
     cases ex.wt<;>cases isW C ex.s x<;>simp
    rw[this]
    exact List.all_eq_true.2 fun _ _=>rfl
   |true=>
    have hql:=(kw q x ex hx hex WM).2 hq
    rcases D.pair hc h ho hx he hex with h2|h2
    ·exact absurd (h2 fun e' he' hb=>hc q x hx hql e' he' hb) hl
    ·have:=(jI h2).2.2.2.2.2.2
     simpa[j_,hn]using this
 have:=(wZ D (ids:=[2*(B+j)+1]) k 0 (by omega) fun q x ex _ hq hx hex=>hd q x ex (by omega) hx hex).1.2 (B+j) (by simp)
 rw[Nat.zero_add,D.chain.first.1,D.ready j o ho hn]at this
 exact this
theorem afI {H H':Nat→Bool}{m:Mem}(h:∀i,H' i=H i):m.jK H'=m.jK H:=by
 have:H'=H:=funext h
 rw[this]
theorem ZO {H H':Nat→Bool}{m:Mem}{b:Nat}{bx:pF}(hb:m.box? b=some bx)(h:∀i,H' i=(H i&& !(Nat.beq i b))):m.jK H'=⟨m.rows,(m.jK H).boxes.set b (some bx)⟩:=by
 simp only[Mem.jK,wb]
 congr 1
 refine List.ext_getElem? fun i=> ?_
 simp only[List.getElem?_mapIdx,List.getElem?_set,List.length_mapIdx]
 by_cases hi:b=i
 ·subst hi
  have dX:b<m.boxes.length:=box?_lt hb
  have hv:m.boxes[b]? =some (some bx):=by
   unfold Mem.box? at hb
   cases e:m.boxes[b]? with
   |none=>rw[e]at hb;cases hb
   |some v=>rw[e]at hb;rw[show v=some bx from hb]
  rw[hv]
  simp[h,dX]
 ·have:Nat.beq i b=false:=by
   cases e:Nat.beq i b with
   |false=>rfl
   |true=>exact absurd (Nat.eq_of_beq_eq_true e).symm hi
  simp[h,hi,this]
theorem WO {H:Nat→Bool}{ids:List Nat}{m m':Mem}(h:og ids m m')(hH:∀i,H i=true→2*i+1∉ids):og ids m (m'.jK H):=
 ⟨fun i hi=>h.1 i hi,fun i hi=>by
  rw[BK]
  cases e:H i with
  |true=>exact absurd hi (hH i e)
  |false=>exact h.2 i hi⟩
theorem afJ {opsL:List Oper}{j:Nat}{o:Oper}(ho:opsL[j]? =some o)(hj:j<L.size)(hn:lW o=false)(i:Nat):OT B opsL (L.setIfInBounds j true) i=OT B opsL L i:=by
 rw[Bool.eq_iff_iff,uH,uH]
 constructor
 ·rintro ⟨q,x,h1,h2,h3,h4⟩
  exact⟨q,x,h1,h2,h3,fun h=>h4 ((oC hj).2 (.inr h))⟩
 ·rintro ⟨q,x,h1,h2,h3,h4⟩
  refine⟨q,x,h1,h2,h3,fun h=> ?_⟩
  rcases(oC hj).1 h with rfl|h
  ·rw [ho]at h2;obtain rfl:=Option.some.inj h2;rw[hn]at h3;cases h3
  ·exact h4 h
theorem Uk {opsL:List Oper}{j:Nat}{o:Oper}(ho:opsL[j]? =some o)(hj:j<L.size)(i:Nat):OT B opsL (L.setIfInBounds j true) i=(OT B opsL L i&& !(Nat.beq i (B+j))):=by
 rw[Bool.eq_iff_iff,Bool.and_eq_true,uH,uH]
 constructor
 ·rintro ⟨q,x,h1,h2,h3,h4⟩
  refine⟨⟨q,x,h1,h2,h3,fun h=>h4 ((oC hj).2 (.inr h))⟩,?_⟩
  cases e:Nat.beq i (B+j)with
  |false=>rfl
  |true=>
   have:=Nat.eq_of_beq_eq_true e
   obtain rfl:q=j:=by omega
   exact absurd ((oC hj).2 (.inl rfl)) h4
 ·rintro ⟨⟨q,x,h1,h2,h3,h4⟩,h5⟩
  refine⟨q,x,h1,h2,h3,fun h=> ?_⟩
  rcases(oC hj).1 h with rfl|h
  ·rw [h1,Nat.beq_refl]at h5;cases h5
  ·exact h4 h
theorem alR (TK:aZ P T)(CK:ah P C){iw:Array Oper}{Q:Exit→Act→World→Prop}(D:yB P C T N B s0 iw.toList es sf)(hL:Live C may w ow (kV B iw.toList es sf L k))
  (I:afG P N B may w0 BH m0 a0 C iw.toList es sf L k a w ow) {j:Nat} (hj:j∈Region.ready .any iw L) {K:Act→World→Prop} (hK:∀k' a' w' aO,afG P N B may w0 BH m0 a0 C iw.toList es sf (L.setIfInBounds j true) k' a' w' aO→K a' w'):
  wpOp P iw Q j K a w:=by
 obtain⟨hun,o,ho,QA⟩:=mem_ready.1 hj
 have Nq:iw.toList[j]? =some o:=by simpa using ho
 have hjn:=(List.getElem?_eq_some_iff.1 Nq).1
 obtain⟨e,he⟩:=D.Vq Nq
 obtain⟨⟨sx,hs⟩,XY,hnr⟩:=D.step Nq he
 obtain⟨Ti,Vw⟩:=BL hun
 have pre:∀e∈o.after.toList,Region.binds .any e=true→GN L e.on:=fun e he hb=>QA e (by simpa using he) hb
 have bef:∀(i:Nat) (x:Oper) (ex:D7),i<j→iw.toList[i]? =some x→es[i]? =some ex→GN L i∨zD iw.toList x o (j_ C B i ex.s x ex.wt ex.m) (j_ C B j e.s o e.wt e.m)=true:=fun i x ex hi hx hex=>
  (D.pair I.closed hi hx Nq hex he).imp (fun h=>h pre) id
 have aft:∀(i:Nat) (y:Oper) (ey:D7),j<i→iw.toList[i]? =some y→es[i]? =some ey→¬GN L i∨zD iw.toList o y (j_ C B j e.s o e.wt e.m) (j_ C B i ey.s y ey.wt ey.m)=true:=by
  intro i y ey hi hy hey
  rcases D.pair I.closed hi Nq hy he hey with h|h
  ·exact .inl fun hl=>Ti (h (I.closed i y hy hl))
  ·exact .inr h
 have abY:∀t∈looks iw.toList o,aS w (ay ow (kV B iw.toList es sf L k)) may ow (kV B iw.toList es sf L k) (e.s.get t) (a.tmps.getD t undef):=by
  intro t ht
  have:=I.TM j (Nat.le_of_lt hjn) (fun _=>Ti) t (fun o' h'=>by rw[Nq]at h';obtain rfl:=Option.some.inj h';exact ht) (fun i x hi hx hd=> ?_) (fun i y hi hy hd=> ?_)
  ·rwa [pR he]at this
  ·obtain ⟨ex,hex⟩:=D.Vq hx
   rcases bef i x ex hi hx hex with h|h
   ·exact h
   ·exact absurd ht ((jI h).2.2.2.1 t hd)
  ·obtain ⟨ey,hey⟩:=D.Vq hy
   rcases aft i y ey hi hy hey with h|h
   ·exact h
   ·exact absurd ht ((jI h).2.2.2.2.1 t hd)
 have away:lW o=false→∀i,OT B iw.toList L i=true→2*i+1∉(j_ C B j e.s o e.wt e.m).rd∧2*i+1∉(j_ C B j e.s o e.wt e.m).tc:=by
  intro hnj i hi
  obtain⟨q,x,rfl,hx,Qz,hlq⟩:=uH.1 hi
  obtain⟨ex,hex⟩:=D.Vq hx
  rcases Nat.lt_trichotomy q j with h|h|h
  ·rcases bef q x ex h hx hex with h2|h2
   ·exact absurd h2 hlq
   ·have h3:=(jI h2).2.2.1
    have h4:=(jI h2).2.2.2.2.2.2
    have e1:(j_ C B q ex.s x ex.wt ex.m).tc=[2*(B+q)+1]:=by simp[j_,Qz]
    rw[e1]at h3 h4
    exact⟨fun hm=>FD h3 hm (by simp),fun hm=>FD h4 (by simp) hm⟩
  ·subst h;rw[Nq]at hx;obtain rfl:=Option.some.inj hx;rw[hnj]at Qz;cases Qz
  ·have:=D.fresh h Nq hx he hex Qz
   exact⟨fun hm=>FD this.1 hm (by simp),fun hm=>FD this.2 hm (by simp)⟩
 have fin:∀k',k'≤iw.toList.length→((j_ C B j e.s o e.wt e.m).w=true→k'=j+1)→((j_ C B j e.s o e.wt e.m).w=false→k'=k)→∀v w' aO,aC w' may aO (kV B iw.toList es sf (L.setIfInBounds j true) k')→dZ may w ow (kV B iw.toList es sf L k) w' aO (kV B iw.toList es sf (L.setIfInBounds j true) k')→
   aS w' (ay aO (kV B iw.toList es sf (L.setIfInBounds j true) k')) may aO (kV B iw.toList es sf (L.setIfInBounds j true) k') e.v v→K (a.put o.dst v) w':=by
  intro k' AY Qb hk2 v w' aO M' K' hv
  refine hK k' _ w' aO ⟨by simpa using I.size,fun i x hx hl e' he' hb=> ?_,AY,fun i x ex hx hex hw=> ?_,M',I.aW.trans K',by rw[Fb];exact I.abW,by rw[xW];exact I.defers,fun q hq hql t hlk hbf haf=> ?_⟩
  ·rcases (oC Vw).1 hl with rfl|hl
   ·rw [Nq]at hx;obtain rfl:=Option.some.inj hx
    exact(oC Vw).2 (.inr (pre e' he' hb))
   ·exact (oC Vw).2 (.inr (I.closed i x hx hl e' he' hb))
  ·rw [oC Vw]
   cases hwj:(j_ C B j e.s o e.wt e.m).w with
   |true=>
    rw[Qb hwj]
    constructor
    ·rintro (rfl|hl)
     ·omega
     ·rcases Nat.lt_trichotomy i j with h1|h1|h1
      ·omega
      ·omega
      ·rcases aft i x ex h1 hx hex with h2|h2
       ·exact absurd hl h2
       ·exact absurd ⟨hwj,hw⟩ (jI h2).1
    ·intro dX
     rcases Nat.lt_or_eq_of_le (Nat.le_of_lt_succ dX)with h1|h1
     ·rcases bef i x ex h1 hx hex with h2|h2
      ·exact .inr h2
      ·exact absurd ⟨hw,hwj⟩ (jI h2).1
     ·exact .inl h1
   |false=>
    rw[hk2 hwj]
    constructor
    ·rintro (rfl|hl)
     ·rw [Nq]at hx;obtain rfl:=Option.some.inj hx
      rw[he]at hex;obtain rfl:=Option.some.inj hex
      rw[hwj]at hw;cases hw
     ·exact (I.kw i x ex hx hex hw).1 hl
    ·exact fun h=> .inr ((I.kw i x ex hx hex hw).2 h)
  ·-- the slots
   have hd:=hs.dst
   by_cases hdt:o.dst=some t
   ·have hjq:j<q:=by
     rcases Nat.lt_trichotomy q j with h1|h1|h1
     ·exact absurd ((oC Vw).2 (.inl rfl)) (haf j o h1 Nq hdt)
     ·subst h1;exact absurd ((oC Vw).2 (.inl rfl)) (hql hjn)
     ·exact h1
    have hval:(a.put o.dst v).tmps.getD t undef=v:=by
     rw[hdt]at hd⊢
     simp only[Iz,Nat.blt_eq]at hd
     have:=I.abW
     simp[Act.put,Array.getElem?_setIfInBounds,show t<a.tmps.size by omega]
    rw[hval]
    have chain:∀n,j+1+n≤q→Ref e.v ((qG es sf (j+1+n)).get t):=by
     intro n
     induction n with
     |zero=>
      intro _
      have:=hnr t
      rwa[JO,if_pos hdt]at this
     |succ n ih=>
      intro hn
      have ih:=ih (by omega)
      have dX:j+1+n<iw.toList.length:=by omega
      have hoi:iw.toList[j+1+n]? =some iw.toList[j+1+n]:=List.getElem?_eq_getElem dX
      obtain⟨ei,yO⟩:=D.Vq hoi
      obtain⟨_,_,hri⟩:=D.step hoi yO
      have wH:(iw.toList[j+1+n]).dst≠some t:=by
       intro hdi
       have hl:=hbf _ _ (by omega) hoi hdi
       rcases(oC Vw).1 hl with h1|h1
       ·omega
       ·rcases aft _ _ ei (by omega) hoi yO with h2|h2
        ·exact h2 h1
        ·exact (jI h2).2.2.2.2.2.1 t hdt hdi
      have:=hri t
      rw[JO,if_neg wH]at this
      rw[pR yO]at ih
      exact ih.trans this
    have:=chain (q-(j+1)) (by omega)
    rw[show j+1+(q-(j+1))=q by omega]at this
    exact this.rel hv
   ·have hval:(a.put o.dst v).tmps.getD t undef=a.tmps.getD t undef:=by
     cases hdd:o.dst with
     |none=>rfl
     |some d=>
      have wH:d≠t:=fun e=>hdt (by rw[hdd,e])
      simp[Act.put,Array.getElem?_setIfInBounds_ne wH]
    rw[hval]
    refine aS.aW K' (I.TM q hq (fun h hl=>hql h ((oC Vw).2 (.inr hl))) t hlk (fun i x hi hx hdx=> ?_) fun i x hi hx hdx hl=>haf i x hi hx hdx ((oC Vw).2 (.inr hl)))
    rcases(oC Vw).1 (hbf i x hi hx hdx)with rfl|h
    ·rw [Nq]at hx;obtain rfl:=Option.some.inj hx;exact absurd hdx hdt
    ·exact h
 unfold wpOp
 simp only[ho]
 cases OV:lW o with
 |true=>
  obtain⟨Vx,hv,hme,hbs⟩:=hs.new OV
  obtain⟨bx,yN⟩:=Option.isSome_iff_exists.1 hbs
  have abZ:=WL D I.closed I.kn I.kw Nq OV Ti
  rw[yN]at abZ
  have aqB:OT B iw.toList L (B+j)=true:=uH.2 ⟨j,o,rfl,Nq,OV,Ti⟩
  have hlw:(j_ C B j e.s o e.wt e.m).w=false:=by simp[j_,OV]
  obtain⟨dst,op,ty,pos,after,guard⟩:=o
  cases op with
  |alloc t=>
   have hg:guard=none:=by simpa[lW]using OV
   subst hg
   cases hT:T t with
   |none=>simp[DU,hT]at yN
   |some ti=>
    simp only[DU,hT,Option.some.injEq]at yN
    have Ox:(kV B iw.toList es sf L k).box? (B+j)=none:=by rw[kV,BK,aqB];rfl
    have hlen:B+j<(kV B iw.toList es sf L k).boxes.length:=by rw[kV,FB];have:=XW D I.kn;omega
    obtain⟨w',aO,vW,how,M',K'⟩:=abd TK I.mem hL.new hT Ox hlen (I.mem.free _ hlen Ox)
    rw[if_pos (by simp[Region.wanted])]
    have Hu:kV B iw.toList es sf (L.setIfInBounds j true) k=⟨(kV B iw.toList es sf L k).rows,(kV B iw.toList es sf L k).boxes.set (B+j) (some ⟨t,kM ti.k⟩)⟩:=by
     rw[yN]
     exact ZO abZ (Uk Nq Vw)
    refine .inl ?_
    unfold Oper.wp
    have he2:execOp a.eval (⟨dst,.alloc t,ty,pos,after,none⟩:Oper)=(do pure (Next.value (←Instr.alloc t true (.tuple #[]))):Sem Next):=rfl
    rw[he2,vW]
    refine fin k I.kn (fun h=>by rw[hlw]at h;cases h) (fun _=>rfl) _ w' aO (by rw[Hu];exact M') (by rw[Hu];exact K') ?_
    rw[hv]
    refine⟨w.heap.size,?_,by simp[Addr.add]⟩
    rw[how]
    show(ow.bb.set (B+j) (some w.heap.size))[B+j]? =_
    rw[List.getElem?_set_self]
    rw[I.mem.jc];exact hlen
  |_=>simp[lW]at OV
 |false=>
 have hLk:∀q,kV B iw.toList es sf (L.setIfInBounds j true) q=kV B iw.toList es sf L q:=fun q=>afI (afJ Nq Vw OV)
 have alW:∀(g d:Nat),(iw.toList[g]?).bind (·.dst)=some d→d∈looks iw.toList o→isVoid (e.s.get d)=true→yielded iw a.tmps g=none:=by
  intro g d h2 h1 h3
  have h4:=TN (abY d h1) h3
  have h2':(iw[g]?).bind (·.dst)=some d:=by simpa using h2
  cases h:a.tmps[d]? with
  |none=>simp[yielded,h2',h]
  |some v=>
   have:v=undef:=by simpa[h]using h4
   subst this
   simp[yielded,h2',h,undef]
 have ab1:∀(g d:Nat) (want b:Bool),o.guard=some (g,want)→(iw.toList[g]?).bind (·.dst)=some d→e.s.get d=cb b→yielded iw a.tmps g=some b:=by
  intro g d want b h1 h2 h3
  have h4:=abY d (LD h1 h2)
  rw[h3]at h4
  have h5:a.tmps.getD d undef= .bool b:=bool?nK h4 rfl
  have h6:a.tmps[d]? =some (.bool b):=by
   cases h:a.tmps[d]? with
   |none=>simp[h,undef]at h5
   |some v=>simpa[h]using h5
  have h2':(iw[g]?).bind (·.dst)=some d:=by simpa using h2
  simp[yielded,h2',h6]
 have ab2:j_ C B j e.s o e.wt e.m=Ji C e.s o e.wt e.m:=by simp[j_,OV]
 cases Vx:e.wt with
 |false=>
  obtain⟨hv,hme,g,want,d,h1,h2,h3⟩:=hs.no Vx
  have:Region.wanted o (yielded iw a.tmps)=false:=by
   rcases h3 with h3|h3
   ·simp [Region.wanted,h1,ab1 g d want _ h1 h2 h3]
   ·simp [Region.wanted,h1,alW g d h2 (LD h1 h2) h3]
  rw[if_neg (by simp[this])]
  exact fin k I.kn (by rw[ab2];simp[Ji,Vx]) (fun _=>rfl) undef w ow (by rw[hLk];exact I.mem) (by rw[hLk];exact dZ.refl _ _ _ _) (by rw[hv];exact wW)
 |true=>
  obtain⟨hev,hg⟩:=hs.yes OV Vx
  have alX:Region.wanted o (yielded iw a.tmps)=true:=by
   rcases hg with hg|⟨g,want,d,h1,h2,h3⟩
   ·simp [Region.wanted,hg]
   ·simp [Region.wanted,h1,ab1 g d want _ h1 h2 h3]
  rw[if_pos alX]
  obtain⟨k',m1,aqC,AY,Qb,hk2,V6⟩:∃k' m1,evalOp C T ⟨e.s.fr,kV B iw.toList es sf L k⟩ o mk=some (e.v,m1)∧k'≤iw.toList.length∧((j_ C B j e.s o e.wt e.m).w=true→k'=j+1)∧((j_ C B j e.s o e.wt e.m).w=false→k'=k)∧m1=kV B iw.toList es sf L k':=by
   cases hw:isW C e.s o with
   |true=>
    have hlw:(j_ C B j e.s o e.wt e.m).w=true:=by rw[ab2];simp[Ji,Vx,hw]
    have htc:(j_ C B j e.s o e.wt e.m).tc=uO e.s o++VI e.s.m e.m:=by rw[ab2];simp[Ji,Vx,hw]
    have FH:(qG es sf k).m=e.s.m:=by
     rw[←pR (sf:=sf) he]
     rcases Nat.le_total k j with h1|h1
     ·refine (LC D h1 (Nat.le_of_lt hjn) fun q x ex hq1 hq2 hx hex=> ?_).symm
      cases WM:(j_ C B q ex.s x ex.wt ex.m).w with
      |false=>rfl
      |true=>
       exfalso
       rcases bef q x ex hq2 hx hex with h|h
       ·have:=(I.kw q x ex hx hex WM).1 h;omega
       ·exact (jI h).1 ⟨WM,hlw⟩
     ·refine LC D h1 I.kn fun q x ex hq1 hq2 hx hex=> ?_
      cases WM:(j_ C B q ex.s x ex.wt ex.m).w with
      |false=>rfl
      |true=>
       exfalso
       have hl:=(I.kw q x ex hx hex WM).2 hq2
       rcases Nat.lt_or_eq_of_le hq1 with h3|h3
       ·rcases aft q x ex h3 hx hex with h|h
        ·exact h hl
        ·exact (jI h).1 ⟨hlw,WM⟩
       ·subst h3;exact Ti hl
    refine⟨j+1,e.m.jK (OT B iw.toList L),?_,by omega,fun _=>rfl,(fun h=>by rw[hlw]at h;cases h),by rw[kV,XY]⟩
    rw[kV,FH]
    refine WI hev hw fun i hi=>⟨?_,fun Hu=>(away OV i hi).2 (by rw[htc];exact List.mem_append_left _ Hu)⟩
    obtain⟨q,x,rfl,hx,_,_⟩:=uH.1 hi
    have:=XW D (Nat.le_of_lt hjn)
    rw[pR he]at this
    have:=(List.getElem?_eq_some_iff.1 hx).1
    omega
   |false=>
    obtain⟨hme,aqD⟩:=xY hw hev
    have hlw:(j_ C B j e.s o e.wt e.m).w=false:=by rw[ab2];simp[Ji,Vx,hw]
    have lQ:(j_ C B j e.s o e.wt e.m).rd=zC e.s o:=by rw[ab2];simp[Ji,Vx,hw]
    refine⟨k,kV B iw.toList es sf L k,aqD _ (WO ?_ fun i hi=>by rw[←lQ];exact(away OV i hi).1),I.kn,(fun h=>by rw[hlw]at h;cases h),fun _=>rfl,rfl⟩
    rw[←pR (sf:=sf) he]
    have clear:∀(q:Nat) (x:Oper) (ex:D7),iw.toList[q]? =some x→es[q]? =some ex→q≠j→((j_ C B q ex.s x ex.wt ex.m).w=true→(q<j→¬GN L q)∧(j<q→GN L q))→lW x=true∨wO (zC e.s o) (j_ C B q ex.s x ex.wt ex.m).tc=true:=by
     intro q x ex hx hex wH hq
     cases Qz:lW x with
     |true=>exact .inl rfl
     |false=>
     refine .inr ?_
     cases WM:(j_ C B q ex.s x ex.wt ex.m).w with
     |false=>
      have:(j_ C B q ex.s x ex.wt ex.m).tc=[]:=by
       revert WM
       unfold j_ Ji
       rw[Qz]
       cases ex.wt<;>cases isW C ex.s x<;>simp
      rw[this]
      exact List.all_eq_true.2 fun _ _=>rfl
     |true=>
      obtain⟨h1,h2⟩:=hq WM
      rcases Nat.lt_or_gt_of_ne wH with h3|h3
      ·rcases bef q x ex h3 hx hex with h|h
       ·exact absurd h (h1 h3)
       ·rw [←lQ];exact(jI h).2.2.1
      ·rcases aft q x ex h3 hx hex with h|h
       ·exact absurd (h2 h3) h
       ·rw [←lQ];exact(jI h).2.1
    rcases Nat.le_total k j with h1|h1
    ·have:=(wZ D (ids:=zC e.s o) (j-k) k (by omega) fun q x ex hq1 hq2 hx hex=>clear q x ex hx hex (by omega) fun WM=>⟨fun _ hl=>by have:=(I.kw q x ex hx hex WM).1 hl;omega,fun h=>by omega⟩).1
     rw[show k+(j-k)=j by omega]at this
     rw[pR he]at this⊢
     exact this.symm
    ·rcases Nat.eq_or_lt_of_le h1 with h2|h2
     ·subst h2;exact⟨fun _ _=>rfl,fun _ _=>rfl⟩
     ·have h0:(qG es sf (j+1)).m=(qG es sf j).m:=by rw[XY,pR he];exact hme
      have:=(wZ D (ids:=zC e.s o) (k-(j+1)) (j+1) (by have:=I.kn;omega) fun q x ex hq1 hq2 hx hex=>clear q x ex hx hex (by omega) fun WM=>⟨fun h=>by omega,fun _=>(I.kw q x ex hx hex WM).2 (by omega)⟩).1
      rw[show j+1+(k-(j+1))=k by omega,h0]at this
      rw[pR he]at this⊢
      exact this
  subst V6
  let sR:S:=⟨(looks iw.toList o).map fun t=>(t,e.s.get t),kV B iw.toList es sf L k⟩
  have uP:∀t,sR.get t=if t∈looks iw.toList o then e.s.get t else .undef:=fun t=>WJ _ _ _
  have FR:dw w (ay ow sR.m) may ow sR a:=by
   intro t
   rw[uP]
   split
   ·rename_i ht;exact abY t ht
   ·trivial
  have aqE:evalOp C T sR o mk=some (e.v,kV B iw.toList es sf L k'):=by
   rw[←aqC]
   refine WA C T (s:=⟨e.s.fr,kV B iw.toList es sf L k⟩) (s':=sR) rfl (fun x hx=> ?_) mk
   cases x with
   |tmp t=>
    show(sR.get t).plain=_
    rw[uP,if_pos (abX hx)]
    rfl
   |const v=>rfl
   |global g=>rfl
   |func f=>rfl
  obtain⟨sv,m',h1,h2⟩:=OE (s:=sR) TK CK I.mem hL FR aqE
  simp only[mk,Option.some.injEq,Prod.mk.injEq]at h1
  obtain⟨rfl,rfl⟩:=h1
  exact .inl (h2 K Q fun v w' aO M' K' hv=>fin k' AY Qb hk2 v w' aO (by rw[hLk];exact M') (by rw[hLk];exact K') (by rw[hLk];exact hv))
theorem WQ {iw:Array Oper}(D:yB P C T N B s0 iw.toList es sf)(pY:L.size=iw.toList.length)(h:Region.ready .any iw L=[]):∀i,i<iw.toList.length→GN L i:=by
 intro i
 induction i using Nat.strongRecOn with
 |_ i ih=>
  intro hi
  have ho:iw.toList[i]? =some iw.toList[i]:=List.getElem?_eq_getElem hi
  refine Classical.byContradiction fun hn=> ?_
  have Hu:i∈Region.ready .any iw L:=by
   refine mem_ready.2 ⟨?_,iw.toList[i],by simp,fun e he hb=> ?_⟩
   ·unfold GN at hn
    have dX:i<L.size:=by omega
    simp[dX]at hn⊢;exact hn
   ·have dX:e.on<i:=by
     have:=List.all_eq_true.1 (D.ahK i _ ho) e (by simpa using he)
     rw[hb]at this
     simpa using this
    exact ih e.on dX (by omega)
  rw[h]at Hu
  cases Hu
theorem aqF (TK:aZ P T)(CK:ah P C){iw:Array Oper}{Q:Exit→Act→World→Prop}(D:yB P C T N B s0 iw.toList es sf)(hL:Live C may w0 BH m0)
  (hQ:∀a' w' aO,At P N may w0 BH m0 a0 sf a' w' aO→Q .normal a' w'):∀(fuel:Nat) (L:Array Bool) (k:Nat) (a:Act) (w:World) (ow:Ow),L.toList.count false≤fuel→afG P N B may w0 BH m0 a0 C iw.toList es sf L k a w ow→
  wpAny P .any iw Q fuel L a w:=by
 have done:∀(L:Array Bool) (k:Nat) (a:Act) (w:World) (ow:Ow),afG P N B may w0 BH m0 a0 C iw.toList es sf L k a w ow→Region.ready .any iw L=[]→Q .normal a w:=by
  intro L k a w ow I h
  have QA:=WQ D I.size h
  have ahM:qG es sf iw.toList.length=sf:=by simp[qG,←D.chain.len]
  have Hu:(qG es sf iw.toList.length).m=(qG es sf k).m:=LC D I.kn (Nat.le_refl _) fun q x ex h1 h2 hx hex=>by
   cases hw:(j_ C B q ex.s x ex.wt ex.m).w with
   |false=>rfl
   |true=>have:=(I.kw q x ex hx hex hw).1 (QA q h2);omega
  have Vu:∀i,OT B iw.toList L i=false:=fun i=>by
   cases e:OT B iw.toList L i with
   |false=>rfl
   |true=>
    obtain⟨q,x,_,hx,_,hl⟩:=uH.1 e
    exact absurd (QA q (List.getElem?_eq_some_iff.1 hx).1) hl
  have hm2:sf.m=kV B iw.toList es sf L k:=by
   have h1:sf.m=(qG es sf k).m:=by rw[←Hu,ahM]
   rw[kV,←h1]
   have:OT B iw.toList L=fun _=>false:=funext Vu
   rw[this]
   have h3:List.mapIdx (fun _ (b:Option pF)=>b) sf.m.boxes=sf.m.boxes:=List.ext_getElem? fun i=>by simp
   simp[Mem.jK,wb,h3]
  refine hQ a w ow ⟨by rw[hm2];exact I.mem,fun t=> ?_,by rw[hm2];exact I.aW,I.abW,I.defers⟩
  have:=I.TM iw.toList.length (Nat.le_refl _) (fun h=>absurd h (Nat.lt_irrefl _)) t (fun o ho=>by simp at ho) (fun i o hi ho _=>QA i hi) fun i o hi ho _=>by
   have:=(List.getElem?_eq_some_iff.1 ho).1
   omega
  rw[ahM,←hm2]at this
  exact this
 intro fuel
 induction fuel with
 |zero=>
  intro L k a w ow hc I
  have hr:Region.ready .any iw L=[]:=by
   refine List.eq_nil_iff_forall_not_mem.2 fun i hi=> ?_
   obtain⟨hun,_⟩:=mem_ready.1 hi
   obtain⟨Ti,dX⟩:=BL hun
   have:false∈L.toList:=by
    have:L[i]=false:=by simpa[dX]using hun
    rw[←this];simp
   have:=List.count_pos_iff.2 this
   omega
  exact⟨hr,done L k a w ow I hr⟩
 |succ fuel ih=>
  intro L k a w ow hc I
  refine⟨fun hr=>done L k a w ow I hr,fun i hi=> ?_⟩
  refine alR TK CK D (hL.aW I.aW) I hi fun k' a' w' aO I'=>ih _ _ _ _ _ ?_ I'
  obtain⟨hun,_⟩:=mem_ready.1 hi
  obtain⟨Ti,dX⟩:=BL hun
  have hval:L.toList[i]'(by simpa using dX)=false:=by simpa[dX]using hun
  have h1:(L.setIfInBounds i true).toList=L.toList.set i true:=by simp
  rw[h1,List.count_set (h:=by simpa using dX)]
  have h2:0<L.toList.count false:=List.count_pos_iff.2 (by rw[←hval];exact List.getElem_mem _)
  simp only[hval]
  simp only[beq_self_eq_true,if_true]
  have h3:((true==false)=true)=False:=by simp
  simp only[h3,if_false]
  omega
theorem aC.drew {m:Mem}(M:aC w may ow m)(n:Nat):aC {w with drawn:=n} may ow m∧dZ may w ow m {w with drawn:=n} ow m:=by
 have S:iF w (ay ow m) {w with drawn:=n} (ay ow m):=fun b hb h=>⟨h,hb,rfl⟩
 refine⟨⟨M.lX,M.jc,fun i row e=> ?_,fun i bx e=> ?_,M.qp,M.fH,M.free⟩,⟨S,fun _ _ h=>h,fun _ _ h=>h,fun r row' _ h=>⟨row',h,rfl,fun _=>rfl⟩,Nat.le_refl _,Nat.le_refl _,fun _ _ _=>rfl,rfl,rfl,rfl⟩⟩
 ·obtain ⟨v,hv,RR⟩:=M.rows i row e
  exact⟨v,hv,RR.aW S fun _ _ _=>rfl⟩
 ·obtain ⟨g,hg,B⟩:=M.boxes i bx e
  exact⟨g,hg,B.aW S (fun _ _ h=>h) rfl⟩
theorem ab3 {opsL:List Oper}{L0:Array Bool}(hl:∀i,¬GN L0 i)(s:S):(s.pad T opsL).m.jK (OT s.m.boxes.length opsL L0)=⟨s.m.rows,s.m.boxes++List.replicate opsL.length none⟩:=by
 simp only[S.pad,Mem.jK,wb]
 congr 1
 refine List.ext_getElem? fun i=> ?_
 rw[List.getElem?_mapIdx]
 rcases Nat.lt_or_ge i s.m.boxes.length with h|h
 ·rw [List.getElem?_append_left h,List.getElem?_append_left h]
  have:OT s.m.boxes.length opsL L0 i=false:=by
   cases e:OT s.m.boxes.length opsL L0 i with
   |false=>rfl
   |true=>obtain⟨q,x,rfl,_⟩:=uH.1 e;omega
  rw[this]
  cases s.m.boxes[i]? <;>rfl
 ·rw [List.getElem?_append_right h,List.getElem?_append_right h,List.getElem?_replicate]
  simp only[SH,List.getElem?_map]
  cases ho:opsL[i-s.m.boxes.length]? with
  |none=>rw[if_neg (by have:=List.getElem?_eq_none_iff.1 ho;omega)];rfl
  |some o=>
   rw[if_pos (List.getElem?_eq_some_iff.1 ho).1]
   cases hn:lW o with
   |true=>
    have:OT s.m.boxes.length opsL L0 i=true:=uH.2 ⟨i-s.m.boxes.length,o,by omega,ho,hn,hl _⟩
    rw[this];simp
   |false=>cases OT s.m.boxes.length opsL L0 i<;>simp[hn]
theorem IK (TK:aZ P T)(CK:ah P C){ops:Array Oper}{N:Nat}{c:S→Option R}{Q:Exit→Act→World→Prop}(hm:Live C may w ow s.m)(M:aC w may ow s.m)(F:dw w (ay ow s.m) may ow s a)(hN:a.tmps.size=N)
  (h:nS C T N s.m.boxes.length ops.toList ops.toList [] (s.pad T ops.toList) (fun lg s'=>bif DV ops.toList lg then c s' else none)=some r) (hQ:∀s' a' w' aO,c s'=some r→At P N may w ow s.m a s' a' w' aO→Q .normal a' w'):wpAny P .any ops Q ops.size (Array.replicate ops.size false) a {w with drawn:=w.drawn+1}:=by
 obtain⟨es,sf,hch,h⟩:=wY h
 obtain⟨hc,h⟩:=aG h
 have hp:=Ui hc
 rw[List.nil_append]at hp
 have D:yB P C T N s.m.boxes.length (s.pad T ops.toList) ops.toList es sf:=⟨hch,hp,fun j o ho hn=>by
  show(⟨s.m.rows,s.m.boxes++SH T ops.toList⟩:Mem).box? _=_
  rw[box?Jj,if_neg (by omega),show s.m.boxes.length+j-s.m.boxes.length=j by omega]
  simp only[SH,List.getElem?_map,ho,Option.map_some,hn,cond_true,Option.bind_some]
  rfl,by simp[S.pad,SH]⟩
 obtain⟨M0,K0⟩:=M.pad ops.toList.length
 obtain⟨M1,K1⟩:=M0.drew (w.drawn+1)
 have K1:=K0.trans K1
 have hf:=hch.first
 have Vu:∀i,¬GN (Array.replicate ops.size false) i:=fun i hl=>by
  unfold GN at hl
  by_cases hi:i<ops.size<;>simp[hi]at hl
 have Hu:kV s.m.boxes.length ops.toList es sf (Array.replicate ops.size false) 0=⟨s.m.rows,s.m.boxes++List.replicate ops.toList.length none⟩:=by
  rw[kV,hf.1];exact ab3 Vu s
 refine aqF (w0:=w) (BH:=ow) (m0:=s.m) (a0:=a) TK CK D hm (fun a' w' aO hA=>hQ sf a' w' aO h hA) ops.size _ 0 a {w with drawn:=w.drawn+1} ⟨ow.rv,ow.bb++List.replicate ops.toList.length none⟩ ?_ ?_
 ·simp
 ·refine ⟨by simp,fun i o ho hl=>absurd hl (Vu i),Nat.zero_le _,fun i o e ho he hw=>⟨fun hl=>absurd hl (Vu i),fun dX=>by omega⟩,by rw[Hu];exact M1,by rw[Hu];exact K1,hN,rfl,fun j hj hl t hlk hbf haf=> ?_⟩
  have chain:∀n,n≤j→Ref (s.get t) ((qG es sf n).get t):=by
   intro n
   induction n with
   |zero=>exact fun _=>hf.2 t
   |succ n ih=>
    intro hn
    have ih:=ih (by omega)
    have dX:n<ops.toList.length:=by omega
    have hoi:ops.toList[n]? =some ops.toList[n]:=List.getElem?_eq_getElem dX
    obtain⟨ei,yO⟩:=D.Vq hoi
    obtain⟨_,_,hri⟩:=D.step hoi yO
    have wH:(ops.toList[n]).dst≠some t:=fun hdi=>absurd (hbf _ _ (by omega) hoi hdi) (Vu _)
    have:=hri t
    rw[JO,if_neg wH]at this
    rw[pR yO]at ih
    exact ih.trans this
  have h1:=aS.aW K1 (F t)
  rw[Hu]
  exact(chain j (Nat.le_refl _)).rel h1
theorem LG (TK:aZ P T)(CK:ah P C)(kZ:P.follows .mixedOrders=true){id:Nat}{ops:Array Oper}{N:Nat}{c:S→Option R}{Q:Exit→Act→World→Prop}(hm:Live C may w ow s.m)(M:aC w may ow s.m)(F:dw w (ay ow s.m) may ow s a)(hN:a.tmps.size=N)
  (h:nS C T N s.m.boxes.length ops.toList ops.toList [] (s.pad T ops.toList) (fun lg s'=>bif DV ops.toList lg then c s' else none)=some r) (hQ:∀s' a' w' aO,c s'=some r→At P N may w ow s.m a s' a' w' aO→Q .normal a' w'):(Code.region id ops true).wp P Q a w:=
 wp_region_any kZ (IK TK CK hm M F hN h hQ)
end
end
def Fits (lN:Nat→List Item):Code→List Item→Prop
 | .seq a b,r=>Fits lN a (.code b::r)∧Fits lN b r
 | .cond _ a b,r=>Fits lN a r∧Fits lN b r
 | .block id a,r=>Fits lN a (.inBlock id::r)
 | .loop a,r=>lN (tag a)= .code a:: .inLoop a::r∧Fits lN a (.inLoop a::r)
 |_,_=>True
def vM (lN:Nat→List Item):List Item→Prop
 |[]=>True
 | .code c::r=>Fits lN c r∧vM lN r
 | .inLoop a::r=>(lN (tag a)= .code a:: .inLoop a::r∧Fits lN a (.inLoop a::r))∧vM lN r
 |_::r=>vM lN r
theorem vM.tail {lN:Nat→List Item}:∀{x:Item} {r:List Item},vM lN (x::r)→vM lN r:=by
 intro x r h
 cases x<;>first|exact h.2|exact h
theorem vM.exit {lN:Nat→List Item}{id:Nat}:∀{k k':List Item},vM lN k→exitTo id k=some k'→vM lN k'
 |[],k',h,e=>by simp[exitTo]at e
 |x::r,k',h,e=>by
  have ht:=vM.tail h
  have:(exitTo id (x::r)=some r)∨exitTo id (x::r)=exitTo id r:=by
   cases x<;>simp only[exitTo]<;>first|exact .inr trivial|(split<;>simp)|exact .inr rfl
  rcases this with h1|h1
  ·rw [h1]at e;obtain rfl:=Option.some.inj e;exact ht
  ·rw [h1]at e;exact vM.exit ht e
def gQ:Code→List Nat
 | .seq a b=>gQ a++gQ b
 | .cond _ a b=>gQ a++gQ b
 | .block _ a=>gQ a
 | .loop a=>tag a::gQ a
 |_=>[]
theorem FI {x y:List Nat}(h:kU (x++y)=true):kU x=true∧kU y=true∧∀j,j∈x→j∉y:=by
 induction x with
 |nil=>exact⟨rfl,h,fun j hj=>by simp at hj⟩
 |cons a x ih=>
  simp only[List.cons_append,kU,Bool.and_eq_true,Bool.not_eq_true',List.any_eq_false]at h
  obtain⟨h1,h2,h3⟩:=ih h.2
  refine⟨?_,h2,fun j hj hy=> ?_⟩
  ·simp only[kU,Bool.and_eq_true,Bool.not_eq_true',List.any_eq_false]
   exact⟨fun b hb=>h.1 b (List.mem_append_left _ hb),h1⟩
  ·rcases List.mem_cons.1 hj with rfl|hj
   ·exact h.1 j (List.mem_append_right _ hy) (Nat.beq_refl j)
   ·exact h3 j hj hy
theorem Hw {j:Nat}:∀{c:Code} {r:List Item},j∉gQ c→yu j c r=none:=by
 intro c
 induction c with
 |seq a b iha ihb=>intro r h;simp only[gQ,List.mem_append,not_or]at h;simp[yu,iha h.1,ihb h.2]
 |cond q a b iha ihb=>intro r h;simp only[gQ,List.mem_append,not_or]at h;simp[yu,iha h.1,ihb h.2]
 |block id a iha=>intro r h;simp only[gQ]at h;simp[yu,iha h]
 |loop a iha=>
  intro r h
  simp only[gQ,List.mem_cons,not_or]at h
  have:Nat.beq (tag a) j=false:=by cases hb:Nat.beq (tag a) j with|false=>rfl|true=>exact absurd (Nat.eq_of_beq_eq_true hb).symm h.1
  simp[yu,this,iha h.2]
 |_=>intro r h;rfl
theorem QB {lN:Nat→List Item}:∀{c:Code} {r:List Item},kU (gQ c)=true→(∀j x,yu j c r=some x→lN j=x)→Fits lN c r:=by
 intro c
 have mem:∀{j:Nat} {c:Code} {r x:List Item},yu j c r=some x→j∈gQ c:=by
  intro j c r x h
  by_cases hj:j∈gQ c
  ·exact hj
  ·rw [Hw hj]at h;cases h
 induction c with
 |seq a b iha ihb=>
  intro r hd h
  obtain⟨h1,h2,h3⟩:=FI hd
  refine⟨iha h1 fun j x hj=>h j x (by simp[yu,hj]),ihb h2 fun j x hj=>h j x ?_⟩
  have:j∉gQ a:=fun ha=>h3 j ha (mem hj)
  simp[yu,Hw this,hj]
 |cond q a b iha ihb=>
  intro r hd h
  obtain⟨h1,h2,h3⟩:=FI hd
  refine⟨iha h1 fun j x hj=>h j x (by simp[yu,hj]),ihb h2 fun j x hj=>h j x ?_⟩
  have:j∉gQ a:=fun ha=>h3 j ha (mem hj)
  simp[yu,Hw this,hj]
 |block id a iha=>intro r hd h;exact iha hd fun j x hj=>h j x (by simpa[yu]using hj)
 |loop a iha=>
  intro r hd h
  simp only[gQ,kU,Bool.and_eq_true,Bool.not_eq_true',List.any_eq_false]at hd
  refine⟨h _ _ (by simp[yu]),iha hd.2 fun j x hj=>h j x ?_⟩
  have:Nat.beq (tag a) j=false:=by
   cases hb:Nat.beq (tag a) j with
   |false=>rfl
   |true=>exact absurd hb (hd.1 j (mem hj))
  simp[yu,this,hj]
 |_=>intro r hd h;trivial
section
variable {R:Type} {P:Program} {T:dH} {C:ak} {may:Nat→Prop} {r:R}
structure afL (fz:Nat→Prop) (w0 w:World) (ok:Nat→Prop):Prop where
 size:w0.heap.size≤w.heap.size
 frame:∀b,b<w0.heap.size→fz b→ok b∧w.heap[b]? =w0.heap[b]?
 os:w.os=w0.os
 tape:w.tape=w0.tape
 output:w.output=w0.output
theorem afL.aW {fz:Nat→Prop}{w0 w w':World}{ow aO:Ow}{m m':Mem}(h:afL fz w0 w (ay ow m))(K:dZ may w ow m w' aO m'):afL fz w0 w' (ay aO m'):=
 ⟨Nat.le_trans h.size K.size,fun b hb hm=>by
  obtain⟨h1,h2⟩:=h.frame b hb hm
  obtain⟨h3,_,h4⟩:=K.stay b (Nat.lt_of_lt_of_le hb h.size) h1
  exact⟨h3,h4.trans h2⟩,K.os.trans h.os,K.tape.trans h.tape,K.output.trans h.output⟩
structure Inv (fz may:Nat→Prop) (N:Nat) (w0:World) (s:S) (a:Act) (w:World) (ow:Ow):Prop where
 mem:aC w may ow s.m
 fr:dw w (ay ow s.m) may ow s a
 size:a.tmps.size=N
 defers:a.defers=[]
 base:afL fz w0 w (ay ow s.m)
theorem Inv.at {fz:Nat→Prop}{N:Nat}{w0 w w':World}{s s':S}{a a':Act}{ow aO:Ow}(h:Inv fz may N w0 s a w ow)(k:At P N may w ow s.m a s' a' w' aO):Inv fz may N w0 s' a' w' aO:=
 ⟨k.mem,k.fr,k.size,k.defers.trans h.defers,h.base.aW k.aW⟩
structure OW (C:ak) (may fz:Nat→Prop) (w:World):Prop where
 new:∀b,w.heap.size≤b→may b
 EU:∀g tb,C.aJ g=some tb→Laid w g tb∧fz g
theorem Inv.new {fz:Nat→Prop}{N:Nat}{w0 w:World}{s:S}{a:Act}{ow:Ow}(h:Inv fz may N w0 s a w ow)(hm:OW C may fz w0):Live C may w ow s.m:=
 ⟨fun b hb=>hm.new b (Nat.le_trans h.base.size hb),fun g tb e=>by
  obtain⟨h1,h2⟩:=hm.EU g tb e
  refine⟨Nat.lt_of_lt_of_le h1.1 h.base.size,fun j x hx=> ?_⟩
  have:=h1.2 j x hx
  exact(World.cell?_of_block (by rw[Addr.gU];exact(h.base.frame g h1.1 h2).2)).trans this,fun g tb e=>(h.base.frame g (hm.EU g tb e).1.1 (hm.EU g tb e).2).1⟩
def Ends (P:Program)(b:Frame)(cs:List Frame)(Post:Act→World→Prop)(items:List Item)(a:Act)(w:World):Prop:=
 ∃todo a' w',Steps P (lone (b.at a items) cs w) (lone {b.at a' todo with mode:= .returning} cs w')∧Post a' w'
theorem Ends.step {b:Frame}{cs:List Frame}{Post:Act→World→Prop}{i i':List Item}{a a':Act}{w w':World}(h:Steps P (lone (b.at a i) cs w) (lone (b.at a' i') cs w'))(k:Ends P b cs Post i' a' w'):Ends P b cs Post i a w:=by
 obtain⟨todo,a2,w2,h1,h2⟩:=k
 exact⟨todo,a2,w2,h.trans h1,h2⟩
theorem XZ (TK:aZ P T)(CK:ah P C)(kZ:P.follows .mixedOrders=true){b:Frame}{cs:List Frame}{Post:Act→World→Prop}{N:Nat}{w0:World}{fz:Nat→Prop}(hm:OW C may fz w0){sh:Nat→List (Nat×CS)}{fin:S→Option R}{lN:Nat→List Item}
  {A:Nat→S→Option R} (hA:∀j s a w ow,vM lN (lN j)→A j s=some r→Inv fz may N w0 s a w ow→Ends P b cs Post (lN j) a w) (FK:∀s a w ow,fin s=some r→Inv fz may N w0 s a w ow→Post a w):
  ∀(n:Nat) (items:List Item) (s:S) (a:Act) (w:World) (ow:Ow),vM lN items→go ⟨C,T,N,sh,fin⟩ A n items s=some r→Inv fz may N w0 s a w ow→Ends P b cs Post items a w:=by
 have LH:∀(c:Code) (k:List Item) (s:S) (a:Act) (w:World) (ow:Ow),lN (tag c)= .code c:: .inLoop c::k→vM lN (.code c:: .inLoop c::k)→wP ⟨C,T,N,sh,fin⟩ A (tag c) s=some r→Inv fz may N w0 s a w ow→
   Ends P b cs Post (.code c:: .inLoop c::k) a w:=by
  intro c k s a w ow hp hf h I
  unfold wP at h
  split at h
  case h_2=>cases h
  rename_i s' hs
  obtain⟨aO,M',F',hk⟩:=TT I.mem I.fr hs
  rw[←hp]
  exact hA _ s' a w aO (by rw[hp];exact hf) h ⟨M',F',I.size,I.defers,I.base.size,fun b hb hz=>⟨hk b (Nat.lt_of_lt_of_le hb I.base.size) (I.base.frame b hb hz).1,(I.base.frame b hb hz).2⟩,I.base.os,I.base.tape,I.base.output⟩
 intro n
 induction n with
 |zero=>intro items s a w ow _ h;simp[go]at h
 |succ n ih=>
  intro items s a w ow hf h I
  cases items with
  |nil=>
   simp only[go]at h
   exact⟨[],a,w,.one step_end,FK s a w ow h I⟩
  |cons x k=>
   cases x<;>simp only[go]at h<;>try (cases h;done)
   case code c=>
    cases c<;>simp only[]at h<;>try (cases h;done)
    case skip=>exact .step (.one step_skip) (ih _ _ _ _ _ hf.2 h I)
    case seq x y=>exact .step (.one step_seq) (ih _ _ _ _ _ ⟨hf.1.1,hf.1.2,hf.2⟩ h I)
    case region id ops d=>
     cases d with
     |false=>
      simp only[cond_false]at h
      obtain⟨e,a',w',⟨rfl,s',aO,h1,I'⟩,ai_⟩:=OG (P:=P) (id:=id) (c:=fun s'=>go ⟨C,T,N,sh,fin⟩ A n k s') (Q:=fun e a' w'=>e= .normal∧∃s' aO,go ⟨C,T,N,sh,fin⟩ A n k s'=some r∧Inv fz may N w0 s' a' w' aO)
       TK CK (I.new hm) I.mem I.fr I.size h (fun s' a' w' aO h1 h2=>⟨rfl,s',aO,h1,I.at h2⟩) b k cs
      exact .step ai_ (ih _ _ _ _ _ hf.2 h1 I')
     |true=>
      simp only[cond_true]at h
      obtain⟨e,a',w',⟨rfl,s',aO,h1,I'⟩,ai_⟩:=LG (P:=P) (id:=id) (c:=fun s'=>go ⟨C,T,N,sh,fin⟩ A n k s') (Q:=fun e a' w'=>e= .normal∧∃s' aO,go ⟨C,T,N,sh,fin⟩ A n k s'=some r∧Inv fz may N w0 s' a' w' aO)
       TK CK kZ (I.new hm) I.mem I.fr I.size h (fun s' a' w' aO h1 h2=>⟨rfl,s',aO,h1,I.at h2⟩) b k cs
      exact .step ai_ (ih _ _ _ _ _ hf.2 h1 I')
    case cond x y z=>
     cases hb:(s.gJ x).bool? with
     |none=>simp[hb]at h
     |some t=>
      simp only[hb]at h
      have hv:=bool?nK (dG I.fr x) hb
      have I':∀t',t=t'→Inv fz may N w0 (s.refine x t') a w ow:=by
       rintro _ rfl
       exact⟨by rw[nV];exact I.mem,by rw[nV];exact dw.refine (m:=s.m) I.fr hb,I.size,I.defers,by rw[nV];exact I.base⟩
      cases t with
      |true=>exact .step (.one (step_cond hv)) (ih _ _ _ _ _ ⟨hf.1.1,hf.2⟩ h (I' true rfl))
      |false=>exact .step (.one (step_cond hv)) (ih _ _ _ _ _ ⟨hf.1.2,hf.2⟩ h (I' false rfl))
    case block id c=>exact .step (.one step_block) (ih _ _ _ _ _ ⟨hf.1,hf.2⟩ h I)
    case loop c=>exact .step (.one step_loop) (LH c k s a w ow hf.1.1 ⟨hf.1.2,hf.1,hf.2⟩ h I)
    case exit id=>
     cases hk:exitTo id k with
     |none=>simp[hk]at h
     |some k'=>
      simp only[hk]at h
      exact .step (.one (step_exit hk)) (ih _ _ _ _ _ (vM.exit hf.2 hk) h I)
    case ret=>exact⟨_,a,w,.one step_ret,FK s a w ow h I⟩
   case inBlock id=>exact .step (.one step_inBlock) (ih _ _ _ _ _ hf h I)
   case inLoop c=>exact .step (.one step_inLoop) (LH c k s a w ow hf.1.1 ⟨hf.1.2,hf⟩ h I)
theorem FM (TK:aZ P T)(CK:ah P C)(kZ:P.follows .mixedOrders=true){b:Frame}{cs:List Frame}{Post:Act→World→Prop}{N:Nat}{w0:World}{fz:Nat→Prop}(hm:OW C may fz w0){sh:Nat→List (Nat×CS)}{fin:S→Option R}{lN:Nat→List Item}
  (FK:∀s a w ow,fin s=some r→Inv fz may N w0 s a w ow→Post a w):
  ∀(k j:Nat) (s:S) (a:Act) (w:World) (ow:Ow),vM lN (lN j)→gB ⟨C,T,N,sh,fin⟩ lN k j s=some r→Inv fz may N w0 s a w ow→Ends P b cs Post (lN j) a w
 |0,j,s,a,w,ow,hf,h,I=>by simp[gB]at h
 |k+1,j,s,a,w,ow,hf,h,I=>XZ TK CK kZ hm (fun j s a w ow hf h I=>FM TK CK kZ hm FK k j s a w ow hf h I) FK _ _ _ _ _ _ hf h I
end
section
variable {P:Program} {T:dH} {C:ak} {w:World} {may:Nat→Prop} {ow:Ow} {m:Mem} {s:S} {a:Act}
theorem Ul {ok:Nat→Prop}{okA:Nat→Prop}{fr:Bool}{p:Bool×K}{x:p.2.T}{v:Value}(h1:∀b,okA b→o7 ok may fr b)(h:ES w okA p x v):bG w ok may ow (ae_ fr p x) v:=by
 unfold ES at h
 unfold ae_
 cases hp:p.1 with
 |true=>
  rw[hp]at h
  simp only[if_true]at h⊢
  obtain⟨cs,rfl,h⟩:=h
  exact⟨cs,rfl,jE (Rd.mono h1 h)⟩
 |false=>
  rw[hp]at h
  simp only[Bool.false_eq_true,if_false]at h⊢
  have h2:=jE (ow:=ow) (Rd.mono h1 h)
  have hl:=h2.len
  split
  ·rename_i l he
   rw[he]at h2
   exact h2.1
  ·rename_i wH
   match hq:bf fr p.2 x,hl with
   |[l],_=>exact absurd hq (wH l)
theorem CW {ok:Nat→Prop}{okA:Nat→Prop}{fr:Bool}(h1:∀b,okA b→o7 ok may fr b):∀{ps:List (Bool×K)} {i:Nat} {x:eH ps} {vs:List Value} {q:Nat×SV},jy w okA ps x vs→q∈Dv fr ps i x→∃v,vs[q.1-i]? =some v∧i≤q.1∧aS w ok may ow m q.2 v
 |[],i,x,vs,q,h,hq=>by simp[Dv]at hq
 |p::ps,i,x,vs,q,⟨v,vr,e,hv,hr⟩,hq=>by
  subst e
  rcases List.mem_cons.1 hq with rfl|hq
  ·exact ⟨v,by simp,Nat.le_refl _,Ul h1 hv⟩
  ·obtain ⟨u,h2,h3,h4⟩:=CW h1 hr hq
   refine⟨u,?_,by omega,h4⟩
   rw[show q.1-i=(q.1-(i+1))+1 by omega]
   simpa using h2
theorem jy.len {okA:Nat→Prop}:∀{ps:List (Bool×K)} {x:eH ps} {vs:List Value},jy w okA ps x vs→vs.length=ps.length
 |[],x,vs,h=>by obtain rfl:=h;rfl
 |p::ps,x,vs,⟨v,vr,e,_,hr⟩=>by subst e;simp[hr.len]
theorem vX.len {okA:Nat→Prop}{md:Md}{ps:List (Bool×K)}{x:eH ps}{vs:List Value}(h:vX w okA md ps x vs):vs.length=ps.length:=by
 cases md with
 |first=>
  cases ps with
  |nil=>
   have h:vs=[]:=h
   subst h;rfl
  |cons p r=>
   obtain⟨v,vr,rfl,_,h2⟩:=h
   simp[h2.len]
 |_=>exact jy.len h
theorem ZP {ok okA:Nat→Prop}{md:Md}(h0:∀b,ok b)(h1:∀b,okA b→md.isShared=true→may b){ps:List (Bool×K)}{x:eH ps}{vs:List Value}{q:Nat×SV}(h:vX w okA md ps x vs)(hq:q∈SL md ps x):∃v,vs[q.1]? =some v∧aS w ok may ow m q.2 v:=by
 have key:∀(f:Bool),(f=true→md.isShared=true)→jy w okA ps x vs→q∈Dv f ps 0 x→∃v,vs[q.1]? =some v∧aS w ok may ow m q.2 v:=fun f hf hr hq=>by
  obtain⟨v,h2,_,h3⟩:=CW (m:=m) (ow:=ow) (may:=may) (ok:=ok) (fun b hb=>⟨h0 b,fun e=>h1 b hb (hf e)⟩) hr hq
  exact⟨v,by simpa using h2,h3⟩
 cases md with
 |first=>
  cases ps with
  |nil=>exact key _ (fun e=>e) h hq
  |cons p r=>
   obtain⟨v,vr,rfl,hv,hr⟩:=h
   rcases List.mem_cons.1 hq with rfl|hq
   ·exact ⟨v,by simp,Ul (fun b hb=>⟨h0 b,fun _=>h1 b hb rfl⟩) hv⟩
   ·obtain ⟨u,h2,h3,h4⟩:=CW (m:=m) (ow:=ow) (may:=may) (ok:=ok) (fr:=false) (fun b _=>⟨h0 b,fun e=>by cases e⟩) hr hq
    refine⟨u,?_,h4⟩
    rw[show q.1=(q.1-1)+1 by omega]
    simpa using h2
 |_=>exact key _ (fun e=>e) h hq
theorem FN {ok:Nat→Prop}{cs:List lM}{us:List Value}(h:F2 (bG w ok may ow) cs us):aS w ok may ow m (Dj cs) (if h:us.toArray.size=1 then us.toArray[0]else .tuple us.toArray):=by
 match cs,us,h with
 |[],[],h=>exact⟨[],rfl,trivial⟩
 |[c],[u],h=>exact h.1
 |c::d::cs,u::v::us,h=>exact⟨_,rfl,h⟩
 |[],_::_,h=>exact h.elim
 |[c],[],h=>exact h.elim
 |[c],u::v::us,h=>exact h.2.elim
 |c::d::cs,[],h=>exact h.elim
 |c::d::cs,[u],h=>exact h.2.elim
theorem JW {okR ok:Nat→Prop}(H:∀b,okR b→ok b):∀{rs:List (Bool×K)} {y:eH rs} {us:List Value} {n:Nat},jy w okR rs y us→∃cs',jh false false n rs y=some (cs',[])∧F2 (bG w ok may ow) cs' us
 |[],y,us,n,h=>⟨[],rfl,by obtain rfl:=h;trivial⟩
 |p::rs,y,us,n,⟨v,vr,e,hv,hr⟩=>by
  subst e
  obtain⟨cs',h1,h2⟩:=JW (n:=n) H hr
  unfold ES at hv
  cases hp:p.1 with
  |true=>
   rw[hp]at hv
   simp only[if_true]at hv
   obtain⟨es,rfl,hv⟩:=hv
   refine⟨.agg (bf false p.2 y.1)::cs',by simp[jh,hp,GL,h1],⟨es,rfl,jE (Rd.mono (fun b hb=>⟨H b hb,fun e=>by cases e⟩) hv)⟩,h2⟩
  |false=>
   rw[hp]at hv
   simp only[Bool.false_eq_true,if_false]at hv
   have h3:=jE (fr:=false) (may:=may) (ow:=ow) (ok:=ok) (Rd.mono (fun b hb=>⟨H b hb,fun e=>by cases e⟩) hv)
   have hl:=h3.len
   match hq:bf false p.2 y.1,hl with
   |[l],_=>
    rw[hq]at h3
    exact⟨.lf l::cs',by simp[jh,hp,GL,h1,hq],h3.1,h2⟩
end
section
variable {P:Program} {T:dH} {C:ak} {w:World} {may:Nat→Prop} {ow:Ow} {m:Mem} {s:S} {a:Act}
theorem ab4 {fz:Nat→Prop}{N:Nat}{w0:World}{s:S}(I:Inv fz may N w0 s a w ow)(t:Nat){Z:Type}{c:S→Option Z}{y:Z}(h:aiE s t c=some y):∃s',Inv fz may N w0 s' a w ow∧c s'=some y:=by
 have hF:=I.fr t
 unfold aiE at h
 cases hv:s.get t with
 |sub q o n g=>
  rw[hv]at hF
  simp only[hv]at h
  obtain⟨hq,⟨A0,L0,C0,Nr⟩,hF⟩:=hF
  cases hr:s.m.row? q with
  |none=>simp[hr]at h
  |some row=>
   simp only[hr]at h
   obtain⟨hb,h⟩:=aG h
   have hb:=Nat.le_of_ble_eq_true hb
   obtain⟨hle,⟨A,c,hvv,VW⟩,Bo⟩:=hF row hr
   obtain⟨M1,K1⟩:=I.mem.freeze (.own q)
   have Sj:(s.m.freeze (.own q)).row? q=some {row with rw:=false}:=by
    rw[row?vT,if_pos rfl,hr];rfl
   obtain⟨u,hu,_,R⟩:=M1.sl q _ Sj Nr ⟨_,_,_,rfl⟩
   simp only[Bool.false_eq_true,if_false]at R
   refine⟨_,⟨M1,fun t'=> ?_,I.size,I.defers,I.base.aW K1⟩,h⟩
   show aS _ _ _ _ _ (lookup ((t,_)::s.fr) t') _
   simp only[lookup]
   cases he:Nat.beq t t' with
   |false=>exact aS.aW K1 (I.fr t')
   |true=>
    have:=Nat.eq_of_beq_eq_true he
    subst this
    have hlen:(List.take n (List.drop o row.xs)).length=n:=by rw[List.length_take,List.length_drop];omega
    refine⟨A,c,by rw[hvv,hlen],by rw[hlen];exact VW,fun i x hi=> ?_⟩
    have QC:i<n:=by
     have:=(List.getElem?_eq_some_iff.1 hi).1
     omega
    obtain⟨γ,L,C,c',hγ,Jq,_⟩:=Bo (by omega)
    rw[hγ]at hu
    obtain rfl:=Option.some.inj hu
    obtain⟨A2,c2,e2,_,hx⟩:=R
    simp only[List.cons.injEq,Value.slice.injEq,and_true]at e2
    obtain⟨rfl,_,_⟩:=e2
    rw[List.getElem?_take_of_lt QC,List.getElem?_drop]at hi
    obtain⟨ad,es,e3,h1,h2,h3,h4⟩:=hx (o+i) x hi
    obtain rfl:=Option.some.inj e3
    rw[hvv]at Jq
    simp only[Value.slice.injEq,true_and]at Jq
    obtain⟨rfl,_⟩:=Jq
    refine⟨_,es,rfl,by rw[Addr.gU];exact h1,by rw[Addr.gU];exact h2,h3,fun j v hj=> ?_⟩
    rw[Addr.nT]
    have:=h4 j v hj
    rwa[Nat.add_mul,Nat.add_assoc]at this
 |_=>simp only[hv]at h;exact⟨s,I,h⟩
theorem ab5 {fz:Nat→Prop}{N:Nat}{w0:World}{s:S}(I:Inv fz may N w0 s a w ow){Z:Type}{c:S→Option Z}{y:Z}(rv:ResultVar)(h:aiF s c rv=some y):∃s',Inv fz may N w0 s' a w ow∧c s'=some y:=by
 cases rv with
 |cell x t=>exact⟨s,I,h⟩
 |tmp t=>
  unfold aiF at h
  exact ab4 I t h
theorem X8 {fz:Nat→Prop}{N:Nat}{w0:World}{Z:Type}{c:S→Option Z}{y:Z}:∀{res:List ResultVar} {s:S},Inv fz may N w0 s a w ow→aiG c res s=some y→∃s',Inv fz may N w0 s' a w ow∧c s'=some y
 |[],s,I,h=>⟨s,I,h⟩
 |rv::res,s,I,h=>by
  obtain⟨s',I',h'⟩:=ab5 I rv h
  exact X8 (res:=res) I' h'
theorem D8 (TK:aZ P T)(M:aC w may ow s.m)(F:dw w (ay ow s.m) may ow s a){f:Func}{cs:List lM}(h:iV (f.results.toList.map (GX T s))=some cs):
  ∃us,F2 (bG w (ay ow s.m) may ow) cs us∧(results f a.tmps).run P w= .ok (if h:us.toArray.size=1 then us.toArray[0]else .tuple us.toArray) w:=by
 have one:∀rv c,GX T s rv=some c→∃u,bG w (ay ow s.m) may ow c u∧(match rv with
   | .tmp t=>(pure (a.tmps.getD t undef):Sem Value)
   | .cell x t=>do loadVar t (←asAddr (a.tmps.getD x undef))).run P w= .ok u w:=by
  intro rv c hc
  cases rv with
  |tmp t=>exact⟨_,cmp?nK (F t) hc,by simp⟩
  |cell x t=>
   simp only[GX]at hc
   split at hc
   case h_2=>cases hc
   rename_i b ag n hb ht
   split at hc
   case h_2=>cases hc
   rename_i bx yN
   obtain⟨hn,hmk⟩:=aG hc
   have hn:=Nat.eq_of_beq_eq_true hn
   obtain⟨ti,hT,hti⟩:=yT ht
   obtain⟨rfl,rfl⟩:=Prod.mk.inj hti
   have hx:=F x
   rw[hb]at hx
   obtain⟨g,hg,hv⟩:=hx
   obtain⟨g',zA,vs,hcell,hF⟩:=M.boxes b bx yN
   obtain rfl:g=g':=Option.some.inj (Option.some.inj (hg.symm.trans zA))
   obtain⟨u,h1,h2⟩:=DX (ad:=⟨g,0,none⟩) TK hT hF hn (fun j u hu=>by
    rw[Addr.fO]
    simp[World.cell?,hcell,hu]) hmk
   refine⟨u,h2,?_⟩
   have h0:a.tmps.getD x undef= .pointer (some ⟨g,0,none⟩):=by rw[hv,Addr.fO]
   simp only[h0]
   simp[asAddr,h1]
 have all:∀(l:List ResultVar) (cs:List lM),iV (l.map (GX T s))=some cs→∃us,F2 (bG w (ay ow s.m) may ow) cs us∧(l.mapM (fun rv:ResultVar=>(match rv with
   | .tmp t=>(pure (a.tmps.getD t undef):Sem Value)
   | .cell x t=>do loadVar t (←asAddr (a.tmps.getD x undef))))).run P w= .ok us w:=by
  intro l
  induction l with
  |nil=>intro cs h;obtain rfl:=Option.some.inj h;exact⟨[],trivial,by simp⟩
  |cons rv l ih=>
   intro cs h
   simp only[List.map_cons]at h
   cases h1:GX T s rv with
   |none=>rw[h1]at h;simp[iV]at h
   |some c=>
    rw[h1]at h
    simp only[iV]at h
    obtain⟨cs',h2,rfl⟩:=Option.map_eq_some_iff.1 h
    obtain⟨us,h3,h4⟩:=ih cs' h2
    obtain⟨u,h5,h6⟩:=one rv c h1
    refine⟨u::us,⟨h5,h3⟩,?_⟩
    rw[List.mapM_cons]
    simp only[Sem.run_bind,h6,Result.andThen_ok,h4]
    rfl
 obtain⟨us,h1,h2⟩:=all _ cs h
 refine⟨us,h1,?_⟩
 unfold results
 rw[Array.mapM_eq_mapM_toList]
 simp only[Sem.run_bind,Sem.run_map]
 erw [h2]
 rfl
end
section
variable {P:Program} {T:dH} {C:ak}
theorem Um {g:FuncId}{f:Func}{q:Spec}{code:Code}{F:eH q.ps→Option (eH q.rs)}(TK:aZ P T)(CK:ah P C)(kZ:P.follows .mixedOrders=true)(hf:P.funcs[g]? =some f)(hb:f.body=some code)
  (hd:kU (gQ code)=true) (hn:Nat.ble q.ps.length f.ntmps=true) (hF:∀x y,F x=some y→∃k,IB q C T f k x=some y):ET P C.aJ g ⟨q.ps,q.rs,q.md,F⟩:=by
 intro w okA x y vs Dp hy lQ cs
 simp only at x y hy lQ⊢
 obtain⟨k,hk⟩:=hF x y hy
 have hn:=Nat.le_of_ble_eq_true hn
 let may:Nat→Prop:=fun b=>w.heap.size≤b∨(q.md.isShared=true∧okA b)
 let b:Frame:={(default:Frame)with fn:=g,kind:= .normal}
 let a0:Act:={tmps:=vs.toArray++Array.replicate (f.ntmps-vs.toArray.size) undef,defers:=[]}
 have LJ:Frame.enter P g vs.toArray .normal=b.at a0 [.code code]:=by
  simp[Frame.enter,Frame.at,hf,hb,b,a0]
 have X9:=lQ.len
 let s0:S:=⟨SL q.md q.ps x,⟨[],[]⟩⟩
 have M0:aC w may ⟨[],[]⟩ s0.m:=⟨rfl,rfl,fun i row e=>by simp[s0,Mem.row?]at e,fun i bx e=>by simp[s0,Mem.box?]at e,fun x y b h k=>by cases x<;>simp[s0,eG,Mem.row?,Mem.box?]at h,fun x b h=>by cases x<;>simp[s0,eG,Mem.row?,Mem.box?]at h,fun i hi e=>by simp[s0]at hi⟩
 have ok0:∀b,ay ⟨[],[]⟩ s0.m b:=fun b x h=>by cases x<;>simp[s0,eG,Mem.row?,Mem.box?]at h
 have F0:dw w (ay ⟨[],[]⟩ s0.m) may ⟨[],[]⟩ s0 a0:=by
  intro t
  show aS _ _ _ _ _ (lookup (SL q.md q.ps x) t) _
  rcases oz (fr:=SL q.md q.ps x) (t:=t)with h1|h1
  ·rw [h1];trivial
  ·obtain ⟨v,h2,h3⟩:=ZP (m:=s0.m) (ow:=⟨[],[]⟩) (may:=may) (ok:=ay ⟨[],[]⟩ s0.m) ok0 (fun b hb e=> .inr ⟨e,hb⟩) lQ h1
   have:a0.tmps.getD t undef=v:=by
    have dX:=(List.getElem?_eq_some_iff.1 h2).1
    simp only[a0]
    rw[Array.getD_eq_getD_getElem?,Array.getElem?_append_left (by simpa using dX)]
    simp[h2]
   rw[this];exact h3
 have I0:Inv (fun _=>True) may f.ntmps w s0 a0 w ⟨[],[]⟩:=⟨M0,F0,by simp only[a0,Array.size_append,List.size_toArray,Array.size_replicate];omega,rfl,Nat.le_refl _,fun b _ _=>⟨ok0 b,rfl⟩,rfl,rfl,rfl⟩
 have hm:OW C may (fun _=>True) w:=⟨fun b h=> .inl h,fun g tb e=>⟨Dp g tb e,trivial⟩⟩
 let Post:Act→World→Prop:=fun a w'=>a.defers=[]∧∃v,(results f a.tmps).run P w'= .ok v w'∧∃cs rows aO,jh q.md.vI false 0 q.rs y=some (cs,rows)∧aC w' (fun b=>w.heap.size≤b) aO ⟨rows,[]⟩∧
   aS w' (fun b=>ay aO ⟨rows,[]⟩ b∧((q.md.isShared=true∧okA b)∨w.heap.size≤b)) (fun b=>w.heap.size≤b) aO ⟨rows,[]⟩ (Dj cs) v∧Below w.heap.size w w'
 have alY:∀s a w' ow,PZ T q.md q.rs f.results.toList s=some y→Inv (fun _=>True) may f.ntmps w s a w' ow→Post a w':=by
  intro s a w' ow h I
  refine⟨I.defers,?_⟩
  have NG:Below w.heap.size w w':=⟨I.base.os,I.base.tape,I.base.output,I.base.size,fun b hb=>(I.base.frame b hb trivial).2⟩
  unfold PZ at h
  split at h
  case h_2=>cases h
  rename_i cs sW
  obtain⟨us,hus,yC⟩:=D8 TK I.mem I.fr sW
  simp only at h
  obtain⟨hc,h⟩:=aG h
  rw[Bool.and_eq_true]at hc
  obtain⟨sQ,hc⟩:=hc
  refine⟨_,yC,?_⟩
  cases hmd:q.md.vI with
  |true=>
   rw[hmd]at h hc
   simp only[cond_true,Bool.and_eq_true]at h hc
   have hsh:q.md.isShared=false:=by cases hq:q.md<;>simp[hq,Md.vI,Md.isShared]at hmd⊢
   have AP:may=fun b=>w.heap.size≤b:=by funext b;simp[may,hsh]
   have M1:aC w' (fun b=>w.heap.size≤b) ow s.m:=by rw[←AP];exact I.mem
   have aja:F2 (bG w' (ay ow s.m) (fun b=>w.heap.size≤b) ow) cs us:=by rw[←AP];exact hus
   obtain⟨cs',rows,rv,ids,h1,h2,h3,h4⟩:=La M1 0 hc.1 sQ aja h
   obtain⟨M2,_⟩:=h2.mem M1 (by rw[h3];exact hc.2)
   exact⟨cs',rows,⟨rv,[]⟩,h1,M2,FN (h4 _ _ _ fun i v e=>by simpa using e),NG⟩
  |false=>
   rw[hmd]at h hc
   simp only[cond_false]at h hc
   obtain⟨M1,K1⟩:=I.mem.aI (aB cs)
   have hr:=ou M1 (lY _ _) (hus.imp fun _ _ h=>bG.aW K1.stay K1.rv h) h sQ true (fun _=>hc)
   have e0:∀b,ay ⟨[],[]⟩ ⟨[],[]⟩ b:=ok0
   obtain⟨cs',h1,h2⟩:=JW (may:=fun b=>w.heap.size≤b) (ow:=⟨[],[]⟩) (n:=0) (ok:=fun b=>ay ⟨[],[]⟩ ⟨[],[]⟩ b∧((q.md.isShared=true∧okA b)∨w.heap.size≤b)) (fun b hb=>⟨e0 b,(hb.2 rfl).symm⟩) hr
   exact⟨cs',[],⟨[],[]⟩,h1,⟨rfl,rfl,fun i row e=>by simp[Mem.row?]at e,fun i bx e=>by simp[Mem.box?]at e,fun x y b h k=>by cases x<;>simp[eG,Mem.row?,Mem.box?]at h,fun x b h=>(by cases x<;>simp[eG,Mem.row?,Mem.box?]at h),fun i hi e=>by simp at hi⟩,FN h2,NG⟩
 have FK:∀s a w' ow,finish T q.md q.rs f.results.toList s=some y→Inv (fun _=>True) may f.ntmps w s a w' ow→Post a w':=fun s a w' ow h I=>by
  obtain⟨s',I',h'⟩:=X8 I h
  exact alY s' a w' ow h' I'
 have Un:Fits (Func.lN f) code []:=QB hd fun j z hz=>by simp[Func.lN,hb,hz]
 have hE:Ends P b cs Post [.code code] a0 w:=by
  unfold IB at hk
  have he:entry f=[.code code]:=by simp[entry,hb]
  rw[he]at hk
  exact XZ TK CK kZ hm (fun j s a w' ow hf' h I=>FM TK CK kZ hm FK k j s a w' ow hf' h I) FK _ _ _ _ _ _ ⟨Un,trivial⟩ hk I0
 obtain⟨todo,a',w',EO,ab6,v,yC,cs',rows,aO,h1,h2,h3,h4⟩:=hE
 rw[LJ]
 refine⟨.returned v,w',{b.at a' todo with mode:= .returning},⟨v,cs',rows,aO,rfl,h1,h2,h3,h4⟩,EO,rfl,rfl,ab6,rfl,f,hf,yC⟩
theorem ab7 {aJ:Nat→Option PW}{g:FuncId}{f:Func}{sg:kH}(hf:P.funcs[g]? =some f)(hn:(f.name== "runtime.NumGoroutine")=false)(hb:f.body.isNone=false)(h:ET P aJ g sg):bW P aJ g sg:=⟨⟨f,hf,hn,hb⟩,h⟩
end
def Hy:Nat→Option PW:=fun _=>none
def ak.base (aJ:Nat→Option PW):ak:=⟨fun _=>none,fun _=>none,fun _=>false,aJ,fun _ _=>none,fun _=>none⟩
def ak.cons (g:FuncId)(sg:kH)(C:ak):ak:=⟨fun x=>bif Nat.beq x g then some sg else C.fn x,C.io,C.Y6,C.aJ,C.x,C.eqs⟩
def ak.LK (g:FuncId)(ig:Bc)(C:ak):ak:=⟨C.fn,fun x=>bif Nat.beq x g then some (.io ig)else C.io x,C.Y6,C.aJ,C.x,C.eqs⟩
def ak.LM (g:FuncId)(q:Oth)(C:ak):ak:=⟨C.fn,fun x=>bif Nat.beq x g then some q else C.io x,C.Y6,C.aJ,C.x,C.eqs⟩
def ak.yY (l:List Nat)(C:ak):ak:=⟨C.fn,C.io,fun d=>l.any (Nat.beq d),C.aJ,C.x,C.eqs⟩
def dH.nil:dH:=fun _=>none
def dH.cons (t:TypeId)(ti:TI)(T:dH):dH:=fun x=>bif Nat.beq x t then some ti else T x
theorem ah.base {P:Program}{aJ:Nat→Option PW}(h:∀g tb,aJ g=some tb→Tv P tb):ah P (ak.base aJ):=⟨(fun g sg h=>by cases h),(fun g sg h=>by cases h),h,(fun g n xg h=>by cases h),(fun t n h=>by cases h)⟩
theorem OX {P:Program}:∀g tb,Hy g=some tb→Tv P tb:=fun g tb h=>by cases h
theorem ah.cons {P:Program}{C:ak}{g:FuncId}{sg:kH}(h:bW P C.aJ g sg)(hC:ah P C):ah P (ak.cons g sg C):=by
 refine⟨fun x s hx=> ?_,hC.io,hC.aJ,hC.x,hC.eqs⟩
 unfold ak.cons at hx
 rcases mP hx with⟨h1,h2⟩|⟨h1,h2⟩
 ·obtain rfl:=Option.some.inj h2
  rw[Nat.eq_of_beq_eq_true h1];exact h
 ·exact hC.fn x s h2
theorem ah.LK {P:Program}{C:ak}{g:FuncId}{ig:Bc}(h:Zi P g ig)(hC:ah P C):ah P (ak.LK g ig C):=by
 refine⟨hC.fn,fun x s hx=> ?_,hC.aJ,hC.x,hC.eqs⟩
 unfold ak.LK at hx
 rcases mP hx with⟨h1,h2⟩|⟨h1,h2⟩
 ·obtain rfl:=Option.some.inj h2
  rw[Nat.eq_of_beq_eq_true h1];exact h
 ·exact hC.io x s h2
theorem ah.LM {P:Program}{C:ak}{g:FuncId}{q:Oth}(h:XK P g q)(hC:ah P C):ah P (ak.LM g q C):=by
 refine⟨hC.fn,fun x s hx=> ?_,hC.aJ,hC.x,hC.eqs⟩
 unfold ak.LM at hx
 rcases mP hx with⟨h1,h2⟩|⟨h1,h2⟩
 ·obtain rfl:=Option.some.inj h2
  rw[Nat.eq_of_beq_eq_true h1];exact h
 ·exact hC.io x s h2
def ak.h_ (g:FuncId)(n:Bool)(xg:rP)(C:ak):ak:=⟨C.fn,C.io,C.Y6,C.aJ,fun x b=>bif Nat.beq x g&&(b==n)then some xg else C.x x b,C.eqs⟩
def ak.LP (t:TypeId)(n:Nat)(C:ak):ak:=⟨C.fn,C.io,C.Y6,C.aJ,C.x,fun x=>bif Nat.beq x t then some n else C.eqs x⟩
theorem ah.h_ {P:Program}{C:ak}{g:FuncId}{n:Bool}{xg:rP}(h:Oz P C.aJ g xg)(hC:ah P C):ah P (ak.h_ g n xg C):=by
 refine⟨hC.fn,hC.io,hC.aJ,fun x b s hx=> ?_,hC.eqs⟩
 unfold ak.h_ at hx
 rcases mP hx with⟨h1,h2⟩|⟨h1,h2⟩
 ·obtain rfl:=Option.some.inj h2
  rw[Bool.and_eq_true]at h1
  rw[Nat.eq_of_beq_eq_true h1.1];exact h
 ·exact hC.x x b s h2
theorem ah.LP {P:Program}{C:ak}{t:TypeId}{n:Nat}(h:Zj P t n)(hC:ah P C):ah P (ak.LP t n C):=by
 refine⟨hC.fn,hC.io,hC.aJ,hC.x,fun x k hx=> ?_⟩
 unfold ak.LP at hx
 rcases mP hx with⟨h1,h2⟩|⟨h1,h2⟩
 ·obtain rfl:=Option.some.inj h2
  rw[Nat.eq_of_beq_eq_true h1];exact h
 ·exact hC.eqs x k h2
theorem ah.yY {P:Program}{C:ak}(l:List Nat)(hC:ah P C):ah P (ak.yY l C):=⟨hC.fn,hC.io,hC.aJ,hC.x,hC.eqs⟩
theorem TOk.mono {P:Program}{T T':dH}{t:TypeId}{ti:TI}(h:TOk P T t ti)(H:∀x i,T x=some i→T' x=some i):TOk P T' t ti:=by
 refine⟨h.info,h.agg,?_⟩
 have hd:=h.desc
 revert hd
 split
 ·exact id
 ·exact id
 ·exact id
 ·rintro ⟨h1,ei,h2,h3⟩;exact⟨h1,ei,H _ _ h2,h3⟩
 ·rintro ⟨F,h1,h2,h3⟩
  refine⟨F,h1,h2,fun i o ft hi=> ?_⟩
  obtain⟨f,h4,h5,h6,fi,h7,h8⟩:=h3 i o ft hi
  exact⟨f,h4,h5,h6,fi,H _ _ h7,h8⟩
 ·exact id
 ·exact id
theorem aZ.nil {P:Program}:aZ P dH.nil:=fun t ti h=>by cases h
theorem aZ.cons {P:Program}{T:dH}{t:TypeId}{ti:TI}(hn:T t=none)(h:TOk P T t ti)(hT:aZ P T):aZ P (dH.cons t ti T):=by
 have H:∀x i,T x=some i→dH.cons t ti T x=some i:=by
  intro x i hx
  unfold dH.cons
  by_cases hxt:x=t
  ·subst hxt;rw[hn]at hx;cases hx
  ·rw [show Nat.beq x t=false from by cases hb:Nat.beq x t with|false=>rfl|true=>exact absurd (Nat.eq_of_beq_eq_true hb) hxt];exact hx
 intro x i hx
 unfold dH.cons at hx
 rcases mP hx with⟨h1,h2⟩|⟨h1,h2⟩
 ·obtain rfl:=Option.some.inj h2
  rw[Nat.eq_of_beq_eq_true h1];exact h.mono H
 ·exact (hT x i h2).mono H
section
variable {R:Type} {C:ak} {T:dH} {N:Nat}
theorem IQ {s:S}{o:Oper}{c c':SV→Mem→Option R}{r:R}(h:evalOp C T s o c=some r)(H:∀v m,c v m=some r→c' v m=some r):evalOp C T s o c'=some r:=by
 rw[Ll]at h⊢
 obtain⟨p,h1,h2⟩:=Option.bind_eq_some_iff.1 h
 exact Option.bind_eq_some_iff.2 ⟨p,h1,H _ _ h2⟩
theorem LQ {all:List Oper}{o:Oper}{s:S}{c c':S→Bool→SV→Mem→Option R}{r:R}(h:EH C T all o s c=some r)(H:∀s wt v m,c s wt v m=some r→c' s wt v m=some r):EH C T all o s c'=some r:=by
 unfold EH at h⊢
 split at h
 ·rename_i hg
  try simp only[hg]
  exact IQ h fun v m=>H _ _ _ _
 ·rename_i g want hg
  try simp only[hg]
  split at h
  case h_1=>cases h
  rename_i d hd
  try simp only[hd]
  cases ZA:isVoid (s.get d)with
  |true=>
   rw[ZA]at h
   exact H _ _ _ _ h
  |false=>
  rw[ZA]at h
  simp only[cond_false]at h⊢
  split at h
  case h_1=>cases h
  rename_i b hb
  try simp only[hb]
  cases b<;>cases want<;>first|exact IQ h fun v m=>H _ _ _ _|exact H _ _ _ _ h
theorem FP {all:List Oper}{r:R}:∀{l:List Oper} {s:S} {c c':S→Option R},nN C T N all l s c=some r→(∀s,c s=some r→c' s=some r)→nN C T N all l s c'=some r
 |[],s,c,c',h,H=>H _ h
 |o::l,s,c,c',h,H=>by
  unfold nN at h⊢
  obtain⟨hd,h⟩:=aG h
  rw[hd]
  exact LQ h fun s wt v m h=>FP h H
theorem yD {B:Nat}{all:List Oper}{r:R}:∀{l:List Oper} {lg:List yj} {s:S} {c c':List yj→S→Option R},nS C T N B all l lg s c=some r→(∀lg s,c lg s=some r→c' lg s=some r)→nS C T N B all l lg s c'=some r
 |[],lg,s,c,c',h,H=>H _ _ h
 |o::l,lg,s,c,c',h,H=>by
  unfold nS at h⊢
  obtain⟨hd,h⟩:=aG h
  rw[hd]
  cases hn:lW o with
  |true=>
   rw[hn]at h
   simp only[cond_true]at h⊢
   split at h
   ·rename_i bx hb
    try simp only[hb]
    exact yD h H
   ·cases h
  |false=>
   rw[hn]at h
   simp only[cond_false,cond_true]at h⊢
   exact LQ h fun s wt v m h=>yD h H
theorem JX {E:Env R}{A A':Nat→S→Option R}{r:R}(H:∀j s,A j s=some r→A' j s=some r):∀(n:Nat) (items:List Item) (s:S),go E A n items s=some r→go E A' n items s=some r:=by
 have LH:∀j s,wP E A j s=some r→wP E A' j s=some r:=by
  intro j s h
  unfold wP at h⊢
  split at h
  ·exact H _ _ h
  ·cases h
 intro n
 induction n with
 |zero=>intro items s h;cases h
 |succ n ih=>
  intro items s h
  cases items with
  |nil=>exact h
  |cons x k=>
   cases x<;>simp only[go]at h⊢<;>try (cases h;done)
   case code c=>
    cases c<;>simp only[]at h⊢<;>try (cases h;done)
    case skip=>exact ih _ _ h
    case seq x y=>exact ih _ _ h
    case region id ops d=>
     cases d with
     |false=>exact FP h fun s=>ih _ _
     |true=>
      exact yD h fun lg s h=>by
       obtain⟨h1,h2⟩:=aG h
       rw[h1];exact ih _ _ h2
    case cond x y z=>
     split at h
     case h_2=>cases h
     rename_i t ht
     cases t<;>exact ih _ _ h
    case block id c=>exact ih _ _ h
    case loop c=>exact LH _ _ h
    case exit id=>
     split at h
     ·exact ih _ _ h
     ·cases h
    case ret=>exact h
   case inBlock id=>exact ih _ _ h
   case inLoop c=>exact LH _ _ h
theorem zU {E:Env R}{lN:Nat→List Item}{r:R}:∀(k k' j:Nat) (s:S),k≤k'→gB E lN k j s=some r→gB E lN k' j s=some r
 |0,k',j,s,hk,h=>by cases h
 |k+1,0,j,s,hk,h=>by omega
 |k+1,k'+1,j,s,hk,h=>JX (fun j s h=>zU k k' j s (by omega) h) _ _ _ h
end
theorem LU {q:Spec}{C:ak}{T:dH}{f:Func}{k k':Nat}{x:eH q.ps}{y:eH q.rs}(hk:k≤k')(h:IB q C T f k x=some y):IB q C T f k' x=some y:=
 JX (fun j s h=>zU k k' j s hk h) _ _ _ h
open Classical in
noncomputable def eF (q:Spec)(C:ak)(T:dH)(f:Func)(x:eH q.ps):Option (eH q.rs):=
 if h:∃y,∃k,IB q C T f k x=some y then some (Classical.choose h)else none
theorem ZQ {q:Spec}{C:ak}{T:dH}{f:Func}{x:eH q.ps}{y:eH q.rs}(h:eF q C T f x=some y):∃k,IB q C T f k x=some y:=by
 unfold eF at h
 split at h
 ·rename_i hex
  obtain rfl:=Option.some.inj h
  exact Classical.choose_spec hex
 ·cases h
theorem aV {q:Spec}{C:ak}{T:dH}{f:Func}{x:eH q.ps}{y:eH q.rs}(k:Nat)(h:IB q C T f k x=some y):eF q C T f x=some y:=by
 have hex:∃y,∃k,IB q C T f k x=some y:=⟨y,k,h⟩
 obtain⟨k',h'⟩:=Classical.choose_spec hex
 unfold eF
 rw[dif_pos hex]
 have h1:=LU (Nat.le_max_left k k') h
 have h2:=LU (Nat.le_max_right k k') h'
 rw[←h2,h1]
noncomputable def Spec.sig (q:Spec)(C:ak)(T:dH)(f:Func):kH:=⟨q.ps,q.rs,q.md,eF q C T f⟩
theorem ZR {P:Program}{T:dH}{C:ak}{g:FuncId}{f:Func}{q:Spec}(code:Code)(TK:aZ P T)(CK:ah P C)(kZ:P.follows .mixedOrders=true)(hf:P.funcs[g]? =some f)(hb:f.body=some code)
  (hd:kU (gQ code)=true) (hn:Nat.ble q.ps.length f.ntmps=true) (XY:(f.name== "runtime.NumGoroutine")=false):bW P C.aJ g (q.sig C T f):=
 ab7 hf XY (by rw[hb];rfl) (Um TK CK kZ hf hb hd hn fun x y h=>ZQ h)
theorem WR {P:Program}{T:dH}{C:ak}{g:FuncId}{f:Func}{q:Spec}(TK:aZ P T)(CK:ah P C)(kZ:P.follows .mixedOrders=true)(hf:P.funcs[g]? =some f)(hb:f.body.isSome=true)
  (hd:kU (gQ (f.body.get hb))=true) (hn:Nat.ble q.ps.length f.ntmps=true) (XY:(f.name== "runtime.NumGoroutine")=false):bW P C.aJ g (q.sig C T f):=
 ZR (f.body.get hb) TK CK kZ hf (Option.some_get hb).symm hd hn XY
structure tK where
 e:TypeId
 k:K
 ps:List (Bool×K)
 rs:List (Bool×K)
 sh:Nat→List (Nat×CS)
def LV (T:dH)(e:TypeId)(k:K)(rs:List (Bool×K))(res:List ResultVar)(s:S):Option (eH rs×List k.T×(Nat×Nat)):=
 match s.get 0 with
 | .sub r _ n (some g)=>match s.m.row? r,iV (res.map (GX T s))with
  |some row,some cs=>bif (row.rw&&Nat.blt 0 n)&&(kG rs cs&&rs.all fun p=>p.2.flat)then(match K.cast (.sl row.e row.k) (.sl e k) row.xs,bQ s.m rs cs with
   |some xs,some y=>some (y,xs,g)
   |_,_=>none)else none
  |_,_=>none
 |_=>none
def tK.env (q:tK)(C:ak)(T:dH)(f:Func):Env (eH q.rs×List q.k.T×(Nat×Nat)):=⟨C,T,f.ntmps,q.sh,LV T q.e q.k q.rs f.results.toList⟩
def D9 (q:tK)(C:ak)(T:dH)(f:Func)(k:Nat)(zs:List q.k.T)(o n:Nat)(g:Nat×Nat)(x:eH q.ps):Option (eH q.rs×List q.k.T×(Nat×Nat)):=
 go (q.env C T f) (gB (q.env C T f) (Func.lN f) k) steps (entry f) ⟨(0,.sub 0 o n (some g))::Dv false q.ps 1 x,⟨[some ⟨q.e,q.k,true,true,zs⟩],[]⟩⟩
theorem IU {q:tK}{C:ak}{T:dH}{f:Func}{k k':Nat}{zs:List q.k.T}{o n:Nat}{g:Nat×Nat}{x:eH q.ps}{y:eH q.rs×List q.k.T×(Nat×Nat)}(hk:k≤k')(h:D9 q C T f k zs o n g x=some y):D9 q C T f k' zs o n g x=some y:=
 JX (fun j s h=>zU k k' j s hk h) _ _ _ h
open Classical in
noncomputable def OY (q:tK)(C:ak)(T:dH)(f:Func)(zs:List q.k.T)(o n:Nat)(x:eH q.ps):Option (eH q.rs×List q.k.T):=
 if h:∃y:eH q.rs×List q.k.T,∀g,∃k,D9 q C T f k zs o n g x=some (y.1,y.2,g)then some (Classical.choose h)else none
theorem WS {q:tK}{C:ak}{T:dH}{f:Func}{zs:List q.k.T}{o n:Nat}{x:eH q.ps}{y:eH q.rs×List q.k.T}(h:OY q C T f zs o n x=some y):∀g,∃k,D9 q C T f k zs o n g x=some (y.1,y.2,g):=by
 unfold OY at h
 split at h
 ·rename_i hex
  obtain rfl:=Option.some.inj h
  exact Classical.choose_spec hex
 ·cases h
theorem ab8 {q:tK}{C:ak}{T:dH}{f:Func}{zs:List q.k.T}{o n:Nat}{x:eH q.ps}(y:eH q.rs)(ws:List q.k.T)(h:∀g,∃k,D9 q C T f k zs o n g x=some (y,ws,g)):OY q C T f zs o n x=some (y,ws):=by
 have hex:∃y:eH q.rs×List q.k.T,∀g,∃k,D9 q C T f k zs o n g x=some (y.1,y.2,g):=⟨(y,ws),h⟩
 unfold OY
 rw[dif_pos hex]
 obtain⟨k1,h1⟩:=h (0,0)
 obtain⟨k2,h2⟩:=Classical.choose_spec hex (0,0)
 have h3:=IU (Nat.le_max_left k1 k2) h1
 have h4:=IU (Nat.le_max_right k1 k2) h2
 rw[h3]at h4
 have h5:=Option.some.inj h4
 have e1:y=(Classical.choose hex).1:=congrArg Prod.fst h5
 have e2:ws=(Classical.choose hex).2:=congrArg (fun p=>p.2.1) h5
 rw[e1,e2]
noncomputable def tK.sig (q:tK)(C:ak)(T:dH)(f:Func):Bc:=⟨q.e,q.k,q.ps,q.rs,OY q C T f⟩
section
variable {P:Program} {T:dH} {C:ak}
theorem jy.flat {w w':World}{ok ok':Nat→Prop}:∀{ps:List (Bool×K)} {x:eH ps} {vs:List Value},ps.all (fun p=>p.2.flat)=true→jy w ok ps x vs→jy w' ok' ps x vs
 |[],x,vs,_,h=>h
 |p::ps,x,vs,hf,⟨v,vr,e,h,k⟩=>by
  simp only[List.all_cons,Bool.and_eq_true]at hf
  refine⟨v,vr,e,?_,jy.flat hf.2 k⟩
  unfold ES at h⊢
  split
  ·rename_i hp
   rw[if_pos hp]at h
   obtain⟨cs,e,h⟩:=h
   exact⟨cs,e,h.flat hf.1⟩
  ·rename_i hp
   rw[if_neg hp]at h
   exact h.flat hf.1
theorem al0 {g:FuncId}{f:Func}{q:tK}(code:Code)(TK:aZ P T)(CK:ah P C)(kZ:P.follows .mixedOrders=true)(hf:P.funcs[g]? =some f)(hb:f.body=some code)
  (hd:kU (gQ code)=true) (hn:Nat.ble (q.ps.length+1) f.ntmps=true) (XY:(f.name== "runtime.NumGoroutine")=false) (hT:C.aJ=Hy):Zi P g (q.sig C T f):=by
 refine⟨⟨f,hf,XY,by rw[hb];rfl⟩,?_⟩
 intro w zs o n x y ws γ L Q c cs vs hy hlen OB Zh hle VW dM lQ wV fs
 simp only[tK.sig]at zs x y ws hy hlen OB hle dM lQ wV⊢
 obtain⟨k,hk⟩:=WS hy (γ,Q)
 have hn:=Nat.le_of_ble_eq_true hn
 let v0:Value:= .slice (some ((⟨γ,0,none⟩:Addr).add (o*q.k.n))) n c
 let vb:Value:= .slice (some ⟨γ,0,none⟩) L Q
 let may:Nat→Prop:=fun b=>w.heap.size≤b∨b=γ
 let b:Frame:={(default:Frame)with fn:=g,kind:= .normal}
 let a0:Act:={tmps:=(v0::vs).toArray++Array.replicate (f.ntmps-(v0::vs).toArray.size) undef,defers:=[]}
 have LJ:Frame.enter P g (v0::vs).toArray .normal=b.at a0 [.code code]:=by
  simp[Frame.enter,Frame.at,hf,hb,b,a0]
 have X9:=wV.len
 let row0:Row:=⟨q.e,q.k,true,true,zs⟩
 let s0:S:=⟨(0,.sub 0 o n (some (γ,Q)))::Dv false q.ps 1 x,⟨[some row0],[]⟩⟩
 let BH:Ow:=⟨[vb],[]⟩
 have hγ:γ<w.heap.size:=(World.ownsRow.lt dM γ rfl).2
 have hL:L=zs.length:=by
  rcases dM.2 with⟨h1,_⟩|⟨_,_,_,h1,_⟩
  ·cases h1
  ·injection h1
 have ahN:∀i row,s0.m.row? i=some row→i=0∧row=row0:=by
  intro i row e
  cases i with
  |zero=>simp[s0,Mem.row?]at e;exact⟨rfl,e.symm⟩
  |succ i=>simp[s0,Mem.row?]at e
 have nY:∀x b,eG BH s0.m x=some b→x= .row 0∧b=γ:=by
  intro x b h
  cases x with
  |box i=>simp[eG,s0,Mem.box?]at h
  |row i=>
   cases i with
   |zero=>simp[eG,s0,Mem.row?,row0,BH,vb,yQ]at h;exact⟨rfl,h.symm⟩
   |succ i=>simp[eG,s0,Mem.row?]at h
 have ok0:∀b,b≠γ→ay BH s0.m b:=fun b hb x h=>hb (nY x b h).2
 have M0:aC w may BH s0.m:=by
  refine⟨rfl,rfl,fun i row e=> ?_,fun i bx e=>by simp[s0,Mem.box?]at e,fun x y b h k=>by rw[(nY x b h).1,(nY y b k).1],fun x b h=>by rw[(nY x b h).2];exact⟨.inr rfl,hγ⟩,fun i hi e=>by simp[s0]at hi⟩
  obtain⟨rfl,rfl⟩:=ahN i row e
  exact⟨vb,rfl,.inl ⟨⟨_,_,_,rfl⟩,cs,dM,lQ.flat OB⟩⟩
 have F0:dw w (ay BH s0.m) may BH s0 a0:=by
  intro t
  show aS _ _ _ _ _ (lookup ((0,.sub 0 o n (some (γ,Q)))::Dv false q.ps 1 x) t) _
  rw[lookup_cons]
  split
  ·rename_i h0
   subst h0
   have:a0.tmps.getD 0 undef=v0:=by
    simp only[a0]
    rw[Array.getD_eq_getD_getElem?,Array.getElem?_append_left (by simp)]
    simp
   rw[this]
   refine⟨Nat.zero_lt_one,⟨_,_,_,rfl⟩,fun row e=> ?_⟩
   obtain⟨_,rfl⟩:=ahN 0 row e
   exact⟨hle,⟨_,_,rfl,VW⟩,fun _=>⟨γ,L,Q,c,rfl,rfl,fun δ hδ=>by obtain rfl:=Option.some.inj hδ;exact⟨rfl,rfl⟩⟩⟩
  ·rcases oz (fr:=Dv false q.ps 1 x) (t:=t)with h1|h1
   ·rw [h1];trivial
   ·obtain ⟨v,h2,h4,h3⟩:=CW (m:=s0.m) (ow:=BH) (may:=may) (ok:=ay BH s0.m) (fun b hb=>⟨ok0 b hb,fun e=>by cases e⟩) wV h1
    have:a0.tmps.getD t undef=v:=by
     have dX:=(List.getElem?_eq_some_iff.1 h2).1
     simp only at dX h2 h4
     obtain⟨t',rfl⟩:∃t',t=t'+1:=⟨t-1,by omega⟩
     simp only[a0]
     rw[Array.getD_eq_getD_getElem?,Array.getElem?_append_left (by simp;omega)]
     simp at h2⊢
     simp[h2]
    rw[this];exact h3
 have I0:Inv (fun b=>b≠γ) may f.ntmps w s0 a0 w BH:=⟨M0,F0,by simp only[a0,Array.size_append,List.size_toArray,Array.size_replicate,List.length_cons];omega,rfl,Nat.le_refl _,fun b _ hb=>⟨ok0 b hb,rfl⟩,rfl,rfl,rfl⟩
 have hm:OW C may (fun b=>b≠γ) w:=⟨fun b h=> .inl h,fun g tb e=>by rw[hT]at e;cases e⟩
 let Post:Act→World→Prop:=fun a w'=>a.defers=[]∧∃v,(results f a.tmps).run P w'= .ok v w'∧∃ds es,jh false false 0 q.rs y=some (ds,[])∧
   (∀(ok may:Nat→Prop) (ow:Ow) (m:Mem),aS w' ok may ow m (Dj ds) v)∧w.heap.size≤w'.heap.size∧w'.os=w.os∧w'.tape=w.tape∧w'.output=w.output∧(∀b,b<w.heap.size→b≠γ→w'.heap[b]? =w.heap[b]?)∧
   w'.ownsRow 0 q.e q.k.n vb zs.length es∧aY w' (fun _=>True) q.k ws es
 have FK:∀s a w' ow,LV T q.e q.k q.rs f.results.toList s=some (y,ws,(γ,Q))→Inv (fun b=>b≠γ) may f.ntmps w s a w' ow→Post a w':=by
  intro s a w' ow h I
  refine⟨I.defers,?_⟩
  unfold LV at h
  split at h
  case h_2=>cases h
  rename_i r o' n' g' uP
  split at h
  case h_2=>cases h
  rename_i row cs' hr sW
  obtain⟨hc,h⟩:=aG h
  simp only[Bool.and_eq_true]at hc
  obtain⟨⟨Dl,hn1⟩,sQ,hfl⟩:=hc
  have hn1:0<n':=Nat.le_of_ble_eq_true hn1
  split at h
  case h_2=>cases h
  rename_i xs y' XJ Qe
  have h:=Option.some.inj h
  have hy1:y'=y:=congrArg Prod.fst h
  have Qc:xs=ws:=congrArg (fun p=>p.2.1) h
  have hg1:g'=(γ,Q):=congrArg (fun p=>p.2.2) h
  rw[hy1]at Qe
  rw[Qc]at XJ
  subst hg1
  obtain⟨us,hus,yC⟩:=D8 TK I.mem I.fr sW
  refine⟨_,yC,?_⟩
  have h0:=I.fr 0
  rw[uP]at h0
  obtain⟨_,_,h0⟩:=h0
  obtain⟨_,_,h0⟩:=h0 row hr
  obtain⟨γ',L',C',c',hv,_,OT⟩:=h0 hn1
  obtain⟨h5,h6⟩:=OT _ rfl
  simp only at h5 h6
  subst h5 h6
  obtain⟨v1,JK,RR⟩:=I.mem.sl r row hr hv ⟨_,_,_,rfl⟩
  obtain rfl:=Option.some.inj (JK.symm.trans hv)
  obtain⟨_,R2⟩:=RR
  rw[Dl]at R2
  simp only[if_true]at R2
  obtain⟨es,ahO,abj⟩:=R2
  obtain⟨re,rk,rfr,rrw,XI⟩:=row
  simp only at*
  obtain⟨e1,e2⟩:=dP XJ
  injection e1 with e3 e4
  subst e3 e4
  simp only at e2
  subst e2
  have hL':L'=L:=by
   rcases ahO.2 with⟨h1,_⟩|⟨_,_,_,h1,_⟩
   ·cases h1
   ·injection h1 with _ h2
    rw[hL,←hlen];exact h2
  subst hL'
  have hra:=zJ I.mem hus Qe sQ
  obtain⟨ds,hds,_⟩:=JW (may:=fun _=>True) (ow:=⟨[],[]⟩) (n:=0) (okR:=fun _=>False) (ok:=fun _=>True) (fun b hb=>hb.elim) (jy.flat (w':=w') (ok':=fun _=>False) hfl hra)
  refine⟨ds,es,hds,fun ok may' aO m'=> ?_,I.base.size,I.base.os,I.base.tape,I.base.output,fun b hb wH=>(I.base.frame b hb wH).2,by rw[←hlen];exact ahO,abj.flat OB⟩
  obtain⟨ds',al1,hF⟩:=JW (may:=may') (ow:=aO) (n:=0) (okR:=fun _=>False) (ok:=ok) (fun b hb=>hb.elim) (jy.flat (w':=w') (ok':=fun _=>False) hfl hra)
  rw[hds]at al1
  obtain⟨rfl,_⟩:=Prod.mk.inj (Option.some.inj al1)
  exact FN hF
 have Un:Fits (Func.lN f) code []:=QB hd fun j z hz=>by simp[Func.lN,hb,hz]
 have hE:Ends P b fs Post [.code code] a0 w:=by
  unfold D9 at hk
  have he:entry f=[.code code]:=by simp[entry,hb]
  rw[he]at hk
  exact XZ TK CK kZ hm (fun j s a w' ow hf' h I=>FM TK CK kZ hm FK k j s a w' ow hf' h I) FK _ _ _ _ _ _ ⟨Un,trivial⟩ hk I0
 obtain⟨todo,a',w',EO,ab6,v,yC,ds,es,h1,h2⟩:=hE
 rw[LJ]
 exact⟨.returned v,w',{b.at a' todo with mode:= .returning},⟨v,ds,es,rfl,h1,h2⟩,EO,rfl,rfl,ab6,rfl,f,hf,yC⟩
theorem ajb {g:FuncId}{f:Func}{q:tK}(TK:aZ P T)(CK:ah P C)(kZ:P.follows .mixedOrders=true)(hf:P.funcs[g]? =some f)(hb:f.body.isSome=true)
  (hd:kU (gQ (f.body.get hb))=true) (hn:Nat.ble (q.ps.length+1) f.ntmps=true) (XY:(f.name== "runtime.NumGoroutine")=false) (hT:C.aJ=Hy):Zi P g (q.sig C T f):=
 al0 (f.body.get hb) TK CK kZ hf (Option.some_get hb).symm hd hn XY hT
end
end Go.Fx

namespace Go.Fx
open Go Go.RowKit Go.ChangeShapes Go.WideShapes Go.ChangeAt
section
variable {H:Type} {enc:TypeId×Value→H} {P:Program} {W:World}
end
section
variable {H:Type} {enc:TypeId×Value→H} {P:Program} {W:World}
end
section
variable {H:Type} {enc:TypeId×Value→H} {P:Program} {W:World}
end
end Go.Fx

namespace Go.Fx
open Go Go.RowKit
def D_ (G:Gh):Option Bf→Nat×List Value
 |none=>(0,[])
 |some r=>(G.b,(List.range (r.pre+r.post)).map G.v)
theorem LW {q:jH}{C:ak}{T:dH}{f:Func}{k k':Nat}{G:Gh}{d:rO q.gy}{x:eH q.ps}{y:q.Res}(hk:k≤k')(h:IC q C T f k G d x=some y):IC q C T f k' G d x=some y:=by
 unfold IC at h⊢
 obtain⟨s,h1,h2⟩:=Option.bind_eq_some_iff.1 h
 rw[h1]
 exact JX (fun j s h=>zU k k' j s hk h) _ _ _ h2
open Classical in
noncomputable def yE (q:jH)(C:ak)(T:dH)(f:Func)(d:rO q.gy)(x:eH q.ps):Option (xO q.nw×eH q.rs×rO q.gy):=
 if h:∃y:xO q.nw×eH q.rs×rO q.gy,∀G,∃k,IC q C T f k G d x=some (y,D_ G q.gy)then some (Classical.choose h)else none
theorem ZT {q:jH}{C:ak}{T:dH}{f:Func}{d:rO q.gy}{x:eH q.ps}{y:xO q.nw×eH q.rs×rO q.gy}(h:yE q C T f d x=some y):∀G,∃k,IC q C T f k G d x=some (y,D_ G q.gy):=by
 unfold yE at h
 split at h
 ·rename_i hex
  obtain rfl:=Option.some.inj h
  exact Classical.choose_spec hex
 ·cases h
theorem nO {q:jH}{C:ak}{T:dH}{f:Func}{d:rO q.gy}{x:eH q.ps}(y:xO q.nw×eH q.rs×rO q.gy)(h:∀G,∃k,IC q C T f k G d x=some (y,D_ G q.gy)):yE q C T f d x=some y:=by
 have hex:∃y:xO q.nw×eH q.rs×rO q.gy,∀G,∃k,IC q C T f k G d x=some (y,D_ G q.gy):=⟨y,h⟩
 unfold yE
 rw[dif_pos hex]
 obtain⟨k1,h1⟩:=h ⟨0,fun _=>undef⟩
 obtain⟨k2,h2⟩:=Classical.choose_spec hex ⟨0,fun _=>undef⟩
 have h3:=LW (Nat.le_max_left k1 k2) h1
 have h4:=LW (Nat.le_max_right k1 k2) h2
 rw[h3]at h4
 have h5:=Option.some.inj h4
 exact congrArg some (congrArg Prod.fst h5).symm
noncomputable def jH.sig (q:jH)(C:ak)(T:dH)(f:Func):rP:=⟨q.gy,q.gK,q.ps,q.mO,q.nw,q.rs,q.own,yE q C T f,q.AO⟩
section
variable {P:Program} {T:dH} {C:ak} {w:World} {may:Nat→Prop} {ow:Ow} {m:Mem} {s:S} {a:Act}
theorem LX {ok:Nat→Prop}:∀{ls:List aT} {zs us:List Value},P5 ls=some zs→F2 (aQ w ok may ow) ls us→us=zs∧∀u∈us,u.oneCell'=true
 |[],zs,us,h,hF=>by
  obtain rfl:=Option.some.inj h
  obtain rfl:=hF.jk
  exact⟨rfl,fun u hu=>by simp at hu⟩
 |l::ls,zs,[],h,hF=>hF.elim
 |l::ls,zs,u::us,h,hF=>by
  unfold P5 at h
  split at h
  ·rename_i e;cases e
  ·rename_i fr v r e
   injection e with e1 e2
   subst e1 e2
   split at h
   ·rename_i q hq
    obtain rfl:=Option.some.inj h
    obtain⟨h1,h2⟩:=LX hq hF.2
    have h3:[u]=[v]∧v.oneCell'=true:=hF.1
    have h4:u=v:=by have:=h3.1;injection this
    subst h4
    refine⟨by rw[h1],fun z hz=> ?_⟩
    rcases List.mem_cons.1 hz with rfl|hz
    ·exact h3.2
    ·exact h2 z hz
   ·cases h
  ·cases h
theorem afM {s':S}(M:aC w may ow m)(yN:m.boxes=s'.m.boxes){gy:Option Bf}{gK:Bool}{z:List aT×Option Nat×Nat×List Value}{d:rO gy}{G:Gh}(h:aiH s' gy=some z)(hd:ahv m gy z.1=some d)(ho:z.1.all (uN m)=true)(hg:z.2.2=D_ G gy)
  (hs:aS w (ay ow s'.m) may ow s'.m (s'.get 0) (a.tmps.getD 0 undef)):
  ∃AQ zM bb,Made w may ow m (aN 0 (nJ gy d)).2 AQ zM∧zM.filterMap id=nC z.1∧bb.length=(sN G (aN 0 (nJ gy d)).1 gy gK).2.length∧z.2.1.toList.length=bb.length∧(∀rc,gy=some rc→bb=[G.b])∧
   ∀(i:Nat) (bx:pF),(sN G (aN 0 (nJ gy d)).1 gy gK).2[i]? =some bx→∃g b vs,bb[i]? =some g∧z.2.1.toList[i]? =some b∧eG ow m (.box b)=some g∧w.heap[g]? =some (.cells vs.toArray bx.t (0,0))∧
    ∀(ok' may':Nat→Prop) (o':Ow),BD 0 AQ o'.rv→F2 (aQ w ok' may' o') bx.ls vs:=by
 cases gy with
 |none=>
  obtain rfl:=Option.some.inj h
  exact⟨[],[],[],Made.nil,rfl,by cases gK<;>rfl,rfl,(fun rc e=>by cases e),fun i bx e=>by cases gK<;>simp[sN]at e⟩
 |some rc=>
  simp only[aiH]at h
  split at h
  case h_2=>cases h
  rename_i b o g uP
  rw[uP]at hs
  obtain⟨hgb,hv⟩:=hs
  cases hb:s'.m.box? b with
  |none=>simp[hb]at h
  |some bx=>
   simp only[hb]at h
   obtain⟨hc,h2⟩:=aG h
   simp only[Bool.and_eq_true]at hc
   obtain⟨⟨ho1,ht⟩,hl⟩:=hc
   have ht:=Nat.eq_of_beq_eq_true ht
   have hl:=Nat.eq_of_beq_eq_true hl
   split at h2
   case h_2=>cases h2
   rename_i zs S_
   obtain rfl:=Option.some.inj h2
   obtain⟨rfl,rfl⟩:=Prod.mk.inj (hg:(g,zs)=(G.b,(List.range (rc.pre+rc.post)).map G.v))
   have hbm:m.box? b=some bx:=by unfold Mem.box? at hb⊢;rw[yN];exact hb
   obtain⟨γ,hγ,vs,hcell,Ez⟩:=M.boxes b bx hbm
   have hlv:vs.length=rc.pre+rc.k.n+rc.post:=by rw[←hl];exact Ez.len.symm
   obtain rfl:G.b=γ:=Option.some.inj (Option.some.inj (hgb.symm.trans hγ))
   obtain⟨AQ,zM,m0,i0,f0⟩:=wI M (k:=rc.k) 0 ho ((Ez.drop rc.pre).take rc.k.n) hd
   obtain⟨S9,Si⟩:=LX S_ ((Ez.take rc.pre).append (Ez.drop (rc.pre+rc.k.n)))
   have al3:∀j,j<rc.pre→vs[j]? =some (G.v j):=by
    intro j hj
    have:(vs.take rc.pre++vs.drop (rc.pre+rc.k.n))[j]? =((List.range (rc.pre+rc.post)).map G.v)[j]? :=by rw[S9]
    rw[List.getElem?_append_left (by simp;omega),List.getElem?_take,if_pos hj]at this
    rw[this,List.getElem?_map,List.getElem?_range (by omega)];rfl
   have al4:∀j,j<rc.post→vs[rc.pre+rc.k.n+j]? =some (G.v (rc.pre+j)):=by
    intro j hj
    have:(vs.take rc.pre++vs.drop (rc.pre+rc.k.n))[rc.pre+j]? =((List.range (rc.pre+rc.post)).map G.v)[rc.pre+j]? :=by rw[S9]
    rw[List.getElem?_append_right (by simp;omega),List.getElem?_drop]at this
    rw[show rc.pre+rc.k.n+(rc.pre+j-(vs.take rc.pre).length)=rc.pre+rc.k.n+j by simp;omega]at this
    rw[this,List.getElem?_map,List.getElem?_range (by omega)];rfl
   have Jl:∀(j:Nat) (u:Value),vs[j]? =some u→u.oneCell'=true:=fun j u hu=>F2.afb Ez u (List.mem_of_getElem? hu)
   refine⟨AQ,zM,[G.b],m0,i0,rfl,rfl,(fun rc' e=>rfl),fun i bx' e=> ?_⟩
   cases i with
   |succ i=>cases gK<;>simp[sN]at e
   |zero=>
    have e:some (⟨rc.t,Dk G 0 rc.pre++(aN 0 (nJ (some rc) d)).1++Dk G rc.pre rc.post⟩:pF)=some bx':=by cases gK<;>exact e
    obtain rfl:=Option.some.inj e
    refine⟨G.b,b,vs,rfl,rfl,jf hbm hγ,by rw[hcell,ht],fun ok' may' o' Nr=> ?_⟩
    have e1:vs=vs.take rc.pre++((vs.drop rc.pre).take rc.k.n++(vs.drop rc.pre).drop rc.k.n):=by rw[List.take_append_drop,List.take_append_drop]
    rw[e1,List.append_assoc]
    refine F2.append (E5 (by simp;omega) fun j u hu=> ?_) (F2.append (f0 ok' may' o' Nr) (E5 (by simp;omega) fun j u hu=> ?_))
    ·have hj:j<rc.pre:=by
      have:=(List.getElem?_eq_some_iff.1 hu).1
      simp at this;omega
     rw[List.getElem?_take,if_pos hj]at hu
     rw[Nat.zero_add]
     exact⟨Option.some.inj ((al3 j hj).symm.trans hu),Jl j u hu⟩
    ·rw [List.getElem?_drop,List.getElem?_drop]at hu
     have hj:j<rc.post:=by
      have:=(List.getElem?_eq_some_iff.1 hu).1
      omega
     exact⟨Option.some.inj ((al4 j hj).symm.trans (by rw[Nat.add_assoc];exact hu)),Jl _ u hu⟩
theorem afN {s':S}(M:aC w may ow m)(yN:m.boxes=s'.m.boxes)(F:dw w (ay ow s'.m) may ow s' a){nw:Option Y5}{l:List ResultVar}{z:List aT×Option Nat×List ResultVar}{nv:xO nw}(n:Nat)(h:aiI T s' nw l=some z)(hd:ahw m nw z.2.1 z.1=some nv)(ho:z.1.all (uN m)=true):
  ∃G9 G_ bb,Made w may ow m (aN n (vP nw nv)).2 G9 G_∧G_.filterMap id=nC z.1∧(∀sh,bb.length=(pK sh (aN n (vP nw nv)).1 nw nv).2.length)∧z.2.1.toList.length=bb.length∧
   (∀(sh i:Nat) (bx:pF),(pK sh (aN n (vP nw nv)).1 nw nv).2[i]? =some bx→∃g b vs,bb[i]? =some g∧z.2.1.toList[i]? =some b∧eG ow m (.box b)=some g∧w.heap[g]? =some (.cells vs.toArray bx.t (0,0))∧
    ∀(ok' may':Nat→Prop) (o':Ow),BD n G9 o'.rv→F2 (aQ w ok' may' o') bx.ls vs)∧
   ((nw=none∧l=z.2.2∧∀sh,(pK sh (aN n (vP nw nv)).1 nw nv).1=none)∨∃t u,l= .tmp t::z.2.2∧a.tmps.getD t undef=u∧∀(sh:Nat) (bbl:List Nat) (o':Ow),bbl.length=sh→o'.bb=(bbl++bb).map some→∃hd,(pK sh (aN n (vP nw nv)).1 nw nv).1=some hd∧pO o' hd u):=by
 cases nw with
 |none=>
  obtain rfl:=Option.some.inj h
  exact⟨[],[],[],Made.nil,rfl,fun _=>rfl,rfl,fun sh i bx e=>by simp[pK]at e,.inl ⟨rfl,rfl,fun _=>rfl⟩⟩
 |some r1=>
  cases l with
  |nil=>cases h
  |cons rvv l=>
   cases rvv with
   |cell=>cases h
   |tmp t=>
    simp only[aiI]at h
    have hF:=Oq (F t)
    split at h
    ·rename_i uP
     obtain rfl:=Option.some.inj h
     have hd:(some none:Option (xO (some r1)))=some nv:=hd
     obtain rfl:=Option.some.inj hd
     rw[uP]at hF
     exact⟨[],[],[],Made.nil,rfl,fun _=>rfl,rfl,fun sh i bx e=>by simp[pK]at e,.inr ⟨t,_,rfl,rfl,fun sh bbl o' _ _=>⟨.uK,rfl,hF⟩⟩⟩
    ·rename_i b uP
     rw[uP]at hF
     cases hb:s'.m.box? b with
     |none=>simp[hb]at h
     |some bx=>
      simp only[hb]at h
      obtain⟨hc,h2⟩:=aG h
      simp only[Bool.and_eq_true]at hc
      obtain rfl:=Option.some.inj h2
      have ht:=Nat.eq_of_beq_eq_true hc.1
      have hbm:m.box? b=some bx:=by unfold Mem.box? at hb⊢;rw[yN];exact hb
      obtain⟨γ,hγ,vs,hcell,Ez⟩:=M.boxes b bx hbm
      obtain⟨g1,hg1,JK⟩:=hF
      obtain rfl:g1=γ:=Option.some.inj (Option.some.inj (hg1.symm.trans hγ))
      have hd:(match bM m r1.k bx.ls with
       |some x=>some (some x)
       |none=>none)=some nv:=hd
      split at hd
      case h_2=>cases hd
      rename_i x hx
      obtain rfl:=Option.some.inj hd
      obtain⟨AQ,zM,m0,i0,f0⟩:=wI M (k:=r1.k) n ho Ez hx
      refine⟨AQ,zM,[g1],m0,i0,fun _=>rfl,rfl,fun sh i bx' e=> ?_,.inr ⟨t,_,rfl,rfl,fun sh bbl o' hl Nq=>⟨.box sh,rfl,g1,?_,?_⟩⟩⟩
      ·cases i with
       |succ i=>simp[pK]at e
       |zero=>
        simp only[pK,List.getElem?_cons_zero,Option.some.injEq]at e
        subst e
        exact⟨g1,b,vs,rfl,rfl,jf hbm hγ,by rw[hcell,ht],fun ok' may' o' hr=>f0 ok' may' o' hr⟩
      ·rw [Nq,List.getElem?_map,List.getElem?_append_right (by omega)]
       simp[hl]
      ·rw [JK,Addr.fO]
    ·cases h
theorem Uo (TK:aZ P T)(M:aC w may ow s.m)(F:dw w (ay ow s.m) may ow s a):∀(l:List ResultVar) (cs:List lM),iV (l.map (GX T s))=some cs→∃us,F2 (bG w (ay ow s.m) may ow) cs us∧(l.mapM (fun rv:ResultVar=>(match rv with
   | .tmp t=>(pure (a.tmps.getD t undef):Sem Value)
   | .cell x t=>do loadVar t (←asAddr (a.tmps.getD x undef))))).run P w= .ok us w:=by
 have one:∀rv c,GX T s rv=some c→∃u,bG w (ay ow s.m) may ow c u∧(match rv with
   | .tmp t=>(pure (a.tmps.getD t undef):Sem Value)
   | .cell x t=>do loadVar t (←asAddr (a.tmps.getD x undef))).run P w= .ok u w:=by
  intro rv c hc
  cases rv with
  |tmp t=>exact⟨_,cmp?nK (F t) hc,by simp⟩
  |cell x t=>
   simp only[GX]at hc
   split at hc
   case h_2=>cases hc
   rename_i b ag n hb ht
   split at hc
   case h_2=>cases hc
   rename_i bx yN
   obtain⟨hn,hmk⟩:=aG hc
   have hn:=Nat.eq_of_beq_eq_true hn
   obtain⟨ti,hT,hti⟩:=yT ht
   obtain⟨rfl,rfl⟩:=Prod.mk.inj hti
   have hx:=F x
   rw[hb]at hx
   obtain⟨g,hg,hv⟩:=hx
   obtain⟨g',zA,vs,hcell,hF⟩:=M.boxes b bx yN
   obtain rfl:g=g':=Option.some.inj (Option.some.inj (hg.symm.trans zA))
   obtain⟨u,h1,h2⟩:=DX (ad:=⟨g,0,none⟩) TK hT hF hn (fun j u hu=>by
    rw[Addr.fO]
    simp[World.cell?,hcell,hu]) hmk
   refine⟨u,h2,?_⟩
   have h0:a.tmps.getD x undef= .pointer (some ⟨g,0,none⟩):=by rw[hv,Addr.fO]
   simp only[h0]
   simp[asAddr,h1]
 intro l
 induction l with
 |nil=>intro cs h;obtain rfl:=Option.some.inj h;exact⟨[],trivial,by simp⟩
 |cons rv l ih=>
  intro cs h
  simp only[List.map_cons]at h
  cases h1:GX T s rv with
  |none=>rw[h1]at h;simp[iV]at h
  |some c=>
   rw[h1]at h
   simp only[iV]at h
   obtain⟨cs',h2,rfl⟩:=Option.map_eq_some_iff.1 h
   obtain⟨us,h3,h4⟩:=ih cs' h2
   obtain⟨u,h5,h6⟩:=one rv c h1
   refine⟨u::us,⟨h5,h3⟩,?_⟩
   rw[List.mapM_cons]
   simp only[Sem.run_bind,h6,Result.andThen_ok,h4]
   rfl
theorem IV {f:Func}{us:List Value} (h:(f.results.toList.mapM (fun rv:ResultVar=>(match rv with
   | .tmp t=>(pure (a.tmps.getD t undef):Sem Value)
   | .cell x t=>do loadVar t (←asAddr (a.tmps.getD x undef))))).run P w= .ok us w):(results f a.tmps).run P w= .ok (if h:us.toArray.size=1 then us.toArray[0]else .tuple us.toArray) w:=by
 unfold results
 rw[Array.mapM_eq_mapM_toList]
 simp only[Sem.run_bind,Sem.run_map]
 erw [h]
 rfl
theorem ZU {ok:Nat→Prop}{m':Mem}{hd:Hd}{cs:List lM}{u:Value}{us:List Value}(h:pO ow hd u)(hF:F2 (bG w ok may ow) cs us):aS w ok may ow m' (PX (some hd) cs) (if h:(u::us).toArray.size=1 then(u::us).toArray[0]else .tuple (u::us).toArray):=by
 match cs,us,hF with
 |[],[],_=>
  show aS w ok may ow m' hd.sv u
  cases hd with
  |uK=>exact h
  |box b=>obtain⟨g,h1,h2⟩:=h;exact⟨g,h1,by rw[h2,Addr.fO]⟩
 |c::cs,v::us,hF=>exact⟨u,v::us,rfl,h,hF⟩
 |[],_::_,hF=>exact hF.elim
 |_::_,[],hF=>exact hF.elim
theorem Ur (G:Gh)(L:List aT)(gy:Option Bf)(gK:Bool):(sN G L gy gK).1.length=xn gy gK:=by cases gy<;>cases gK<;>rfl
theorem ab9 {AQ G9 V4:List Value}{n:Nat}(h:n=AQ.length):BD n G9 (AQ++G9++V4):=fun i v e=>by
 have hi:=(List.getElem?_eq_some_iff.1 e).1
 rw[h,List.getElem?_append_left (by simp;omega),List.getElem?_append_right (by omega),Nat.add_sub_cancel_left];exact e
theorem ab_ {AQ G9 V4:List Value}{n:Nat}(h:n=AQ.length+G9.length):BD n V4 (AQ++G9++V4):=fun i v e=>by
 rw[h,List.getElem?_append_right (by simp),List.length_append,Nat.add_sub_cancel_left];exact e
end
section
variable {P:Program} {T:dH} {C:ak}
theorem QD {g:FuncId}{f:Func}{q:jH}{code:Code}(TK:aZ P T)(CK:ah P C)(kZ:P.follows .mixedOrders=true)(hf:P.funcs[g]? =some f)(hb:f.body=some code)
  (hd:kU (gQ code)=true) (hn:Nat.ble (xn q.gy q.gK+q.ps.length) f.ntmps=true):Oy P C.aJ g (q.sig C T f):=by
 intro w may ow G d x y s vs hm Dp al5 NJ M0 Wi X9 hy fs
 obtain⟨k,hk⟩:=ZT hy G
 have hn:=Nat.le_of_ble_eq_true hn
 have NJ:q.Vq G d x=some s:=NJ
 let b:Frame:={(default:Frame)with fn:=g,kind:= .normal}
 let a0:Act:={tmps:=vs.toArray++Array.replicate (f.ntmps-vs.toArray.size) undef,defers:=[]}
 have LJ:Frame.enter P g vs.toArray .normal=b.at a0 [.code code]:=by
  simp[Frame.enter,Frame.at,hf,hb,b,a0]
 have al6:∃z,A_ q.mO q.AO (aN 0 (nJ q.gy d)).2.length q.ps x=some z∧s.fr.length=xn q.gy q.gK+z.1.length∧s.m.boxes=(sN G (aN 0 (nJ q.gy d)).1 q.gy q.gK).2.map some∧(∀rc,q.gy=some rc→lookup s.fr 0= .kX 0 rc.pre G.b):=by
  unfold jH.Vq at NJ
  simp only at NJ
  split at NJ
  case h_1=>cases NJ
  rename_i z hz
  obtain rfl:=Option.some.inj NJ
  refine⟨z,hz,?_,rfl,?_⟩
  ·rw [List.length_append,BG]
   rw[Ur]
  ·intro rc e
   have:∀(o:Option Bf) (gK:Bool) (L:List aT) (tl:List (Nat×SV)),o=some rc→lookup ((sN G L o gK).1++tl) 0= .kX 0 rc.pre G.b:=by
    rintro _ gK L tl rfl;cases gK<;>rfl
   exact this _ _ _ _ e
 obtain⟨z0,hz0,hfl,aqI,hl0⟩:=al6
 have aqJ:∀{own fr:Bool} {n:Nat} {rs:List (Bool×K)} {y:eH rs} {q:List lM×List (Option Row)},jh own fr n rs y=some q→q.1.length=rs.length:=by
  intro own fr n rs
  induction rs generalizing n with
  |nil=>intro y q h;simp only[jh]at h;obtain rfl:=Option.some.inj h;rfl
  |cons p rs ih=>
   intro y q h
   simp only[jh]at h
   split at h
   ·rename_i c zz _ hzz
    obtain rfl:=Option.some.inj h
    simp[ih hzz]
   ·cases h
 have hvn:vs.length≤f.ntmps:=by rw[X9,hfl,Zu aqJ hz0];exact hn
 have F0:dw w (ay ow s.m) may ow s a0:=by
  intro t
  show aS _ _ _ _ _ (lookup s.fr t) _
  rcases oz (fr:=s.fr) (t:=t)with h1|h1
  ·rw [h1];trivial
  ·obtain ⟨v,h2,h3⟩:=Wi _ h1
   have:a0.tmps.getD t undef=v:=by
    have dX:=(List.getElem?_eq_some_iff.1 h2).1
    simp only[a0]
    rw[Array.getD_eq_getD_getElem?,Array.getElem?_append_left (by simpa using dX)]
    simp at h2
    simp[h2]
   rw[this];exact h3
 have I0:Inv (ay ow s.m) may f.ntmps w s a0 w ow:=⟨M0,F0,by simp only[a0,Array.size_append,List.size_toArray,Array.size_replicate];omega,rfl,Nat.le_refl _,fun b _ h=>⟨h,rfl⟩,rfl,rfl,rfl⟩
 have hL0:OW C may (ay ow s.m) w:=⟨hm,fun g tb e=>⟨Dp g tb e,al5 g tb e⟩⟩
 have aqK:∀rc,q.gy=some rc→ow.bb[0]? =some (some G.b):=by
  intro rc e
  have:=F0 0
  rw[show s.get 0=lookup s.fr 0 from rfl,hl0 rc e]at this
  exact this.1
 let Post:Act→World→Prop:=fun a w'=>a.defers=[]∧∃v,(results f a.tmps).run P w'= .ok v w'∧∃z aO,q.ext G y=some z∧aC w' may aO z.2∧aS w' (ay aO z.2) may aO z.2 z.1 v∧(∀b,b<s.m.boxes.length→aO.bb[b]? =ow.bb[b]?)∧
   w.heap.size≤w'.heap.size∧(∀b,b<w.heap.size→ay ow s.m b→ay aO z.2 b∧w'.heap[b]? =w.heap[b]?)∧w'.os=w.os∧w'.tape=w.tape∧w'.output=w.output
 have FK:∀s1 a w' jZ,P7 T q f.results.toList s1=some (y,D_ G q.gy)→Inv (ay ow s.m) may f.ntmps w s1 a w' jZ→Post a w':=by
  intro s1 a w' jZ h I
  refine⟨I.defers,?_⟩
  unfold P7 at h
  split at h
  case h_2=>cases h
  rename_i za zb hza hzb
  split at h
  case h_2=>cases h
  rename_i cs sW
  simp only at h
  obtain⟨hc,h⟩:=aG h
  simp only[Bool.and_eq_true,Bool.or_eq_true]at hc
  obtain⟨sQ,hvf,hgv,aqL,aqM⟩:=hc
  obtain⟨m1,V6,M1,K1,hfz,Qo⟩:∃m1,m1=(bif q.own then s1.m else s1.m.aI (aB cs))∧aC w' may jZ m1∧dZ may w' jZ s1.m w' jZ m1∧(q.own=false→∀l∈aB cs,yw m1 l)∧m1.boxes=s1.m.boxes:=by
   cases q.own with
   |true=>exact⟨s1.m,rfl,I.mem,dZ.refl _ _ _ _,(fun e=>by cases e),rfl⟩
   |false=>
    obtain⟨M1,K1⟩:=I.mem.aI (aB cs)
    have hb:∀(ls:List aT) (m:Mem),(m.aI ls).boxes=m.boxes:=by
     intro ls
     induction ls with
     |nil=>intro m;rfl
     |cons l ls ih=>intro m;show((m.freeze l).aI ls).boxes=_;rw[ih];cases l<;>rfl
    exact⟨_,rfl,M1,K1,fun _=>lY _ _,hb _ _⟩
  simp only[←V6]at h hvf hgv
  split at h
  case h_2=>cases h
  rename_i dd nv yy hdd hnv hyy
  have h:=Option.some.inj h
  have hy0:(nv,yy,dd)=y:=congrArg Prod.fst h
  have hgh:za.2.2=D_ G q.gy:=congrArg Prod.snd h
  subst hy0
  obtain⟨us,hus,vW⟩:=Uo TK I.mem I.fr zb.2.2 cs sW
  have aja:F2 (bG w' (ay jZ m1) may jZ) cs us:=hus.imp fun _ _ h=>bG.aW K1.stay K1.rv h
  rw[List.all_append,List.all_append,Bool.and_eq_true,Bool.and_eq_true]at hgv
  obtain⟨AQ,zM,bb0,md0,hi0,QE,ajc,aqP,ahP⟩:=afM (gK:=q.gK) (a:=a) M1 Qo hza hdd hgv.1 hgh (I.fr 0)
  obtain⟨G9,G_,bb1,md1,yx,afO,avD,X_,yC⟩:=afN M1 Qo I.fr (aN 0 (nJ q.gy dd)).2.length hzb hnv hgv.2.1
  obtain⟨cs',acd,V4,V5,ht2,md2,JI,Sl⟩:=Ld M1 ((aN 0 (nJ q.gy dd)).2.length+(aN (aN 0 (nJ q.gy dd)).2.length (vP q.nw nv)).2.length) sQ aja hyy (fun e=>by have:=hgv.2.2;rw[e]at this;exact this) (fun e=>⟨hfz e,by rcases hvf with h|h;rw[e]at h;cases h;exact h⟩)
  generalize hE:(sN G (aN 0 (nJ q.gy dd)).1 q.gy q.gK).2=e1 at QE ahP
  have afO:=afO e1.length
  have X_:=X_ e1.length
  have yC:(q.nw=none∧f.results.toList=zb.2.2∧(pK e1.length (aN (aN 0 (nJ q.gy dd)).2.length (vP q.nw nv)).1 q.nw nv).1=none)∨∃t u,f.results.toList= .tmp t::zb.2.2∧a.tmps.getD t undef=u∧∀(o':Ow),o'.bb=(bb0++bb1).map some→∃hd,(pK e1.length (aN (aN 0 (nJ q.gy dd)).2.length (vP q.nw nv)).1 q.nw nv).1=some hd∧pO o' hd u:=by
   rcases yC with⟨k1,k2,k3⟩|⟨t,u,k1,k2,k3⟩
   ·exact .inl ⟨k1,k2,k3 _⟩
   ·exact .inr ⟨t,u,k1,k2,fun o' ho=>k3 e1.length bb0 o' QE ho⟩
  have abK:q.ext G (nv,yy,dd)=some (PX (pK e1.length (aN (aN 0 (nJ q.gy dd)).2.length (vP q.nw nv)).1 q.nw nv).1 cs',⟨(aN 0 (nJ q.gy dd)).2++(aN (aN 0 (nJ q.gy dd)).2.length (vP q.nw nv)).2++acd,(e1++(pK e1.length (aN (aN 0 (nJ q.gy dd)).2.length (vP q.nw nv)).1 q.nw nv).2).map some⟩):=by
   unfold jH.ext
   simp only[ht2,hE]
  have aqQ:∀(i:Nat) (row:Row),(⟨(aN 0 (nJ q.gy dd)).2++(aN (aN 0 (nJ q.gy dd)).2.length (vP q.nw nv)).2++acd,[]⟩:Mem).row? i=some row→row.fr=true:=E8 (E8 (qF _ _) (qF _ _)) (fun i row e=>(EW ht2 i row e).1)
  have aqR:=md0.len
  have aqS:=md1.len
  generalize hhx:pK e1.length (aN (aN 0 (nJ q.gy dd)).2.length (vP q.nw nv)).1 q.nw nv=hx at afO X_ yC abK
  clear hhx hE ht2
  have E_:(zM++G_++V5).filterMap id=nC (za.1++(zb.1++bif q.own then aB cs else[])):=by
   rw[List.filterMap_append,List.filterMap_append,hi0,yx,JI,o8,o8,List.append_assoc]
   cases q.own<;>rfl
  have hmm:∀b,((∃r,r∈(zM++G_++V5).filterMap id∧eG jZ m1 (.row r)=some b)∨∃q',q'∈za.2.1.toList++zb.2.1.toList∧eG jZ m1 (.box q')=some b)→may b:=by
   rintro b (⟨r,_,h⟩|⟨r,_,h⟩)<;>exact(M1.fH _ _ h).1
  obtain⟨M2,abL,_⟩:=assemble (may':=may) M1 (fun b _ h=>h) ((md0.append md1).append md2) aqQ (by rw[E_];exact aqL) (boxes:=e1++hx.2) (bb:=bb0++bb1) (bids:=za.2.1.toList++zb.2.1.toList) aqM
   (by rw[List.length_append,List.length_append,QE,afO])
   (fun i bx e=>by
    by_cases hi:i<e1.length
    ·rw [List.getElem?_append_left hi]at e
     obtain⟨g',b',vs',h1,h2,h3,h4,h5⟩:=ahP i bx e
     refine⟨g',b',vs',?_,?_,h3,h4,fun ok' _=>h5 ok' may _ ?_⟩
     ·rw [List.getElem?_append_left (by rw[QE];exact hi)];exact h1
     ·rw [List.getElem?_append_left (by rw[ajc,QE];exact hi)];exact h2
     ·intro i v hv
      rw[Nat.zero_add,List.append_assoc,List.getElem?_append_left (List.getElem?_eq_some_iff.1 hv).1];exact hv
    ·rw [List.getElem?_append_right (by omega)]at e
     obtain⟨g',b',vs',h1,h2,h3,h4,h5⟩:=X_ (i-e1.length) bx e
     refine⟨g',b',vs',?_,?_,h3,h4,fun ok' _=>h5 ok' may _ (ab9 md0.len.symm)⟩
     ·rw [List.getElem?_append_right (by rw[QE];omega),QE];exact h1
     ·rw [List.getElem?_append_right (by rw[ajc,QE];omega),ajc,QE];exact h2) hmm
  generalize hmo:(⟨(aN 0 (nJ q.gy dd)).2++(aN (aN 0 (nJ q.gy dd)).2.length (vP q.nw nv)).2++acd,(e1++hx.2).map some⟩:Mem)=mo at abK M2 abL
  have al7:=Sl (ay ⟨AQ++G9++V4,(bb0++bb1).map some⟩ mo) may ⟨AQ++G9++V4,(bb0++bb1).map some⟩ (fun b h1 h2=>⟨abL b h1,h2⟩) (ab_ (by rw[aqR,aqS]))
  obtain⟨v,JK,Jq⟩:∃v,(results f a.tmps).run P w'= .ok v w'∧aS w' (ay ⟨AQ++G9++V4,(bb0++bb1).map some⟩ mo) may ⟨AQ++G9++V4,(bb0++bb1).map some⟩ mo (PX hx.1 cs') v:=by
   rcases yC with⟨_,hl,Qc⟩|⟨t,u,hl,htu,Qc⟩
   ·rw [←hl]at vW
    refine⟨_,IV vW,?_⟩
    rw[Qc]
    exact FN al7
   ·obtain ⟨hd',k1,k2⟩:=Qc ⟨AQ++G9++V4,(bb0++bb1).map some⟩ rfl
    have abk:(f.results.toList.mapM (fun rv:ResultVar=>(match rv with
     | .tmp t=>(pure (a.tmps.getD t undef):Sem Value)
     | .cell x t=>do loadVar t (←asAddr (a.tmps.getD x undef))))).run P w'= .ok (u::us) w':=by
     rw[hl,List.mapM_cons]
     have h0:(pure (a.tmps.getD t undef):Sem Value).run P w'= .ok u w':=by simp[htu]
     simp only[Sem.run_bind,h0,Result.andThen_ok]
     erw [vW]
     rfl
    refine⟨_,IV abk,?_⟩
    rw[k1]
    exact ZU k2 al7
  refine⟨v,JK,_,_,abK,M2,Jq,fun b hb=> ?_,I.base.size,fun b hb lU=> ?_,I.base.os,I.base.tape,I.base.output⟩
  ·rw [aqI,List.length_map]at hb
   have Zx:q.gy=none∨∃rc,q.gy=some rc:=by
    generalize q.gy=o
    cases o with
    |none=>exact .inl rfl
    |some rc=>exact .inr ⟨rc,rfl⟩
   rcases Zx with hr|⟨rc,hr⟩
   ·have:∀(o:Option Bf) (L:List aT),o=none→(sN G L o q.gK).2.length=0:=by
     rintro _ L rfl;cases q.gK<;>rfl
    rw[this _ _ hr]at hb
    omega
   ·have:∀(o:Option Bf) (L:List aT),o=some rc→(sN G L o q.gK).2.length=1:=by
     rintro _ L rfl;cases q.gK<;>rfl
    rw[this _ _ hr]at hb
    obtain rfl:b=0:=by omega
    rw[aqK rc hr,aqP rc hr]
    rfl
  ·obtain ⟨h1,h2⟩:=I.base.frame b hb lU
   exact⟨abL b (K1.stay b (Nat.lt_of_lt_of_le hb I.base.size) h1).1,h2⟩
 have Un:Fits (Func.lN f) code []:=QB hd fun j z hz=>by simp[Func.lN,hb,hz]
 have hE:Ends P b fs Post [.code code] a0 w:=by
  unfold IC at hk
  rw[NJ,Option.bind_some]at hk
  have he:entry f=[.code code]:=by simp[entry,hb]
  rw[he]at hk
  exact XZ TK CK kZ hL0 (fun j s a w' ow hf' h I=>FM TK CK kZ hL0 FK k j s a w' ow hf' h I) FK _ _ _ _ _ _ ⟨Un,trivial⟩ hk I0
 obtain⟨todo,a',w',EO,ab6,v,yC,z,aO,h1,h2⟩:=hE
 rw[LJ]
 exact⟨.returned v,w',{b.at a' todo with mode:= .returning},⟨v,z,aO,rfl,h1,h2⟩,EO,rfl,rfl,ab6,rfl,f,hf,yC⟩
theorem ajd {g:FuncId}{f:Func}{q:jH}(TK:aZ P T)(CK:ah P C)(kZ:P.follows .mixedOrders=true)(hf:P.funcs[g]? =some f)(hb:f.body.isSome=true)
  (hd:kU (gQ (f.body.get hb))=true) (hn:Nat.ble (xn q.gy q.gK+q.ps.length) f.ntmps=true) (XY:(f.name== "runtime.NumGoroutine")=false):Oz P C.aJ g (q.sig C T f):=
 ⟨⟨f,hf,XY,by rw[(Option.some_get hb).symm];rfl⟩,QD TK CK kZ hf (Option.some_get hb).symm hd hn⟩
end
section
variable {P:Program}
theorem Us {t:TypeId}(hu:P.underlying t=some (.int .i64))(a b:Int)(w:World)(d:Nat):(Op.equalIn (d+1) t (.int .i64 a) (.int .i64 b)).run P w= .ok (a==b) w:=by
 rw[Op.equalIn,Sem.run_bind,run_underlying hu,Result.andThen_ok]
 simp
theorem Zj.of2 {t:TypeId}{f0 f1:Field}(hu:P.underlying t=some (.struct #[f0,f1]))(hs:P.stoodInHeld t=false)(hg:P.eqGuardType P.depth t=false)(h0:P.underlying f0.type=some (.int .i64))(h1:P.underlying f1.type=some (.int .i64))
  (n0:(f0.name== "_")=false) (n1:(f1.name== "_")=false) (o0:f0.offset=0) (o1:f1.offset=1) (s0:∀w,(sizeOf f0.type).run P w= .ok 1 w) (s1:∀w,(sizeOf f1.type).run P w= .ok 1 w) (a0:∀w,(isAgg f0.type).run P w= .ok false w) (a1:∀w,(isAgg f1.type).run P w= .ok false w):Zj P t 2:=by
 intro w op x y xs ys hx hy NR
 match xs,ys,hx,hy with
 |[a,b],[c,d],_,_=>
 have n0':f0.name≠ "_" :=by simpa using n0
 have n1':f1.name≠ "_" :=by simpa using n1
 have he:(Op.equal t (.agg #[.int .i64 a,.int .i64 b]) (.agg #[.int .i64 c,.int .i64 d])).run P w= .ok ([a,b]==[c,d]) w:=by
  show(Op.equalIn (9999+1) t _ _).run P w=_
  rw[Op.equalIn,Sem.run_bind,run_underlying hu,Result.andThen_ok]
  have e1:=Us h0 a c w 9998
  have e2:=Us h1 b d w 9998
  simp[hs,n0',n1',o0,o1,part,s0,s1,a0,a1,e1,e2]
  by_cases k1:a=c<;>by_cases k2:b=d<;>simp[k1,k2]
 rcases NR with rfl|rfl
 ·simp [eqGuard,hg,binOp,he]
 ·simp [eqGuard,hg,binOp,he]
end
def ace:Value→Value→Bool
 | .int k a,.int k' b=>decide (k=k')&&a==b
 | .bool a,.bool b=>a==b
 | .string a,.string b=>decide (a=b)
 | .slice none 0 0,.slice none 0 0=>true
 | .nilFunc,.nilFunc=>true
 | .pointer none,.pointer none=>true
 |_,_=>false
theorem acf {a b:Value}(h:ace a b=true):a=b:=by
 unfold ace at h
 split at h<;>simp_all
def QF:List Value→List Value→Bool
 |[],[]=>true
 |a::r,b::q=>ace a b&&QF r q
 |_,_=>false
theorem OZ:∀{a b:List Value},QF a b=true→a=b
 |[],[],_=>rfl
 |a::r,b::q,h=>by
  simp only[QF,Bool.and_eq_true]at h
  rw[acf h.1,OZ h.2]
 |[],_::_,h=>by cases h
 |_::_,[],h=>by cases h
def al8 (T:dH)(f:Field)(p:Nat×TypeId):Bool:=Nat.beq f.offset p.1&&Nat.beq f.type p.2&&match T p.2 with
 |some fi=>Nat.blt 0 fi.k.n
 |none=>false
def Ya (T:dH):List Field→List (Nat×TypeId)→Bool
 |[],[]=>true
 |f::r,p::q=>al8 T f p&&Ya T r q
 |_,_=>false
theorem LY {T:dH}:∀{F:List Field} {fs:List (Nat×TypeId)},Ya T F fs=true→F.length=fs.length∧∀(i o:Nat) (ft:TypeId),fs[i]? =some (o,ft)→∃f:Field,F[i]? =some f∧f.offset=o∧f.type=ft∧∃fi,T ft=some fi∧0<fi.k.n
 |[],[],_=>⟨rfl,fun i o ft h=>by simp at h⟩
 |f::r,p::q,h=>by
  simp only[Ya,Bool.and_eq_true]at h
  obtain⟨h1,h2⟩:=LY h.2
  refine⟨by simp[h1],fun i o ft e=> ?_⟩
  cases i with
  |succ i=>simpa using h2 i o ft (by simpa using e)
  |zero=>
   simp only[List.getElem?_cons_zero,Option.some.injEq]at e
   subst e
   have h:=h.1
   simp only[al8,Bool.and_eq_true]at h
   refine⟨f,by simp,Nat.eq_of_beq_eq_true h.1.1,Nat.eq_of_beq_eq_true h.1.2,?_⟩
   have h:=h.2
   cases hT:T ft with
   |none=>rw[hT]at h;cases h
   |some fi=>rw[hT]at h;exact⟨fi,rfl,Nat.le_of_ble_eq_true h⟩
 |[],_::_,h=>by cases h
 |_::_,[],h=>by cases h
def ahQ (T:dH)(k:K):TD→Option TypeDesc→Bool
 | .int q,some (.int q')=>decide (q=q')&&decide (k= .int q')
 | .bool,some .bool=>decide (k= .bool)
 | .str,some .string=>decide (k= .str)
 | .sl e,some (.slice e')=>Nat.beq e e'&&match T e' with
  |some ei=>decide (k= .sl e' ei.k)&&Nat.blt 0 ei.k.n
  |none=>false
 | .struct fs,some (.struct F)=>Ya T F.toList fs
 | .ptr,some (.pointer _)=>true
 | .other,_=>true
 |_,_=>false
def al9 (P:Program)(T:dH)(t:TypeId)(ti:TI):Bool:=(T t).isNone&&(match P.info? t with
 |some i=>Nat.beq i.size ti.k.n&&Nat.beq i.bytes ti.bytes&&match i.zero with
  |some z=>QF z.cells.toList (zeroCells ti.k)
  |none=>false
 |none=>false)&&(match P.underlying t with
 |some d=>aa6 d==ti.agg
 |none=>false)&&ahQ T ti.k ti.d (P.underlying t)
theorem mW {P:Program}{T:dH}{t:TypeId}{ti:TI}(h:al9 P T t ti=true)(hT:aZ P T):aZ P (dH.cons t ti T):=by
 simp only[al9,Bool.and_eq_true]at h
 obtain⟨⟨⟨h1,h2⟩,h3⟩,h4⟩:=h
 refine aZ.cons (by simpa using h1) ⟨?_,?_,?_⟩ hT
 ·split at h2
  ·rename_i i hi
   simp only[Bool.and_eq_true]at h2
   obtain⟨⟨h5,h6⟩,h7⟩:=h2
   split at h7
   ·rename_i z hz
    exact⟨i,hi,Nat.eq_of_beq_eq_true h5,Nat.eq_of_beq_eq_true h6,z,hz,OZ h7⟩
   ·cases h7
  ·cases h2
 ·split at h3
  ·rename_i d hd;exact⟨d,hd,by simpa using h3⟩
  ·cases h3
 ·obtain ⟨d,k,ag,by'⟩:=ti
  simp only at h4⊢
  generalize hu:P.underlying t=u at h4
  unfold ahQ at h4
  split at h4<;>try (cases h4;done)
  ·simp at h4;obtain⟨rfl,rfl⟩:=h4;exact⟨rfl,rfl⟩
  ·simp at h4;subst h4;exact⟨rfl,rfl⟩
  ·simp at h4;subst h4;exact⟨rfl,rfl⟩
  ·rename_i e e'
   simp only[Bool.and_eq_true]at h4
   have:=Nat.eq_of_beq_eq_true h4.1
   subst this
   have h:=h4.2
   cases hT:T e with
   |none=>rw[hT]at h;cases h
   |some ei=>
    rw[hT]at h
    simp only[Bool.and_eq_true,decide_eq_true_eq]at h
    exact⟨rfl,ei,hT,h.1,Nat.le_of_ble_eq_true h.2⟩
  ·rename_i fs F
   obtain⟨h5,h6⟩:=LY h4
   exact⟨F,rfl,by simpa using h5,fun i o ft e=>by simpa using h6 i o ft e⟩
  ·exact ⟨_,rfl⟩
  ·trivial
end Go.Fx

namespace Go.Fx
open Go Go.RowKit Go.ChangeShapes Go.WideShapes Go.ChangeAt
def WT (P:Program)(r:TypeId→K→Bool):List Field→Nat→K→Bool
 |[],_,.unit=>true
 |[f],o,k=>Nat.beq f.offset o&&(Nat.beq (P.cellsOf f.type) k.n&&r f.type k)
 |f::g::fs,o,.prod a b=>Nat.beq f.offset o&&(Nat.beq (P.cellsOf f.type) a.n&&(r f.type a&&WT P r (g::fs) (o+a.n) b))
 |_,_,_=>false
def Ut (P:Program)(m:Nat)(e:TypeId):List Field:=(List.range m).map fun i=>{name:= "",type:=e,offset:=i*P.cellsOf e,embedded:=false,tag:= "",pkgPath:= "",byteOffset:=0}
def shp (P:Program):Nat→TypeId→K→Bool
 |0,_,_=>false
 |n+1,t,k=>match P.underlying t with
  |some (.int q)=>(match k with| .int q'=>decide (q=q')|_=>false)
  |some .bool=>(match k with| .bool=>true|_=>false)
  |some .string=>(match k with| .str=>true|_=>false)
  |some (.slice e)=>(match k with| .sl e' k'=>Nat.beq e e'&&(Nat.beq (P.cellsOf e) k'.n&&(Nat.blt 0 k'.n&&shp P n e k'))|_=>false)
  |some (.struct fs)=>Nat.beq (P.cellsOf t) k.n&&WT P (shp P n) fs.toList 0 k
  |some (.array m e)=>Nat.beq (P.cellsOf t) k.n&&WT P (shp P n) (Ut P m e) 0 k
  |_=>false
def K.wf:(k:K)→k.T→Prop
 | .int q,x=>(Lit.int q x).wf=true
 | .str,s=>s.size≤maxLen
 | .sl _ k,xs=>∀x:k.T,List.Mem x xs→k.wf x
 | .prod a b,x=>a.wf x.1∧b.wf x.2
 |_,_=>True
def K.bulk:(k:K)→k.T→Nat
 | .int _,_=>1
 | .bool,_=>1
 | .str,s=>s.size+1
 | .sl _ k,xs=>((xs:List k.T).map k.bulk).sum+1
 | .prod a b,x=>a.bulk x.1+b.bulk x.2
 |_,_=>0
def K.fits (bt:TypeId→Nat)(R:Nat):(k:K)→k.T→Prop
 | .str,s=>s.size≤R
 | .sl e k,xs=>List.length (α:=k.T) xs*bt e≤R∧∀x:k.T,List.Mem x xs→k.fits bt R x
 | .prod a b,x=>a.fits bt R x.1∧b.fits bt R x.2
 |_,_=>True
structure WU {H:Type} (bk:DataW H→Nat):Prop where
 lit:∀l,1≤bk (.lit l)
 str:∀s:List UInt8,s.length+1≤bk (.lit (.string s))
 nil:1≤bk .nil
 sl:∀a b,(a.map bk).sum+1≤bk (.slice a b)
 agg:∀p,(p.map bk).sum≤bk (.agg p)
theorem pick {α:Type}{Q:Nat→α→Prop}:∀(n:Nat),(∀i,i<n→∃y,Q i y)→∃ys:List α,ys.length=n∧∀i y,ys[i]? =some y→Q i y
 |0,_=>⟨[],rfl,fun i y h=>by cases h⟩
 |n+1,h=>by
  obtain⟨ys,hl,hq⟩:=pick n fun i hi=>h i (by omega)
  obtain⟨y,hy⟩:=h n (by omega)
  refine⟨ys++[y],by simp[hl],fun i z hz=> ?_⟩
  rw[List.getElem?_append]at hz
  split at hz
  ·exact hq i z hz
  ·rename_i hi
   have:i-ys.length=0:=by
    rcases Nat.eq_zero_or_pos (i-ys.length)with h0|h0
    ·exact h0
    ·rw [List.getElem?_eq_none (by simp;omega)]at hz;cases hz
   rw[this]at hz
   simp at hz
   subst hz
   have:i=n:=by omega
   rw[this];exact hy
theorem Yb {α β:Type}{f:α→Nat}{g:β→Nat}:∀(xs:List α) (ys:List β),xs.length=ys.length→(∀(i:Nat) (x:α) (y:β),xs[i]? =some x→ys[i]? =some y→f x≤g y)→(xs.map f).sum≤(ys.map g).sum
 |[],[],_,_=>Nat.le_refl _
 |x::xs,y::ys,hl,h=>by
  have h1:=h 0 x y rfl rfl
  have h2:=Yb xs ys (by simpa using hl) fun i x y hx hy=>h (i+1) x y (by simpa using hx) (by simpa using hy)
  simp only[List.map_cons,List.sum_cons]
  omega
 |[],_::_,hl,_=>by simp at hl
 |_::_,[],hl,_=>by simp at hl
section
variable {H:Type} {enc:TypeId×Value→H} {P:Program} {W:World}
theorem cells?_at {base n:Nat}{a:Addr}{cs:List Value}(h:W.cells? base a n=some cs):cs.length=n∧∀j v,cs[j]? =some v→W.cell? (a.add j)=some v:=by
 unfold World.cells? at h
 split at h
 ·have hl:=mapM_some_length h
  refine⟨by simpa using hl,fun j v hv=> ?_⟩
  have hj:=(List.getElem?_eq_some_iff.1 hv).1
  have hj':j<n:=by simp at hl;omega
  have:=mapM_some_get h j j (by simp[hj'])
  rw[this];exact hv
 ·cases h
theorem Az {e:TypeId}{d:DataW H}{m:Nat}:∀{l:List (DataW H)},d∈l→m∈DataW.weights P e d→m∈DataW.weightsAll P e l
 |x::l,hd,hm=>by
  simp only[DataW.weightsAll,List.mem_append]
  rcases List.mem_cons.1 hd with rfl|h
  ·exact .inl hm
  ·exact .inr (Az h hm)
 |[],hd,_=>by cases hd
theorem yZ {e:TypeId}{m:Nat}:∀{ts:List TypeId} {l:List (DataW H)},(∀t∈ts,t=e)→m∈DataW.weightsEach P ts l→m∈DataW.weightsAll P e l
 |[],l,_,hm=>by cases l<;>simp[DataW.weightsEach]at hm
 |t::ts,[],_,hm=>by simp[DataW.weightsEach]at hm
 |t::ts,x::l,h,hm=>by
  simp only[DataW.weightsEach,DataW.weightsAll,List.mem_append]at hm⊢
  rcases hm with hm|hm
  ·left;rw[←h t List.mem_cons_self];exact hm
  ·exact .inr (yZ (fun t ht=>h t (List.mem_cons_of_mem _ ht)) hm)
theorem QG {r:TypeId→K→Bool}{base:Nat}{held:Bool}{cs:List Value}{n:Nat}
  (ih:∀{t:TypeId} {k:K} {cs:List Value} {x:DataW H×List MemPlace},r t k=true→DataW.trod enc P W base (fun _=>true) held n t cs=some x→∃y:k.T,Rd W (fun _=>True) k y cs∧k.wf y∧(∀bk:DataW H→Nat,WU bk→k.bulk y≤bk x.1)∧∀R,(∀m∈DataW.weights P t x.1,m≤R)→k.fits P.bytesOf R y):
  ∀(fs:List Field) (xs:List (DataW H×List MemPlace)) (o:Nat) (k:K),WT P r fs o k=true→xs.length=fs.length→cs.length=o+k.n→
   (∀(i:Nat) (f:Field),fs[i]? =some f→DataW.trod enc P W base (fun _=>true) held n f.type ((cs.drop f.offset).take (P.cellsOf f.type))=xs[i]?)→
   ∃y:k.T,Rd W (fun _=>True) k y (cs.drop o)∧k.wf y∧(∀bk:DataW H→Nat,WU bk→k.bulk y≤(xs.map fun x=>bk x.1).sum)∧∀R,(∀m∈DataW.weightsEach P (fs.map (·.type)) (xs.map (·.1)),m≤R)→k.fits P.bytesOf R y
 |[],xs,o,k,hs,hl,hc,hx=>by
  cases k<;>simp[WT]at hs
  refine⟨(),?_,trivial,fun _ _=>Nat.zero_le _,fun _ _=>trivial⟩
  show cs.drop o=[]
  rw[List.drop_eq_nil_iff]
  simp[K.n]at hc;omega
 |[f],xs,o,k,hs,hl,hc,hx=>by
  have hs:(Nat.beq f.offset o&&(Nat.beq (P.cellsOf f.type) k.n&&r f.type k))=true:=by cases k<;>exact hs
  simp only[Bool.and_eq_true]at hs
  obtain⟨h1,h2,h3⟩:=hs
  have h1:=Nat.eq_of_beq_eq_true h1
  have h2:=Nat.eq_of_beq_eq_true h2
  match xs,hl with
  |[x],_=>
   have hx:=hx 0 f rfl
   obtain⟨y,hr,hw,hb,hf⟩:=ih h3 hx
   rw[h1,h2]at hr
   have e:(cs.drop o).take k.n=cs.drop o:=List.take_of_length_le (by rw[List.length_drop];omega)
   rw[e]at hr
   exact⟨y,hr,hw,fun bk B=>by simpa using hb bk B,fun R hR=>hf R fun m hm=>hR m (by simp[DataW.weightsEach,hm])⟩
 |f::g::fs,xs,o,k,hs,hl,hc,hx=>by
  cases k with
  |prod a b=>
   have hs:(Nat.beq f.offset o&&(Nat.beq (P.cellsOf f.type) a.n&&(r f.type a&&WT P r (g::fs) (o+a.n) b)))=true:=hs
   simp only[Bool.and_eq_true]at hs
   obtain⟨h1,h2,h3,h4⟩:=hs
   have h1:=Nat.eq_of_beq_eq_true h1
   have h2:=Nat.eq_of_beq_eq_true h2
   match xs,hl with
   |x::xs,hl=>
    have hx0:=hx 0 f rfl
    obtain⟨y,hr,hw,hb,hf⟩:=ih h3 hx0
    rw[h1,h2]at hr
    obtain⟨z,Sl,hw2,Qa,hf2⟩:=QG (cs:=cs) ih (g::fs) xs (o+a.n) b h4 (by simpa using hl) (by have hc:cs.length=o+(a.n+b.n):=hc;omega) fun i f hf=>by
     have:=hx (i+1) f (by simpa using hf)
     simpa using this
    refine⟨(y,z),⟨_,_,(List.take_append_drop a.n (cs.drop o)).symm,hr,?_⟩,⟨hw,hw2⟩,fun bk B=> ?_,fun R hR=>⟨hf R fun m hm=>hR m (by simp[DataW.weightsEach,hm]),hf2 R fun m hm=>hR m (by simp only[List.map_cons,DataW.weightsEach,List.mem_append];exact Or.inr (by simpa using hm))⟩⟩
    ·rw [List.drop_drop];exact Sl
    ·simp only[List.map_cons,List.sum_cons]
     show a.bulk y+b.bulk z≤_
     have:=hb bk B;have:=Qa bk B
     omega
  |_=>simp[WT]at hs
theorem Yc {base:Nat}{held:Bool}:∀(N:Nat) {t:TypeId} {k:K} {fuel:Nat} {cs:List Value} {x:DataW H×List MemPlace},
  shp P N t k=true→DataW.trod enc P W base (fun _=>true) held fuel t cs=some x→∃y:k.T,Rd W (fun _=>True) k y cs∧k.wf y∧(∀bk:DataW H→Nat,WU bk→k.bulk y≤bk x.1)∧∀R,(∀m∈DataW.weights P t x.1,m≤R)→k.fits P.bytesOf R y
 |0,t,k,fuel,cs,x,hs,h=>by cases hs
 |N+1,t,k,fuel,cs,x,hs,h=>by
  have ih:= @Yc base held N
  unfold shp at hs
  split at hs
  ·rename_i q hu
   split at hs
   ·rename_i q'
    have:=of_decide_eq_true hs
    subst this
    obtain⟨n,rfl,rfl,hw⟩:=DataW.trod_int hu h
    exact⟨n,rfl,hw,fun bk B=>B.lit _,fun _ _=>trivial⟩
   ·cases hs
  ·rename_i hu
   split at hs
   ·obtain ⟨b,rfl,rfl⟩:=DataW.trod_bool hu h
    exact⟨b,rfl,trivial,fun bk B=>B.lit _,fun _ _=>trivial⟩
   ·cases hs
  ·rename_i hu
   split at hs
   ·obtain ⟨s,rfl,rfl,hw⟩:=DataW.trod_string hu h
    refine⟨s,rfl,hw,fun bk B=> ?_,fun R hR=> ?_⟩
    ·have:=B.str s.data.toList
     rwa[Array.length_toList]at this
    ·have:=hR s.data.toList.length (by simp[DataW.weights])
     rwa[Array.length_toList]at this
   ·cases hs
  ·rename_i e hu
   split at hs
   ·rename_i e' k'
    simp only[Bool.and_eq_true]at hs
    obtain⟨h1,h2,h3,h4⟩:=hs
    have h1:=Nat.eq_of_beq_eq_true h1
    have h2:=Nat.eq_of_beq_eq_true h2
    have h3:0<k'.n:=Nat.le_of_ble_eq_true h3
    subst h1
    rcases DataW.trod_slice hu h with⟨rfl,rfl⟩|⟨a,len,cap,elems,rest,n,rfl,rfl,rfl,hb,hlc,hcm,KR,hat,-,-⟩
    ·have w0:∀x:k'.T,List.Mem x []→k'.wf x:=fun x hx=>by cases hx
     have b0:∀bk:DataW H→Nat,WU bk→(K.sl e k').bulk ([]:List k'.T)≤bk .nil:=by intro bk B;have:=B.nil;simpa[K.bulk]using this
     exact⟨[],⟨none,0,rfl,Nat.le_refl _,fun i x hx=>by cases i<;>cases hx⟩,w0,b0,fun R _=>⟨by show 0*_≤R;omega,(fun x hx=>by cases hx)⟩⟩
    ·have key:∀i,i<len→∃y:k'.T,(∃es:List Value,Rd W (fun _=>True) k' y es∧es.length=k'.n∧∀j v,es[j]? =some v→W.cell? (a.add (i*k'.n+j))=some v)∧k'.wf y∧∀z,elems[i]? =some z→(∀bk:DataW H→Nat,WU bk→k'.bulk y≤bk z.1)∧∀R,(∀m∈DataW.weights P e z.1,m≤R)→k'.fits P.bytesOf R y:=by
      intro i hi
      have g:=hat i hi
      have Ns:i<elems.length:=by omega
      rw[List.getElem?_eq_getElem Ns]at g
      obtain⟨es,hes,ht⟩:=Option.bind_eq_some_iff.1 g
      obtain⟨y,hr,hw,hbk⟩:=ih h4 ht
      obtain⟨c1,c2⟩:=cells?_at hes
      refine⟨y,⟨es,hr,by rw[c1,h2],fun j v hv=> ?_⟩,hw,fun z hz=> ?_⟩
      ·have:=c2 j v hv
       rw[Addr.nT]at this
       rw[←h2];exact this
      ·rw [List.getElem?_eq_getElem Ns]at hz
       have:=Option.some.inj hz
       subst this;exact hbk
     obtain⟨ys,hl,hq⟩:=pick len key
     refine⟨ys,⟨some a,cap,by rw[show ys.length=len from hl],by rw[show ys.length=len from hl];exact hlc,fun i y hy=> ?_⟩,fun y hy=> ?_,fun bk B=> ?_,fun R hR=> ?_⟩
     ·obtain ⟨⟨es,hr,hle,hc⟩,-,-⟩:=hq i y hy
      have dX:a.block<W.heap.size:=by
       have:=hc 0 es[0] (List.getElem?_eq_getElem (by omega))
       have:=DW this
       rwa[Addr.gU]at this
      exact⟨a,es,rfl,dX,trivial,hr,hc⟩
     ·obtain ⟨i,hi,rfl⟩:=List.getElem_of_mem hy
      exact(hq i _ (List.getElem?_eq_getElem hi)).2.1
     ·have h5:=Yb (f:=k'.bulk) (g:=fun z:DataW H×List MemPlace=>bk z.1) ys elems (by rw[hl,KR]) fun i y z hy hz=>((hq i y hy).2.2 z hz).1 bk B
      have h6:=B.sl (elems.map (·.1)) (rest.map (·.1))
      rw[List.map_map]at h6
      show(ys.map k'.bulk).sum+1≤_
      exact Nat.le_trans (Nat.succ_le_succ h5) h6
     ·have hW:DataW.weights P t (.slice (elems.map (·.1)) (rest.map (·.1)))=((elems.map (·.1)).length+(rest.map (·.1)).length)*P.bytesOf e::(DataW.weightsAll P e (elems.map (·.1))++DataW.weightsAll P e (rest.map (·.1))):=by
       simp only[DataW.weights,hu]
      rw[hW]at hR
      refine⟨?_,fun y hy=> ?_⟩
      ·have:=hR _ (List.mem_cons_self ..)
       refine Nat.le_trans (Nat.mul_le_mul_right _ ?_) this
       show ys.length≤_
       rw[List.length_map];omega
      ·obtain ⟨i,hi,rfl⟩:=List.getElem_of_mem hy
       have Ns:i<elems.length:=by omega
       refine((hq i _ (List.getElem?_eq_getElem hi)).2.2 _ (List.getElem?_eq_getElem Ns)).2 R fun m hm=>hR m (List.mem_cons_of_mem _ (List.mem_append_left _ ?_))
       exact Az (List.mem_map.2 ⟨_,List.getElem_mem Ns,rfl⟩) hm
   ·cases hs
  ·rename_i fs hu
   simp only[Bool.and_eq_true]at hs
   have h1:=Nat.eq_of_beq_eq_true hs.1
   obtain⟨xs,n,rfl,rfl,Hz,Jo,hx⟩:=DataW.trod_struct hu h
   obtain⟨y,hr,hw,hb,hft⟩:=QG (n:=n) (cs:=cs) (fun {t} {k} {cs} {x} h1 h2=>ih h1 h2) fs.toList xs 0 k hs.2 (by simpa using Jo) (by rw[Hz,h1];omega) fun i f hf=>hx i f (by simpa using hf)
   refine⟨y,by simpa using hr,hw,fun bk B=>Nat.le_trans (hb bk B) ?_,fun R hR=>hft R fun m hm=>hR m ?_⟩
   rotate_left
   ·simp only[DataW.weights,hu];exact hm
   have:=B.agg (xs.map (·.1))
   rw[List.map_map]at this
   exact this
  ·rename_i m e hu
   simp only[Bool.and_eq_true]at hs
   have h1:=Nat.eq_of_beq_eq_true hs.1
   obtain⟨xs,n,rfl,rfl,Hz,Jo,hx⟩:=DataW.trod_array hu h
   obtain⟨y,hr,hw,hb,hft⟩:=QG (n:=n) (cs:=cs) (fun {t} {k} {cs} {x} h1 h2=>ih h1 h2) (Ut P m e) xs 0 k hs.2 (by simp[Ut,Jo]) (by rw[Hz,h1];omega) fun i f hf=>by
    unfold Ut at hf
    rw[List.getElem?_map]at hf
    obtain⟨q,h3,h4⟩:=Option.map_eq_some_iff.1 hf
    obtain⟨h5,h6⟩:=List.getElem?_eq_some_iff.1 h3
    rw[List.getElem_range]at h6
    subst h6;subst h4
    exact hx i (by simpa using h5)
   refine⟨y,by simpa using hr,hw,fun bk B=>Nat.le_trans (hb bk B) ?_,fun R hR=>hft R fun q hq=>hR q ?_⟩
   rotate_left
   ·simp only[DataW.weights,hu]
    exact yZ (fun t ht=>by unfold Ut at ht;simp only[List.map_map,List.mem_map]at ht;obtain⟨_,_,rfl⟩:=ht;rfl) hq
   have:=B.agg (xs.map (·.1))
   rw[List.map_map]at this
   exact this
  ·cases hs
def isAgg (P:Program)(t:TypeId):Bool:=match P.underlying t with|some (.struct _)=>true|some (.array _ _)=>true|_=>false
theorem acg {base b0:Nat}{r:Reach}{held:Bool}{t:TypeId}{k:K}{v:Value}{d:DataW H}{ps:List MemPlace}{N:Nat}
  (hval:Value.okWide P W r b0 t v) (hs:shp P N t k=true) (h:DataW.Trod enc P W base (fun _=>true) held t v d ps):
  ∃y:k.T,ES W (fun _=>True) (isAgg P t,k) y v∧k.wf y∧(∀bk:DataW H→Nat,WU bk→k.bulk y≤bk d)∧∀R,(∀m∈DataW.weights P t d,m≤R)→k.fits P.bytesOf R y:=by
 obtain⟨fuel,hf⟩:=h
 obtain⟨y,hr,hw,hb⟩:=Yc N hs hf
 refine⟨y,?_,hw,hb⟩
 cases N with
 |zero=>cases hs
 |succ N=>
 have one:∀{v:Value},v.cells.toList=[v]→Rd W (fun _=>True) k y v.cells.toList→isAgg P t=false→ES W (fun _=>True) (isAgg P t,k) y v:=by
  intro v h1 h2 h3
  unfold ES
  rw[h3]
  rw[h1]at h2
  exact h2
 unfold shp at hs
 split at hs
 ·rename_i q hu
  have ha:isAgg P t=false:=by unfold isAgg;rw[hu]
  obtain⟨n,sW,-,-⟩:=DataW.trod_int hu hf
  have:∃n,v= .int q n:=by
   simp only[Value.okWide,hu,Cell.okWide]at hval
   cases v<;>simp_all [Cell.ok]
  obtain⟨n,rfl⟩:=this
  exact one rfl hr ha
 ·rename_i hu
  have ha:isAgg P t=false:=by unfold isAgg;rw[hu]
  have:∃n,v= .bool n:=by
   simp only[Value.okWide,hu,Cell.okWide]at hval
   cases v<;>simp_all [Cell.ok]
  obtain⟨n,rfl⟩:=this
  exact one rfl hr ha
 ·rename_i hu
  have ha:isAgg P t=false:=by unfold isAgg;rw[hu]
  obtain⟨s,rfl⟩:=okWide_string hu hval
  exact one rfl hr ha
 ·rename_i e hu
  have ha:isAgg P t=false:=by unfold isAgg;rw[hu]
  obtain⟨a,len,cap,rfl⟩:=okWide_slice hu hval
  exact one rfl hr ha
 ·rename_i fs hu
  have ha:isAgg P t=true:=by unfold isAgg;rw[hu]
  obtain⟨cs,rfl,-⟩:=okWide_struct hu hval
  unfold ES
  rw[ha]
  exact⟨cs.toList,by simp,hr⟩
 ·rename_i m e hu
  have ha:isAgg P t=true:=by unfold isAgg;rw[hu]
  have:∃cs,v= .agg cs:=by
   simp only[Value.okWide,hu,Cell.okWide]at hval
   cases v<;>simp_all [Cell.ok]
  obtain⟨cs,rfl⟩:=this
  unfold ES
  rw[ha]
  exact⟨cs.toList,by simp,hr⟩
 ·cases hs
end
end Go.Fx

namespace Go.Fx
open Go Go.RowKit
def okB(f:Func)(n:Nat):Bool:=match f.body with
 |some c=>kU (gQ c)&&Nat.ble n f.ntmps&&!(f.name== "runtime.NumGoroutine")
 |none=>false
theorem ach {f:Func}{n:Nat}(h:okB f n=true):∃hb:f.body.isSome=true,kU (gQ (f.body.get hb))=true∧Nat.ble n f.ntmps=true∧(f.name== "runtime.NumGoroutine")=false:=by
 unfold okB at h
 split at h
 ·rename_i c e
  simp only [Bool.and_eq_true,Bool.not_eq_true'] at h
  exact ⟨by rw [e];rfl,by simp only [e,Option.get_some];exact h.1.1,h.1.2,h.2⟩
 ·cases h
theorem fC {P:Program}{T:dH}{C:ak}{g:FuncId}{f:Func}{q:Spec}(TK:aZ P T)(CK:ah P C)(kZ:P.follows .mixedOrders=true)(hf:P.funcs[g]? =some f)(h:okB f q.ps.length=true):bW P C.aJ g (q.sig C T f):=
 have ⟨hb,h1,h2,h3⟩:=ach h
 WR TK CK kZ hf hb h1 h2 h3
theorem Dq {P:Program}{T:dH}{C:ak}{g:FuncId}{f:Func}{q:jH}(TK:aZ P T)(CK:ah P C)(kZ:P.follows .mixedOrders=true)(hf:P.funcs[g]? =some f)(h:okB f (xn q.gy q.gK+q.ps.length)=true):Oz P C.aJ g (q.sig C T f):=
 have ⟨hb,h1,h2,h3⟩:=ach h
 ajd TK CK kZ hf hb h1 h2 h3
end Go.Fx
