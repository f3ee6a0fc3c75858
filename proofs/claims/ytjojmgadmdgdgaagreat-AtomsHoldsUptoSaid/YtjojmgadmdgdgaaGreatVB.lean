/- Forms, the reference's: sorted variables, coefficients, the normal form, multiples. -/
import Derived.Test.YtjojmgadmdgdgaaGreatVA
namespace Go.Fx.Tryz
open Go Go.Fx Go.Fx.Num
set_option linter.unusedVariables false
set_option linter.unusedSimpArgs false
theorem downM {R:Type}{L:Nat→Nat→Option R}{M:Nat→Option R}{Inv:Nat→Prop}{n:Nat}(last:Inv n→∃j,∀k,L (k+j) n=M k)
    (step:∀i,i<n→Inv i→(∃j,∀k,L (k+j) i=M k)∨(Inv (i+1)∧∀k,L (k+1) i=L k (i+1))):∀i,i≤n→Inv i→∃j,∀k,L (k+j) i=M k:=by
  have key:∀d i,i+d=n→Inv i→∃j,∀k,L (k+j) i=M k:=by
    intro d
    induction d with
    | zero => intro i h hi; obtain rfl : i = n := by omega
              exact last hi
    |succ d ih=>
      intro i h hi
      rcases step i (by omega) hi with h1|⟨h1,h2⟩
      · exact h1
      · obtain ⟨j, hj⟩ := ih (i + 1) (by omega) h1
        exact⟨j+1,fun k=>by rw[←Nat.add_assoc,h2,hj]⟩
  exact fun i hi=>key (n-i) i (by omega)
def ins (v:Int):List Int→List Int
  |[]=>[v]
  |w::r=>if w<v then w::ins v r else if w=v then w::r else v::w::r
def srt (l:List Int):List Int:=l.foldl (fun o v=>ins v o) []
theorem ins_mem {v w:Int}:∀{l:List Int},w∈ins v l↔w=v∨w∈l
  |[]=>by simp[ins]
  |a::l=>by
    unfold ins
    split
    · rw[List.mem_cons,ins_mem (l:=l),List.mem_cons];grind
    · split
      · rename_i h;subst h;simp
      · simp
theorem ins_up {v:Int}:∀{l:List Int},l.Pairwise (· < ·)→(ins v l).Pairwise (· < ·)
  |[],_=>by simp[ins]
  |a::l,h=>by
    obtain⟨h1,h2⟩:=List.pairwise_cons.1 h
    unfold ins
    split
    · refine List.pairwise_cons.2 ⟨fun w hw => ?_, ins_up h2⟩
      rcases ins_mem.1 hw with rfl|hw
      · assumption
      · exact h1 w hw
    · split
      · exact h
      · refine List.pairwise_cons.2 ⟨fun w hw => ?_, h⟩
        rcases List.mem_cons.1 hw with rfl|hw
        · omega
        · have:=h1 w hw;omega
theorem srt_spec (l:List Int):(srt l).Pairwise (· < ·)∧∀w,w∈srt l↔w∈l:=by
  have key:∀(l o:List Int),o.Pairwise (· < ·)→(l.foldl (fun o v=>ins v o) o).Pairwise (· < ·)∧∀w,w∈l.foldl (fun o v=>ins v o) o↔w∈o∨w∈l:=by
    intro l
    induction l with
    |nil=>intro o h;exact⟨h,fun w=>by simp⟩
    |cons v l ih=>
      intro o h
      obtain⟨i1,i2⟩:=ih (ins v o) (ins_up h)
      refine⟨i1,fun w=>(i2 w).trans ?_⟩
      rw[ins_mem,List.mem_cons];grind
  obtain⟨h1,h2⟩:=key l [] List.Pairwise.nil
  exact⟨h1,fun w=>(h2 w).trans (by simp)⟩
theorem ins_at {v:Int}:∀{l:List Int} {p:Nat},p≤l.length→(∀j (h:j<l.length),j<p→l[j]<v)→(∀h:p<l.length,v<l[p])→ins v l=l.take p++v::l.drop p
  |[],p,hp,_,_=>by simp at hp;subst hp;rfl
  |w::l,0,_,_,h2=>by
    have:=h2 (by simp)
    simp only[List.getElem_cons_zero]at this
    unfold ins
    rw[if_neg (by omega),if_neg (by omega)];rfl
  |w::l,p+1,hp,h1,h2=>by
    have h0:=h1 0 (by simp) (by omega)
    simp only[List.getElem_cons_zero]at h0
    unfold ins
    rw[if_pos h0,ins_at (p:=p) (by simpa using hp) (fun j h hj=>by have:=h1 (j+1) (by simpa using h) (by omega);simpa using this) (fun h=>by have:=h2 (by simpa using h);simpa using this)]
    rfl
theorem ins_there {v:Int}:∀{l:List Int} {p:Nat} (hp:p<l.length),(∀j (h:j<l.length),j<p→l[j]<v)→l[p]=v→ins v l=l
  |w::l,0,_,_,h2=>by
    simp only[List.getElem_cons_zero]at h2
    unfold ins
    rw[if_neg (by omega),if_pos h2]
  |w::l,p+1,hp,h1,h2=>by
    have h0:=h1 0 (by simp) (by omega)
    simp only[List.getElem_cons_zero]at h0
    unfold ins
    rw[if_pos h0,ins_there (p:=p) (by simpa using hp) (fun j h hj=>by have:=h1 (j+1) (by simpa using h) (by omega);simpa using this) (by simpa using h2)]
theorem ins_len (v:Int):∀l:List Int,(ins v l).length≤l.length+1
  |[]=>by simp[ins]
  |w::l=>by
    unfold ins
    split
    · simp only[List.length_cons];have:=ins_len v l;omega
    · split<;>simp
theorem shift_loop {l out:List Int}{i:Nat}(hi:i<l.length)(hl:l.length<4611686018427387904)(ho:out.length<17592186044415){p:Nat}(hp:p≤out.length):∀(d:Nat) (z:Int),p+d≤out.length→∃j,∀k,r06_sorted.L11 (k+j) l (out.take (p+d)++z::out.drop (p+d)) (i:Int) (p:Int) ((p+d:Nat):Int)=r06_sorted.L3 k l (out.take p++l[i]::out.drop p) ((i+1:Nat):Int):=by
  have tl:∀q z,q≤out.length→(out.take q++z::out.drop q).length=out.length+1:=by
    intro q z hq;simp only[List.length_append,List.length_take,List.length_cons,List.length_drop];omega
  intro d
  induction d with
  |zero=>
    intro z hd
    refine⟨1,fun k=>(r06_sorted.L11_succ _ _ _ _ _ _).trans (no (decide_eq_false (by omega)) (inb hi (inb (by rw[tl _ _ hd];omega) ?_)))⟩
    have e1:=getD_at l (0:Int) hi
    show r06_sorted.L3 k l (List.set (out.take p++z::out.drop p) (Int.toNat (p:Int)) (List.getD l (Int.toNat (i:Int)) 0)) (IntKind.i64.wrap ((i:Int)+1))=_
    rw[e1,Int.toNat_natCast,List.set_append_right _ _ (by rw[List.length_take];omega),List.length_take,Nat.min_eq_left hp,Nat.sub_self,up1 (by omega)]
    rfl
  |succ d ih=>
    intro z hd
    obtain⟨j,hj⟩:=ih (out[p+d]) (by omega)
    refine⟨j+1,fun k=>(r06_sorted.L11_succ _ _ _ _ _ _).trans (yes (decide_eq_true (by omega)) ?_)⟩
    have ew:IntKind.i64.wrap (((p+(d+1):Nat):Int)-1)=((p+d:Nat):Int):=by rw[IntWalk.i64_in _ (by omega)];omega
    rw[ew]
    have hlen:=tl (p+(d+1)) z hd
    have eg:(out.take (p+(d+1))++z::out.drop (p+(d+1)))[p+d]'(by omega)=out[p+d]:=by
      rw[List.getElem_append_left (by rw[List.length_take];omega)]
      exact List.getElem_take
    refine inb (by omega) (inb (by omega) ?_)
    rw[getD_at _ (0:Int) (show p+d<(out.take (p+(d+1))++z::out.drop (p+(d+1))).length by omega),eg,Int.toNat_natCast]
    have es:List.set (out.take (p+(d+1))++z::out.drop (p+(d+1))) (p+(d+1)) out[p+d]=out.take (p+d)++out[p+d]::out.drop (p+d):=by
      rw[List.set_append_right _ _ (by rw[List.length_take];omega),List.length_take,Nat.min_eq_left hd,Nat.sub_self]
      have e2:out.take (p+(d+1))=out.take (p+d)++[out[p+d]]:=by
        rw[show p+(d+1)=(p+d)+1 by omega,List.take_add_one,List.getElem?_eq_getElem (by omega)];rfl
      rw[e2,drop_at out (show p+d<out.length by omega)]
      show(out.take (p+d)++[out[p+d]])++out[p+d]::out.drop (p+(d+1))=_
      rw[List.append_assoc];rfl
    exact(congrArg (fun x=>r06_sorted.L11 (k+j) l x (i:Int) (p:Int) ((p+d:Nat):Int)) es).trans (hj k)
theorem place_loop {l out:List Int}{i:Nat}(hi:i<l.length)(hl:l.length<4611686018427387904)(ho:out.length<17592186044415):∃j,∀k,r06_sorted.L6 (k+j) l out (i:Int) 0=r06_sorted.L3 k l (ins l[i] out) ((i+1:Nat):Int):=by
  have e1:=getD_at l (0:Int) hi
  have put:∀p,p≤out.length→(∀j (h:j<out.length),j<p→out[j]<l[i])→(∀h:p<out.length,l[i]<out[p])→∃j,∀k,r06_sorted.L11 (k+j) l (out++[0]) (i:Int) (p:Int) (IntKind.i64.wrap (((out++[(0:Int)]).length:Int)-1))=r06_sorted.L3 k l (ins l[i] out) ((i+1:Nat):Int):=by
    intro p hp h1 h2
    obtain⟨j,hj⟩:=shift_loop hi hl ho hp (out.length-p) 0 (by omega)
    refine⟨j,fun k=> ?_⟩
    have e2:IntKind.i64.wrap (((out++[(0:Int)]).length:Int)-1)=((p+(out.length-p):Nat):Int):=by
      rw[List.length_append,List.length_singleton,IntWalk.i64_in _ (by omega)];omega
    rw[e2,ins_at hp h1 h2,←hj k]
    rw[show p+(out.length-p)=out.length by omega,List.take_length,List.drop_length]
  refine downM (L:=fun k p=>r06_sorted.L6 k l out (i:Int) (p:Int)) (Inv:=fun p=>∀j (h:j<out.length),j<p→out[j]<l[i]) (n:=out.length) (fun hI=> ?_) (fun p hp hI=> ?_) 0 (Nat.zero_le _) (fun j h hj=>by omega)
  · obtain ⟨j, hj⟩ := put out.length (Nat.le_refl _) hI (fun h => by omega)
    refine⟨j+1,fun k=>(r06_sorted.L6_succ _ _ _ _ _).trans (geb (Nat.lt_irrefl _) (geb (Nat.lt_irrefl _) (yes (decide_eq_true (by show out.length+1<_;omega)) (hj k))))⟩
  · have e2 := getD_at out (0 : Int) hp
    by_cases h1:out[p]<l[i]
    · refine .inr ⟨fun j h hj => ?_, fun k => (r06_sorted.L6_succ _ _ _ _ _).trans (ltb hp (inb hp (inb hi (yes ?_ ?_))))⟩
      · rcases Nat.lt_or_ge j p with h2 | h2
        · exact hI j h h2
        · obtain rfl : j = p := by omega
          exact h1
      · rw[e1,e2];exact decide_eq_true h1
      · show r06_sorted.L6 k l out (i : Int) (IntKind.i64.wrap ((p : Int) + 1)) = _
        rw[up1 (by omega)]
    · left
      by_cases h2:out[p]=l[i]
      · refine ⟨1, fun k => (r06_sorted.L6_succ _ _ _ _ _).trans (ltb hp (inb hp (inb hi (no ?_ (ltb hp (inb hp (inb hi (yes ?_ ?_)))))))) ⟩
        · rw[e1,e2];exact decide_eq_false h1
        · rw[e1,e2];exact beq_iff_eq.2 h2
        · show r06_sorted.L3 k l out (IntKind.i64.wrap ((i : Int) + 1)) = _
          rw[up1 (by omega),ins_there hp hI h2]
      · obtain ⟨j, hj⟩ := put p (by omega) hI (fun h => by omega)
        refine⟨j+1,fun k=>(r06_sorted.L6_succ _ _ _ _ _).trans (ltb hp (inb hp (inb hi (no ?_ (ltb hp (inb hp (inb hi (no ?_ (yes (decide_eq_true (by show out.length+1<_;omega)) (hj k))))))))))⟩
        · rw[e1,e2];exact decide_eq_false h1
        · rw[e1,e2];exact beq_eq_false_iff_ne.2 h2
theorem foldl_len:∀(l o:List Int),(l.foldl (fun o v=>ins v o) o).length≤o.length+l.length
  |[],o=>by simp
  |v::l,o=>by
    have h1:=foldl_len l (ins v o)
    have h2:=ins_len v o
    simp only[List.foldl_cons,List.length_cons];omega
theorem sorted_F {l:List Int}(hl:l.length<17592186044415):r06_sorted.F (l,())=some (srt l,()):=by
  have key:∀d i,i+d=l.length→∃j,∀k,r06_sorted.L3 (k+j) l ((l.take i).foldl (fun o v=>ins v o) []) (i:Int)=some (srt l,()):=by
    intro d
    induction d with
    |zero=>
      intro i h
      obtain rfl:i=l.length:=by omega
      exact⟨1,fun k=>(r06_sorted.L3_succ _ _ _ _).trans (geb (Nat.lt_irrefl _) (by rw[List.take_length];rfl))⟩
    |succ d ih=>
      intro i h
      have hi:i<l.length:=by omega
      obtain⟨j,hj⟩:=ih (i+1) (by omega)
      have hle:=foldl_len (l.take i) []
      rw[List.length_take]at hle
      obtain⟨j',hj'⟩:=place_loop hi (out:=(l.take i).foldl (fun o v=>ins v o) []) (by omega) (by simp only[List.length_nil]at hle;omega)
      have e:(l.take (i+1)).foldl (fun o v=>ins v o) []=ins l[i] ((l.take i).foldl (fun o v=>ins v o) []):=by
        rw[List.take_add_one,List.getElem?_eq_getElem hi,List.foldl_append];rfl
      refine⟨j+j'+1,fun k=> ?_⟩
      rw[show k+(j+j'+1)=(k+j+j')+1 by omega]
      refine(r06_sorted.L3_succ _ _ _ _).trans (ltb hi ((hj' (k+j)).trans ?_))
      rw[←e];exact hj k
  obtain⟨j,hj⟩:=key l.length 0 (by omega)
  exact r06_sorted.of (0+j) l (hj 0)
theorem all_F {f:Dt40}(hl:f.length<17592186044415):r06_all.F (f,[],())=some (srt (f.map (·.1)),()):=by
  have k7:∀k,r06_all.L7 (k+1) [] (f.map (·.1)) 0=some (srt (f.map (·.1)),()):=fun k=>
    (r06_all.L7_succ _ _ _ _).trans (st (sorted_F (by rw[List.length_map];exact hl)) rfl)
  obtain⟨j,hj⟩:=downM (L:=fun k i=>r06_all.L3 k f [] ((f.take i).map (·.1)) (i:Int)) (M:=fun k=>r06_all.L7 k [] (f.map (·.1)) 0) (Inv:=fun _=>True) (n:=f.length)
    (fun _=>⟨1,fun k=>(r06_all.L3_succ _ _ _ _ _).trans (geb (Nat.lt_irrefl _) (by rw[List.take_length]))⟩)
    (fun i hi _=> .inr ⟨trivial,fun k=>by
      have e1:=getD_at f zt73 hi
      refine(r06_all.L3_succ _ _ _ _ _).trans (ltb hi (inb hi (yes (decide_eq_true ?_) ?_)))
      · show((f.take i).map (·.1)).length+1<_;rw[List.length_map,List.length_take];omega
      · show r06_all.L3 k f [] ((f.take i).map (·.1) ++ [(List.getD f (Int.toNat (i : Int)) zt73).1]) (IntKind.i64.wrap ((i : Int) + 1)) = _
        rw[e1,up1 (by omega),List.take_add_one,List.getElem?_eq_getElem hi,List.map_append];rfl⟩) 0 (Nat.zero_le _) trivial
  exact r06_all.of (1+j) f [] ((hj 1).trans (k7 0))
theorem zero_F:r06_zero.F ()=some (rcan 0,()):=r06_zero.of 0 (st (rWhole_F (z:=0) (by decide)) rfl)
theorem Wt.take {x N}(h:Wt x N)(k:Nat):Wt (x.take k) N:=by
  rw[←List.take_append_drop k x]at h
  obtain⟨N1,N2,h1,_,h3⟩:=h.split
  exact h1.mono (by omega)
theorem cf_take_succ (x:NF){i:Nat}(h:i<x.length)(v:Int):cf (x.take (i+1)) v=cf (x.take i) v+(if x[i].1=v then x[i].2 else 0):=by
  rw[List.take_add_one,List.getElem?_eq_getElem h,cf_append]
  show _=_
  rw[show cf (some x[i]).toList v=(if x[i].1=v then x[i].2 else 0)+0 from rfl,Rat.add_zero]
theorem Rf.Coef_F {f x N}(h:Rf f x N)(hN:N≤1099511627776)(v:Int):r06_Coef.F (f,v,())=some (rcan (cf x v),()):=by
  have hlen:=h.len
  have hw:=h.wt.len
  obtain⟨j,hj⟩:=allR (L:=fun k i=>r06_Coef.L3 k f v false (rcan (cf (x.take i) v)).1.1 (rcan (cf (x.take i) v)).1.2 (rcan (cf (x.take i) v)).2 (i:Int)) (r:=(rcan (cf x v),())) (n:=f.length)
    (fun k=>(r06_Coef.L3_succ _ _ _ _ _ _ _ _).trans (geb (Nat.lt_irrefl _) (by rw[hlen,List.take_length])))
    (fun i hi k=>by
      have hx:i<x.length:=by omega
      have e1:=getD_at f zt73 hi
      obtain⟨a1,a2⟩:=h.at i hi hx
      have e2:=cf_take_succ x hx v
      refine(r06_Coef.L3_succ _ _ _ _ _ _ _ _).trans (ltb hi (inb hi ?_))
      by_cases hv:x[i].1=v
      · rw [if_pos hv] at e2
        have hA:r03_Add.F (rcan (cf (x.take i) v),(List.getD f (Int.toNat (i:Int)) zt73).2,())=some (rcan (cf (x.take (i+1)) v),()):=by
          rw[e1,e2];exact((h.wt.take i).cf v).rt.rAdd_F (a2.mono (Nat.le_succ N)) (by omega)
        refine yes ?_ (inb hi (st hA ?_))
        · rw[e1,a1];exact beq_iff_eq.2 hv
        · show r06_Coef.L3 k f v false (rcan (cf (x.take (i + 1)) v)).1.1 (rcan (cf (x.take (i + 1)) v)).1.2 (rcan (cf (x.take (i + 1)) v)).2 (IntKind.i64.wrap ((i : Int) + 1)) = _
          rw[up1 (by omega)]
      · rw [if_neg hv, Rat.add_zero] at e2
        refine no ?_ ?_
        · rw[e1,a1];exact beq_eq_false_iff_ne.2 hv
        · show r06_Coef.L3 k f v false (rcan (cf (x.take i) v)).1.1 (rcan (cf (x.take i) v)).1.2 (rcan (cf (x.take i) v)).2 (IntKind.i64.wrap ((i : Int) + 1)) = _
          rw[up1 (by omega),e2])
  exact r06_Coef.of (0+j) f v (st zero_F (hj 0))
noncomputable def pick (x:NF)(s:List Int):NF:=s.filterMap fun v=>if cf x v=0 then none else some (v,cf x v)
theorem pick_mem {x:NF}{s:List Int}{m:Int×Rat}:m∈pick x s↔m.1∈s∧m.2=cf x m.1∧m.2≠0:=by
  unfold pick
  rw[List.mem_filterMap]
  constructor
  · rintro ⟨v, hv, he⟩
    split at he
    · cases he
    · obtain rfl := Option.some.inj he
      exact⟨hv,rfl,by assumption⟩
  · rintro ⟨h1, h2, h3⟩
    exact⟨m.1,h1,by rw[←h2,if_neg h3]⟩
theorem pick_nf {x:NF}{s:List Int}(h:s.Pairwise (· < ·)):Nf (pick x s)∧∀v,cf (pick x s) v=if v∈s then cf x v else 0:=by
  induction s with
  |nil=>exact⟨.nil,fun v=>by simp[pick,cf]⟩
  |cons w s ih=>
    obtain⟨h1,h2⟩:=List.pairwise_cons.1 h
    obtain⟨i1,i2⟩:=ih h2
    have hw:w∉s:=fun hw=>by have:=h1 w hw;omega
    by_cases h0:cf x w=0
    · have e : pick x (w :: s) = pick x s := by simp [pick, h0]
      rw[e]
      refine⟨i1,fun v=> ?_⟩
      rw[i2]
      by_cases hv:v=w
      · subst hv;rw[if_neg hw,if_pos (by simp),h0]
      · simp[hv]
    · have e : pick x (w :: s) = (w, cf x w) :: pick x s := by simp [pick, h0]
      rw[e]
      refine⟨i1.cons h0 fun l hl=>h1 _ (pick_mem.1 hl).1,fun v=> ?_⟩
      show(if w=v then cf x w else 0)+cf (pick x s) v=_
      rw[i2]
      by_cases hv:v=w
      · subst hv;rw[if_pos rfl,if_neg hw,if_pos (by simp),Rat.add_zero]
      · rw[if_neg (fun e=>hv e.symm),Rat.zero_add];simp[hv]
theorem pick_all (x:NF):pick x (srt (x.map (·.1)))=nrm x:=by
  obtain⟨h1,h2⟩:=srt_spec (x.map (·.1))
  obtain⟨h3,h4⟩:=pick_nf (x:=x) h1
  refine(nrm_of h3 fun v=> ?_).symm
  rw[h4]
  split
  · rfl
  · rename_i hv
    exact(cf_out fun m hm e=>hv ((h2 v).2 (List.mem_map.2 ⟨m,hm,e⟩))).symm
theorem pick_take_succ (x:NF){s:List Int}{i:Nat}(h:i<s.length):pick x (s.take (i+1))=pick x (s.take i)++(if cf x s[i]=0 then[]else[(s[i],cf x s[i])]):=by
  unfold pick
  rw[List.take_add_one,List.getElem?_eq_getElem h,List.filterMap_append]
  congr 1
  by_cases h0:cf x s[i]=0<;>simp[h0]
theorem pick_len (x:NF)(s:List Int):(pick x s).length≤s.length:=List.length_filterMap_le _ _
theorem Rf.rNorm_F {f x N}(h:Rf f x N)(hN:N≤1099511627776):r06_Norm.F (f,())=some (fc (nrm x),()):=by
  have hlen:=h.len
  have hw:=h.wt.len
  have hv:f.map (·.1)=x.map (·.1):=List.ext_getElem (by simp[hlen]) fun i h1 h2=>by
    simp only[List.length_map]at h1 h2
    simpa using(h.at i h1 h2).1
  have hs:=foldl_len (x.map (·.1)) []
  rw[List.length_map]at hs
  simp only[List.length_nil,Nat.zero_add]at hs
  obtain⟨j,hj⟩:=allR (L:=fun k i=>r06_Norm.L4 k f (fc (pick x ((srt (x.map (·.1))).take i))) (srt (x.map (·.1))) (i:Int)) (r:=(fc (nrm x),())) (n:=(srt (x.map (·.1))).length)
    (fun k=>(r06_Norm.L4_succ _ _ _ _ _).trans (geb (Nat.lt_irrefl _) (by rw[List.take_length,pick_all])))
    (fun i hi k=>by
      have hi':(srt (x.map (·.1))).length≤x.length:=hs
      have e1:=getD_at (srt (x.map (·.1))) (0:Int) hi
      have hC:r06_Coef.F (f,List.getD (srt (x.map (·.1))) (Int.toNat (i:Int)) 0,())=some (rcan (cf x (srt (x.map (·.1)))[i]),()):=by rw[e1];exact h.Coef_F hN _
      have hS:=(h.wt.cf (srt (x.map (·.1)))[i]).rt.rSign_F (by omega)
      have e2:=pick_take_succ x hi
      refine(r06_Norm.L4_succ _ _ _ _ _).trans (ltb hi (inb hi (st hC (st hS ?_))))
      by_cases h0:cf x (srt (x.map (·.1)))[i]=0
      · rw [if_pos h0, List.append_nil] at e2
        refine no (by rw[h0];rfl) ?_
        show r06_Norm.L4 k f (fc (pick x ((srt (x.map (·.1))).take i))) (srt (x.map (·.1))) (IntKind.i64.wrap ((i:Int)+1))=_
        rw[e2,up1 (by omega)]
      · rw [if_neg h0] at e2
        refine yes (bne_iff_ne.2 fun e=>h0 (num_zero.1 (sgn_zero.1 e))) (inb hi (yes (decide_eq_true ?_) ?_))
        · show (fc (pick x ((srt (x.map (·.1))).take i))).length + 1 < _
          have:=pick_len x ((srt (x.map (·.1))).take i)
          rw[List.length_take]at this
          rw[fc_len];omega
        · show r06_Norm.L4 k f (fc (pick x ((srt (x.map (·.1))).take i)) ++ [(List.getD (srt (x.map (·.1))) (Int.toNat (i : Int)) 0, rcan (cf x (srt (x.map (·.1)))[i]))]) (srt (x.map (·.1))) (IntKind.i64.wrap ((i : Int) + 1)) = _
          rw[e1,e2,fc_append,up1 (by omega)];rfl)
  refine r06_Norm.of (0+j) f (st (all_F (by omega)) ?_)
  rw[hv];exact hj 0
theorem Rf.rScale_F {f x N}(h:Rf f x N){c:Rat}{r:Dt47}{n:Nat}(hr:Rt r c n)(hN:N+n+x.length*n≤1099511627776):r06_Scale.F (r,f,())=some (fc (nrm (scl c x)),()):=by
  have hlen:=h.len
  have hw:=h.wt.len
  have hsl:=scl_len c x
  have hw2:=(h.wt.scl hr.ft).rf
  obtain⟨j,hj⟩:=allR (L:=fun k i=>r06_Scale.L3 k f r.1.1 r.1.2 r.2 (fc ((scl c x).take i)) (i:Int)) (r:=(fc (nrm (scl c x)),())) (n:=f.length)
    (fun k=>(r06_Scale.L3_succ _ _ _ _ _ _ _).trans (geb (Nat.lt_irrefl _) (by
      rw[List.take_of_length_le (by omega)]
      exact st (hw2.rNorm_F (by omega)) rfl)))
    (fun i hi k=>by
      have hx:i<x.length:=by omega
      have e1:=getD_at f zt73 hi
      obtain⟨a1,a2⟩:=h.at i hi hx
      have hM:r03_Mul.F (r,(List.getD f (Int.toNat (i:Int)) zt73).2,())=some (rcan (c*x[i].2),()):=by
        rw[e1];exact(hr.mono (show n≤N+n by omega)).rMul_F (a2.mono (show N≤N+n by omega)) (by omega)
      refine(r06_Scale.L3_succ _ _ _ _ _ _ _).trans (ltb hi (inb hi (inb hi (st hM (yes (decide_eq_true ?_) ?_)))))
      · show (fc ((scl c x).take i)).length + 1 < _
        rw[fc_len,List.length_take];omega
      · show r06_Scale.L3 k f r.1.1 r.1.2 r.2 (fc ((scl c x).take i) ++ [((List.getD f (Int.toNat (i : Int)) zt73).1, rcan (c * x[i].2))]) (IntKind.i64.wrap ((i : Int) + 1)) = _
        rw[e1,a1,up1 (by omega),List.take_add_one,List.getElem?_eq_getElem (by omega),fc_append]
        congr 2
        simp[fc,scl])
  exact r06_Scale.of (0+j) r f (hj 0)
def tG (x:NF):Nat:=x.foldl (fun g m=>Nat.gcd g m.2.num.natAbs) 0
def tL (x:NF):Nat:=x.foldl (fun l m=>Nat.lcm l m.2.den) 1
def tW (L:Nat)(x:NF):Nat:=x.foldl (fun g m=>Nat.gcd g (m.2.num.natAbs*(L/m.2.den))) 0
theorem step_id {G L0 n d L:Nat}(h1:Nat.Coprime G L0)(h2:Nat.Coprime n d)(hL0:0<L0)(hd:0<d)(h:Nat.lcm L0 d∣L):Nat.gcd (G*(L/L0)) (n*(L/d))=Nat.gcd G n*(L/Nat.lcm L0 d):=by
  obtain⟨t,rfl⟩:=h
  have hg:0<Nat.gcd L0 d:=Nat.gcd_pos_of_pos_left _ hL0
  obtain⟨b,hb⟩:=Nat.gcd_dvd_left L0 d
  obtain⟨a,ha⟩:=Nat.gcd_dvd_right L0 d
  have hM:Nat.lcm L0 d=L0*a:=by
    have h3:=Nat.gcd_mul_lcm L0 d
    have h4 : Nat.gcd L0 d * Nat.lcm L0 d = Nat.gcd L0 d * (L0 * a) := by rw [h3]; conv => lhs; rw [ha]
                                                                          rw[Nat.mul_left_comm]
    exact Nat.eq_of_mul_eq_mul_left hg h4
  have hM':Nat.lcm L0 d=d*b:=by
    have h3:=Nat.gcd_mul_lcm L0 d
    have h4 : Nat.gcd L0 d * Nat.lcm L0 d = Nat.gcd L0 d * (d * b) := by rw [h3]; conv => lhs; rw [hb]
                                                                         rw[Nat.mul_assoc,Nat.mul_comm b d]
    exact Nat.eq_of_mul_eq_mul_left hg h4
  have e1:Nat.lcm L0 d*t/L0=a*t:=by rw[hM,Nat.mul_assoc,Nat.mul_div_cancel_left _ hL0]
  have e2:Nat.lcm L0 d*t/d=b*t:=by rw[hM',Nat.mul_assoc,Nat.mul_div_cancel_left _ hd]
  have hMp:0<Nat.lcm L0 d:=Nat.lcm_pos hL0 hd
  have e3:Nat.lcm L0 d*t/Nat.lcm L0 d=t:=Nat.mul_div_cancel_left _ hMp
  rw[e1,e2,e3,←Nat.mul_assoc,←Nat.mul_assoc,Nat.gcd_mul_right]
  congr 1
  have cab:Nat.Coprime a b:=by
    have:Nat.gcd L0 d*Nat.gcd b a=Nat.gcd L0 d*1:=by
      rw[←Nat.gcd_mul_left,←hb,←ha,Nat.mul_one]
    have:=Nat.eq_of_mul_eq_mul_left hg this
    rw[Nat.gcd_comm]at this;exact this
  have can:Nat.Coprime a n:=(h2.coprime_dvd_right ⟨Nat.gcd L0 d,by rw[Nat.mul_comm];exact ha⟩).symm
  have cbG:Nat.Coprime b G:=(h1.coprime_dvd_right ⟨Nat.gcd L0 d,by rw[Nat.mul_comm];exact hb⟩).symm
  rw[Nat.Coprime.gcd_mul_right_cancel G (can.mul_right cab),Nat.Coprime.gcd_mul_right_cancel_right n cbG]
theorem fold_id:∀(x:NF) (G L0 L:Nat),Nat.Coprime G L0→0<L0→x.foldl (fun l m=>Nat.lcm l m.2.den) L0∣L→
    x.foldl (fun g m=>Nat.gcd g (m.2.num.natAbs*(L/m.2.den))) (G*(L/L0))=x.foldl (fun g m=>Nat.gcd g m.2.num.natAbs) G*(L/x.foldl (fun l m=>Nat.lcm l m.2.den) L0)∧
      Nat.Coprime (x.foldl (fun g m=>Nat.gcd g m.2.num.natAbs) G) (x.foldl (fun l m=>Nat.lcm l m.2.den) L0)∧0<x.foldl (fun l m=>Nat.lcm l m.2.den) L0∧Nat.lcm L0 1∣x.foldl (fun l m=>Nat.lcm l m.2.den) L0∧
      ∀m∈x,m.2.den∣x.foldl (fun l m=>Nat.lcm l m.2.den) L0
  |[],G,L0,L,h1,h2,h3=>⟨rfl,h1,h2,by simp,fun m hm=>by simp at hm⟩
  |m::x,G,L0,L,h1,h2,h3=>by
    simp only[List.foldl_cons]at h3⊢
    have hd:0<m.2.den:=m.2.den_pos
    have hc:Nat.Coprime (Nat.gcd G m.2.num.natAbs) (Nat.lcm L0 m.2.den):=by
      have c1:Nat.Coprime (Nat.gcd G m.2.num.natAbs) L0:=h1.coprime_dvd_left (Nat.gcd_dvd_left _ _)
      have c2:Nat.Coprime (Nat.gcd G m.2.num.natAbs) m.2.den:=m.2.reduced.coprime_dvd_left (Nat.gcd_dvd_right _ _)
      exact(c1.mul_right c2).coprime_dvd_right (Nat.lcm_dvd_mul _ _)
    obtain⟨i1,i2,i3,i4,i5⟩:=fold_id x (Nat.gcd G m.2.num.natAbs) (Nat.lcm L0 m.2.den) L hc (Nat.lcm_pos h2 hd) h3
    have hdv:Nat.lcm L0 m.2.den∣x.foldl (fun l m=>Nat.lcm l m.2.den) (Nat.lcm L0 m.2.den):=by simpa using i4
    have hs:=step_id h1 m.2.reduced h2 hd (Nat.dvd_trans hdv h3)
    refine⟨by rw[hs];exact i1,i2,i3,by simpa using Nat.dvd_trans (Nat.dvd_lcm_left _ _) hdv,fun k hk=> ?_⟩
    rcases List.mem_cons.1 hk with rfl|hk
    · exact Nat.dvd_trans (Nat.dvd_lcm_right _ _) hdv
    · exact i5 k hk
theorem fold_gcd (f:Int×Rat→Nat):∀(x:NF) (G:Nat),(∀d,d∣x.foldl (fun g m=>Nat.gcd g (f m)) G↔d∣G∧∀m∈x,d∣f m)
  |[],G=>fun d=>by simp
  |m::x,G=>fun d=>by
    rw[List.foldl_cons,fold_gcd f x,Nat.dvd_gcd_iff]
    simp only[List.mem_cons,forall_eq_or_imp]
    exact⟨fun h=>⟨h.1.1,h.1.2,h.2⟩,fun h=>⟨⟨h.1,h.2.1⟩,h.2.2⟩⟩
theorem tG_dvd {x:NF}{d:Nat}:d∣tG x↔∀m∈x,d∣m.2.num.natAbs:=by
  unfold tG;rw[fold_gcd (fun m=>m.2.num.natAbs)];simp
theorem tW_dvd {L:Nat}{x:NF}{d:Nat}:d∣tW L x↔∀m∈x,d∣m.2.num.natAbs*(L/m.2.den):=by
  unfold tW;rw[fold_gcd (fun m=>m.2.num.natAbs*(L/m.2.den))];simp
theorem tL_pos (x:NF):0<tL x:=(fold_id x 0 1 (tL x) (by decide) (by decide) (Nat.dvd_refl _)).2.2.1
theorem tL_dvd {x:NF}{m:Int×Rat}(h:m∈x):m.2.den∣tL x:=(fold_id x 0 1 (tL x) (by decide) (by decide) (Nat.dvd_refl _)).2.2.2.2 m h
theorem tGL (x:NF):Nat.Coprime (tG x) (tL x):=(fold_id x 0 1 (tL x) (by decide) (by decide) (Nat.dvd_refl _)).2.1
theorem tW_eq (x:NF):tW (tL x) x=tG x:=by
  have:=(fold_id x 0 1 (tL x) (by decide) (by decide) (Nat.dvd_refl _)).1
  rw[Nat.zero_mul]at this
  unfold tW
  rw[this]
  show tG x*(tL x/tL x)=tG x
  rw[Nat.div_self (tL_pos x),Nat.mul_one]
theorem tG_pos {x:NF}{m:Int×Rat}(h:m∈x)(hz:m.2≠0):0<tG x:=by
  rcases Nat.eq_zero_or_pos (tG x)with h0|h0
  · have := tG_dvd.1 (show 0 ∣ tG x by rw [h0]; exact Nat.dvd_refl _) m h
    rw[Nat.zero_dvd]at this
    exact absurd (num_zero.1 (by omega)) hz
  · exact h0
theorem int_div (z:Int):Rat.divInt z 1=(z:Rat):=by
  have:=Rat.num_divInt_den (z:Rat)
  rw[show ((z:Rat).num)=z from rfl,show(((z:Rat).den:Nat):Int)=1 from rfl]at this
  exact this
noncomputable def ct (x:NF):Rat:=Rat.divInt (tG x) (tL x)
theorem ct_num (x:NF):(ct x).num=tG x∧(ct x).den=tL x:=by
  have hp:(0:Int)<(tL x:Int):=by have:=tL_pos x;omega
  have hg:gcdI (ab (tG x:Int)) (tL x:Int)=1:=by
    have:ab (tG x:Int)=(tG x:Int):=by unfold ab;rw[if_neg (by omega)]
    rw[this];unfold gcdI
    have h:=tGL x
    rw[Int.gcd_natCast_natCast]
    rw[Nat.Coprime]at h
    rw[h];rfl
  have h1:=q_num (z:=(tG x:Int)) hp
  have h2:=q_den (z:=(tG x:Int)) hp
  rw[hg,Int.ediv_one]at h1 h2
  unfold ct
  exact⟨h1,by omega⟩
theorem ct_pos {x:NF}(h:Nf x)(hne:x≠[]):0<ct x:=by
  cases x with
  |nil=>exact absurd rfl hne
  |cons m x=>
    have hg:=tG_pos (x:=m::x) List.mem_cons_self h.head.1
    rw[Rat.lt_iff,(ct_num _).1,show(0:Rat).num=0 from rfl]
    simp;omega
structure IsC (x:NF) (r:Rat):Prop where
  pos:0<r
  all:∀m∈x,∃z:Int,m.2=r*(z:Rat)
  one:∀d:Nat,(∀m∈x,∃z:Int,m.2=r*((d:Int)*z:Int))→d=1
theorem mul_ct {x:NF}{m:Int×Rat}(h:m∈x)(y:Int):m.2=ct x*(y:Rat)↔m.2.num*((tL x/m.2.den:Nat):Int)=tG x*y:=by
  obtain⟨t,ht⟩:=tL_dvd h
  have hd:=m.2.den_pos
  have hL:=tL_pos x
  have e1:tL x/m.2.den=t:=by rw[ht,Nat.mul_div_cancel_left _ hd]
  have e2:ct x*(y:Rat)=Rat.divInt (tG x*y) (tL x):=by
    unfold ct
    rw[←int_div,Rat.divInt_mul_divInt,Int.mul_one]
  have e3:m.2=Rat.divInt (m.2.num*t) (tL x):=by
    conv=>lhs;rw[←Rat.num_divInt_den m.2]
    rw [ht, Int.natCast_mul, Rat.divInt_mul_right (by have : 0 < t := Nat.pos_of_ne_zero (by rintro rfl; omega)
                                                      omega)]
  rw[e1,e2]
  constructor
  · intro h'
    rw[e3]at h'
    exact Int.eq_of_mul_eq_mul_right (show (tL x:Int)≠0 by omega) ((Rat.divInt_eq_divInt_iff (by omega) (by omega)).1 h')
  · intro h'
    rw[←h'];exact e3
theorem isC_ct {x:NF}(h:Nf x)(hne:x≠[]):IsC x (ct x):=by
  have hgp:0<tG x:=by
    cases x with
    |nil=>exact absurd rfl hne
    |cons m x=>exact tG_pos List.mem_cons_self h.head.1
  refine⟨ct_pos h hne,fun m hm=> ?_,fun d hd=> ?_⟩
  · obtain ⟨k, hk⟩ := tG_dvd.1 (Nat.dvd_refl (tG x)) m hm
    refine⟨m.2.num.sign*k*(tL x/m.2.den:Nat),(mul_ct hm _).2 ?_⟩
    have:m.2.num=m.2.num.sign*(tG x*k:Nat):=by rw[←hk];exact(Int.sign_mul_natAbs _).symm
    conv=>lhs;rw[this]
    rw[Int.natCast_mul]
    grind
  · have hdv : tG x * d ∣ tW (tL x) x := by
      refine tW_dvd.2 fun m hm=> ?_
      obtain⟨z,hz⟩:=hd m hm
      have:=(mul_ct hm _).1 hz
      have h2:=congrArg Int.natAbs this
      rw[Int.natAbs_mul,Int.natAbs_mul,Int.natAbs_mul,Int.natAbs_natCast,Int.natAbs_natCast,Int.natAbs_natCast]at h2
      exact⟨z.natAbs,by rw[h2,Nat.mul_assoc]⟩
    rw[tW_eq]at hdv
    have:=Nat.le_of_dvd hgp hdv
    rcases d with _|_|d
    · rw[Nat.mul_zero,Nat.zero_dvd]at hdv;omega
    · rfl
    · have e : tG x * (d + 1 + 1) = tG x * d + tG x + tG x := by rw [Nat.mul_succ, Nat.mul_succ]
      have h3:0≤tG x*d:=Nat.zero_le _
      omega
theorem IsC.unique {x:NF}{r s:Rat}(hne:x≠[])(h:IsC x r)(g:IsC x s):r=s:=by
  have key:∀{r s:Rat},IsC x r→IsC x s→(r/s).den=1:=by
    intro r s h g
    have hs:s≠0:=fun e=>by have:=g.pos;rw[e]at this;exact absurd this (by decide)
    refine h.one (r/s).den fun m hm=> ?_
    obtain⟨z,hz⟩:=h.all m hm
    obtain⟨y,hy⟩:=g.all m hm
    have e:(y:Rat)=r/s*(z:Rat):=by
      have:s*(y:Rat)=r*(z:Rat):=hy.symm.trans hz
      rw[Rat.div_def]
      grind
    have hq:=Rat.num_divInt_den (r/s)
    have hdp:=(r/s).den_pos
    have e2:y*((r/s).den:Int)=(r/s).num*z:=by
      have e3:((y:Int):Rat)=Rat.divInt ((r/s).num*z) (r/s).den:=by
        rw[e]
        conv=>lhs;rw[←hq]
        rw[←int_div,Rat.divInt_mul_divInt,Int.mul_one]
      rw[←int_div]at e3
      have:=(Rat.divInt_eq_divInt_iff (by decide) (by omega)).1 e3
      simpa using this
    have hdz:((r/s).den:Int)∣z:=by
      have h1:((r/s).den)∣(r/s).num.natAbs*z.natAbs:=by
        have:=congrArg Int.natAbs e2
        rw[Int.natAbs_mul,Int.natAbs_mul,Int.natAbs_natCast]at this
        exact⟨y.natAbs,by rw[←this,Nat.mul_comm]⟩
      have h2:=Nat.Coprime.dvd_of_dvd_mul_left (r/s).reduced.symm h1
      exact Int.ofNat_dvd_left.2 h2
    obtain⟨w,hw⟩:=hdz
    exact⟨w,by rw[hz,hw]⟩
  have h1:=key h g
  have h2:=key g h
  have hr:=h.pos
  have hs:=g.pos
  have hr0:r≠0:=fun e=>by rw[e]at hr;exact absurd hr (by decide)
  have hs0:s≠0:=fun e=>by rw[e]at hs;exact absurd hs (by decide)
  have w1:r/s=((r/s).num:Rat):=by rw[←int_div];have:=Rat.num_divInt_den (r/s);rw[h1]at this;exact this.symm
  have w2:s/r=((s/r).num:Rat):=by rw[←int_div];have:=Rat.num_divInt_den (s/r);rw[h2]at this;exact this.symm
  have hp:(r/s)*(s/r)=1:=by rw[Rat.div_def,Rat.div_def];grind
  have hz:(r/s).num*(s/r).num=1:=by
    rw[w1,w2,←Rat.intCast_mul]at hp
    exact Rat.intCast_inj.1 hp
  have hpos:0<(r/s).num:=by
    rcases Int.lt_trichotomy (r/s).num 0 with h|h|h
    · exfalso
      have h3:(s/r).num<0:=by
        rcases Int.lt_trichotomy (s/r).num 0 with k|k|k
        · exact k
        · rw[k,Int.mul_zero]at hz;omega
        · have:=Int.mul_neg_of_neg_of_pos h k;omega
      have h4:r/s<0:=by rw[Rat.lt_iff];simpa using h
      have h5:r=(r/s)*s:=by rw[Rat.div_def];grind
      have h6:0< -(r/s):=by grind
      have h7:=Rat.mul_pos h6 hs
      rw[h5]at hr
      grind
    · rw[h,Int.zero_mul]at hz;omega
    · exact h
  have h1':(r/s).num=1:=by
    have:(r/s).num∣1:=⟨_,hz.symm⟩
    have:=Int.le_of_dvd (by decide) this
    omega
  rw[h1']at w1
  have:r=(r/s)*s:=by rw[Rat.div_def];grind
  rw[this,w1]
  show((1:Int):Rat)*s=s
  rw[show ((1:Int):Rat)=1 from rfl,Rat.one_mul]
theorem scl_mem {c:Rat}{x:NF}{m:Int×Rat}:m∈scl c x↔∃l∈x,m=(l.1,c*l.2):=by
  unfold scl;rw[List.mem_map];exact⟨fun ⟨l,h,e⟩=>⟨l,h,e.symm⟩,fun ⟨l,h,e⟩=>⟨l,h,e.symm⟩⟩
theorem IsC.scl {x:NF}{r c:Rat}(hc:0<c)(h:IsC x r):IsC (scl c x) (c*r):=by
  refine⟨Rat.mul_pos hc h.pos,fun m hm=> ?_,fun d hd=>h.one d fun m hm=> ?_⟩
  · obtain ⟨l, hl, rfl⟩ := scl_mem.1 hm
    obtain⟨z,hz⟩:=h.all l hl
    exact⟨z,by show c*l.2=_;rw[hz,Rat.mul_assoc]⟩
  · obtain ⟨z, hz⟩ := hd (m.1, c * m.2) (scl_mem.2 ⟨m, hm, rfl⟩)
    refine⟨z,?_⟩
    have hc0:c≠0:=fun e=>by rw[e]at hc;exact absurd hc (by decide)
    have hz:c*m.2=c*r*(((d:Int)*z:Int):Rat):=hz
    rw[Rat.mul_assoc]at hz
    generalize (((d:Int)*z:Int):Rat)=t at hz⊢
    grind
theorem IsC.neg {x:NF}{r:Rat}(h:IsC x r):IsC (Tryz.scl (-1) x) r:=by
  refine⟨h.pos,fun m hm=> ?_,fun d hd=>h.one d fun m hm=> ?_⟩
  · obtain ⟨l, hl, rfl⟩ := scl_mem.1 hm
    obtain⟨z,hz⟩:=h.all l hl
    refine⟨-z,?_⟩
    show -1*l.2=_
    rw[hz,Rat.intCast_neg];grind
  · obtain ⟨z, hz⟩ := hd (m.1, -1 * m.2) (scl_mem.2 ⟨m, hm, rfl⟩)
    refine⟨-z,?_⟩
    have hz: -1*m.2=r*(((d:Int)*z:Int):Rat):=hz
    rw[Int.mul_neg,Rat.intCast_neg];grind
noncomputable def pc:NF→Rat
  |[]=>1
  |m::x=>if m.2<0 then -(ct (m::x))else ct (m::x)
noncomputable def pr (y:NF):NF:=scl (pc y)⁻¹ y
theorem pc_ne {y:NF}(h:Nf y):pc y≠0:=by
  cases y with
  |nil=>exact(by decide:(1:Rat)≠0)
  |cons m x=>
    have hp:=ct_pos h (by simp)
    unfold pc
    split<;>grind
theorem inv_ne {q:Rat}(h:q≠0):q⁻¹≠0:=by
  intro e
  have h1:=Rat.mul_inv_cancel q h
  rw[e,Rat.mul_zero]at h1
  exact absurd h1 (by decide)
theorem pr_nf {y:NF}(h:Nf y):Nf (pr y):=h.scl (inv_ne (pc_ne h))
theorem pr_len (y:NF):(pr y).length=y.length:=scl_len _ _
theorem tL_lt {y:NF}{N:Nat}(h:Wt y N):(tL y:Int)<pw (N+1):=by
  have key:∀{y:NF} {N:Nat},Wt y N→∀(L0 a:Nat),0<L0→(L0:Int)<pw a→((y.foldl (fun l m=>Nat.lcm l m.2.den) L0:Nat):Int)<pw (a+N):=by
    intro y N h
    induction h with
    |nil=>intro L0 a _ ha;exact Int.lt_of_lt_of_le ha (pw_mono (Nat.le_add_right _ _))
    |cons h t h' ih=>
      rename_i m x n N M
      intro L0 a h0 ha
      rw[List.foldl_cons]
      have hd:=m.2.den_pos
      have h1:(Nat.lcm L0 m.2.den:Int)<pw (a+n):=by
        have h2:=Nat.lcm_le_mul h0 hd
        have h3:(L0:Int)*(m.2.den:Int)<pw a*pw n:=by
          have p1:=h.den
          have p2:=pw_pos n
          have e1:(L0:Int)*m.2.den≤L0*pw n:=Int.mul_le_mul_of_nonneg_left (by omega) (by omega)
          have e2:(L0:Int)*pw n<pw a*pw n:=Int.mul_lt_mul_of_pos_right ha p2
          omega
        rw[←pw_add]at h3
        rw[←Int.natCast_mul]at h3
        omega
      have:=ih _ (a+n) (Nat.lcm_pos h0 hd) h1
      exact Int.lt_of_lt_of_le this (pw_mono (by omega))
  have:=key h 1 1 (by decide) (by decide)
  rw[Nat.add_comm N 1];exact this
theorem tG_lt {y:NF}{N:Nat}(h:Wt y N)(hy:Nf y):(tG y:Int)<pw (N+1):=by
  cases y with
  |nil=>show(0:Int)<_;exact pw_pos _
  |cons m x=>
    have h1:=tG_dvd.1 (Nat.dvd_refl (tG (m::x))) m List.mem_cons_self
    have hz:m.2.num.natAbs≠0:=fun e=>hy.head.1 (num_zero.1 (by omega))
    have h2:=Nat.le_of_dvd (by omega) h1
    have h3:=h.mem m List.mem_cons_self
    have h4:=pw_mono (show N≤N+1 by omega)
    have:=h3.lo;have:=h3.hi
    omega
theorem Nf.take {y:NF}(h:Nf y)(i:Nat):Nf (y.take i):=⟨h.up.sublist (List.take_sublist _ _),fun m hm=>h.nz m (List.mem_of_mem_take hm)⟩
theorem fold_take {β:Type}(f:β→Int×Rat→β)(b:β)(y:NF){i:Nat}(h:i<y.length):(y.take (i+1)).foldl f b=f ((y.take i).foldl f b) y[i]:=by
  rw[List.take_add_one,List.getElem?_eq_getElem h,List.foldl_append];rfl
theorem gcdI_nat (a b:Nat):gcdI (a:Int) (b:Int)=((Nat.gcd a b:Nat):Int):=by unfold gcdI;rw[Int.gcd_natCast_natCast]
theorem ab_nat (z:Int):ab z=(z.natAbs:Int):=by unfold ab;split<;>omega
theorem lcm_div (L d:Nat):L*(d/Nat.gcd L d)=Nat.lcm L d:=by
  rw[Nat.lcm_eq_mul_div,Nat.mul_div_assoc _ (Nat.gcd_dvd_right L d)]
theorem lcm_div' (L d:Nat):L/Nat.gcd L d*d=Nat.lcm L d:=by
  rw[Nat.lcm_comm,←lcm_div,Nat.gcd_comm,Nat.mul_comm]
theorem nmG {y:NF}{N:Nat}(h:Wt y N)(hy:Nf y)(i:Nat):Nm (canon (tG (y.take i):Int)) (tG (y.take i):Int) (N+1):= .canon (by omega) (tG_lt (h.take i) (hy.take i))
theorem nmL {y:NF}{N:Nat}(h:Wt y N)(i:Nat):Nm (canon (tL (y.take i):Int)) (tL (y.take i):Int) (N+1):= .canon (by omega) (tL_lt (h.take i))
theorem pc_sign {m:Int×Rat}{x:NF}:pc (m::x)=Rat.divInt (if m.2<0 then -(tG (m::x):Int)else tG (m::x)) (tL (m::x)):=by
  show(if m.2<0 then -(ct (m::x))else ct (m::x))=_
  unfold ct
  by_cases h:m.2<0
  · rw[if_pos h,if_pos h,Rat.neg_divInt]
  · rw[if_neg h,if_neg h]
theorem neg_iff {q:Rat}:sgn q.num<0↔q<0:=by
  rw[Rat.lt_iff,show(0:Rat).den=1 from rfl,show(0:Rat).num=0 from rfl];unfold sgn;split<;>(try split)<;>omega
theorem bsign (b:Bool)(x:Int){n:Nat}(h:Nm (canon x) x n):Wn (b,canon x) (if b=true then -x else x) n:=⟨h.limbs,by unfold wv;rw[show Num.val (canon x)=x from h.val],h.len⟩
theorem Prime_loop {y:NF}{N:Nat}(h:Wt y N)(hy:Nf y)(hN:N≤1099511627776):∀k,∃j,linear_Prime.L7 (k+j) (fc y) false [] (canon 1) (y.length:Int) 0=linear_Prime.L7 k (fc y) false (canon (tG y)) (canon (tL y)) (y.length:Int) (y.length:Int):=by
  have key:∀d i,i+d=y.length→∃j,∀k,linear_Prime.L7 (k+j) (fc y) false (canon (tG (y.take i))) (canon (tL (y.take i))) (y.length:Int) (i:Int)=linear_Prime.L7 k (fc y) false (canon (tG y)) (canon (tL y)) (y.length:Int) (y.length:Int):=by
    intro d
    induction d with
    | zero => intro i hi; obtain rfl : i = y.length := by omega
              exact⟨0,fun k=>by rw[List.take_length];rfl⟩
    |succ d ih=>
      intro i hi
      have hiy:i<y.length:=by omega
      have hif:i<(fc y).length:=by rw[fc_len];exact hiy
      have e1:List.getD (fc y) (Int.toNat (i:Int)) zt73=(y[i].1,rcan y[i].2):=(getD_at _ _ hif).trans (fc_get y hif)
      obtain⟨j,hj⟩:=ih (i+1) (by omega)
      have hw:=h.len
      have hm:=h.mem _ (List.getElem_mem hiy)
      have nd:Nm (canon (y[i].2.den:Int)) (y[i].2.den:Int) (N+1):=(rden hm).mono (by omega)
      have nn:Nm (canon (ab y[i].2.num)) (ab y[i].2.num) (N+1):=(rnum hm).nm.mono (by omega)
      have g1:nat_Gcd.F (canon (tG (y.take i)),(List.getD (fc y) (Int.toNat (i:Int)) zt73).2.1.2,())=some (canon (tG (y.take (i+1))),()):=by
        rw[e1]
        refine((nmG h hy i).Gcd_F nn (by omega)).trans ?_
        rw[ab_nat,gcdI_nat]
        unfold tG;rw[fold_take _ _ _ hiy]
      have hgp:0<Nat.gcd (tL (y.take i)) y[i].2.den:=Nat.gcd_pos_of_pos_left _ (tL_pos _)
      have g2:nat_Gcd.F (canon (tL (y.take i)),(List.getD (fc y) (Int.toNat (i:Int)) zt73).2.2,())=some (canon ((Nat.gcd (tL (y.take i)) y[i].2.den:Nat):Int),()):=by
        rw[e1]
        refine((nmL h i).Gcd_F nd (by omega)).trans ?_
        rw[gcdI_nat]
      have ng:Nm (canon ((Nat.gcd (tL (y.take i)) y[i].2.den:Nat):Int)) ((Nat.gcd (tL (y.take i)) y[i].2.den:Nat):Int) (N+1):=
        .canon (Int.natCast_nonneg _) (by
          have h1:=Nat.le_of_dvd y[i].2.den_pos (Nat.gcd_dvd_right (tL (y.take i)) y[i].2.den)
          have h2:=nd.lt
          omega)
      have g3:nat_Div.F ((List.getD (fc y) (Int.toNat (i:Int)) zt73).2.2,canon ((Nat.gcd (tL (y.take i)) y[i].2.den:Nat):Int),())=some (canon ((y[i].2.den/Nat.gcd (tL (y.take i)) y[i].2.den:Nat):Int),canon ((y[i].2.den%Nat.gcd (tL (y.take i)) y[i].2.den:Nat):Int),0,()):=by
        rw[e1]
        refine(nd.Div_F ng (by omega) (by omega)).trans ?_
        unfold divI
        rw[if_neg (by omega)]
        simp
      have nq:Nm (canon ((y[i].2.den/Nat.gcd (tL (y.take i)) y[i].2.den:Nat):Int)) ((y[i].2.den/Nat.gcd (tL (y.take i)) y[i].2.den:Nat):Int) (N+1):=
        .canon (Int.natCast_nonneg _) (by
          have h1:=Nat.div_le_self y[i].2.den (Nat.gcd (tL (y.take i)) y[i].2.den)
          have h2:=nd.lt
          omega)
      have g4:nat_Mul.F (canon (tL (y.take i)),canon ((y[i].2.den/Nat.gcd (tL (y.take i)) y[i].2.den:Nat):Int),())=some (canon (tL (y.take (i+1))),()):=by
        refine((nmL h i).Mul_F nq (by omega)).trans ?_
        rw[←Int.natCast_mul,lcm_div]
        unfold tL;rw[fold_take _ _ _ hiy]
      refine⟨j+1,fun k=>(linear_Prime.L7_succ _ _ _ _ _ _ _).trans (ltb hiy (inb hif (st g1 (st g2 (st g3 (st g4 ?_))))))⟩
      show linear_Prime.L7 (k+j) (fc y) false (canon (tG (y.take (i+1)))) (canon (tL (y.take (i+1)))) (y.length:Int) (IntKind.i64.wrap ((i:Int)+1))=_
      rw[up1 (by omega)];exact hj k
  intro k
  obtain⟨j,hj⟩:=key y.length 0 (by omega)
  refine⟨j,?_⟩
  have:=hj k
  rw[List.take_zero]at this
  rw[show canon (tG [])=[]from canon_zero]at this
  exact this
theorem Rf.Prime_F {f x N n}(h:Rf f x N)(hN:N≤1099511627776)(hc:Ft (pc (nrm x)) n)(hn:N+n≤1099511627776):linear_Prime.F (f,())=some (fc (pr (nrm x)),rcan (pc (nrm x)),()):=by
  have hw:=h.wt.nrm
  have hy:=(nrm_nf x).1
  have hno:=h.Norm_F hN
  generalize nrm x=y at hw hy hno hc
  have hwl:=hw.len
  obtain⟨j,hj⟩:=Prime_loop hw hy hN 1
  refine linear_Prime.of (1+j) f (st hno ?_)
  match y,hw,hy,hc,hj with
  |[],_,_,_,_=>exact yes rfl (st (Whole_F (z:=1) (by decide)) rfl)
  |m::y,hw,hy,hc,hj=>
    have hj':linear_Prime.L7 (1+j) (fc (m::y)) false zt43 (canon 1) ((fc (m::y)).length:Int) 0=some (fc (pr (m::y)),rcan (pc (m::y)),()):=by
      rw[fc_len]
      refine hj.trans ((linear_Prime.L7_succ 0 _ _ _ _ _ _).trans (geb (Nat.lt_irrefl _) ?_))
      have hm:=hw.mem m List.mem_cons_self
      have hs:ratio_Sign.F (rcan m.2,())=some (sgn m.2.num,()):=hm.rt.Sign_F (by omega)
      have hG:=nmG hw hy (m::y).length
      have hL:=nmL hw (m::y).length
      rw[List.take_length]at hG hL
      have hLp:=tL_pos (m::y)
      have hO:=Of_R (bsign (decide (sgn m.2.num<0)) _ hG) hL.wn (show N+1<70368744177664 by omega) (by omega)
      have e2:Rat.divInt (if decide (sgn m.2.num<0)=true then -(tG (m::y):Int)else tG (m::y)) (tL (m::y))=pc (m::y):=by
        rw[pc_sign]
        congr 1
        by_cases hq:m.2<0
        · rw[if_pos hq,if_pos (decide_eq_true (neg_iff.2 hq))]
        · rw[if_neg hq,if_neg (by simpa using fun e=>hq (neg_iff.1 e))]
      rw[e2]at hO
      have hcn:=pc_ne hy
      have hI:=hc.rt.Inv_F (by omega) hcn
      have hS:=hw.rf.Scale_F (inv_ft hc hcn).rt (inv_ne hcn) (by omega)
      rw[nrm_self hy]at hS
      exact at0 (st hs (st hO (st hI (st hS rfl))))
    exact no rfl (st (Of_F (n:=1) (by decide)) hj')
theorem whole_num {q:Rat}{L:Nat}(h:q.den∣L)(hL:0<L):(q*(L:Int)).num.natAbs=q.num.natAbs*(L/q.den):=by
  obtain⟨t,rfl⟩:=h
  have hd:=q.den_pos
  rw[Nat.mul_div_cancel_left _ hd]
  have e:q*(((q.den*t:Nat):Int):Rat)=((q.num*t:Int):Rat):=by
    conv=>lhs;rw[←Rat.num_divInt_den q]
    rw[←int_div,←int_div,Rat.divInt_mul_divInt]
    refine(Rat.divInt_eq_divInt_iff (by omega) (by decide)).2 ?_
    rw[Int.natCast_mul,Rat.num_divInt_den]
    grind
  rw[e]
  show(q.num*t).natAbs=_
  rw[Int.natAbs_mul,Int.natAbs_natCast]
theorem rPrime_dens {y:NF}{N:Nat}(h:Wt y N)(hN:N≤1099511627776):∃j,∀k,r06_Prime.L6 (k+j) false (fc y) [1] 0=r06_Prime.L11 k false (fc y) (canon (tL y)) [] 0:=by
  have hw:=h.len
  have key:=downM (L:=fun k i=>r06_Prime.L6 k false (fc y) (canon (tL (y.take i))) (i:Int)) (M:=fun k=>r06_Prime.L11 k false (fc y) (canon (tL y)) [] 0) (Inv:=fun _=>True) (n:=y.length)
    (fun _=>⟨1,fun k=>(r06_Prime.L6_succ _ _ _ _ _).trans (by
      rw[List.take_length]
      exact geb (n:=(fc y).length) (by rw[fc_len];omega) rfl)⟩)
    (fun i hiy _=> .inr ⟨trivial,fun k=>by
      have hif:i<(fc y).length:=by rw[fc_len];exact hiy
      have e1:List.getD (fc y) (Int.toNat (i:Int)) zt73=(y[i].1,rcan y[i].2):=(getD_at _ _ hif).trans (fc_get y hif)
      have hm:=h.mem _ (List.getElem_mem hiy)
      have nd:Nm (canon (y[i].2.den:Int)) (y[i].2.den:Int) (N+1):=(rden hm).mono (by omega)
      have g1:r02_Lcm.F ((false,canon (tL (y.take i))),(false,(List.getD (fc y) (Int.toNat (i:Int)) zt73).2.2),())=some (canon (tL (y.take (i+1))),()):=by
        rw[e1]
        refine((nmL h i).wn.rLcm_F nd.wn (by omega) (by omega)).trans ?_
        unfold lcmV
        rw[ab_nat,ab_nat,Int.natAbs_natCast,Int.natAbs_natCast,gcdI_nat,←Int.natCast_ediv,←Int.natCast_mul,lcm_div']
        unfold tL;rw[fold_take _ _ _ hiy]
      refine(r06_Prime.L6_succ _ _ _ _ _).trans (ltb hif (inb hif (st g1 ?_)))
      show r06_Prime.L6 k false (fc y) (canon (tL (y.take (i+1)))) (IntKind.i64.wrap ((i:Int)+1))=_
      rw[up1 (by omega)]⟩) 0 (Nat.zero_le _) trivial
  obtain⟨j,hj⟩:=key
  refine⟨j,fun k=> ?_⟩
  have:=hj k
  simp only[List.take_zero]at this
  rw[show canon ((tL []:Nat):Int)=[1]from canon_one (by decide)]at this
  exact this
theorem tW_gt {y:NF}{N:Nat}(h:Wt y N){L:Nat}(hL:(L:Int)<pw (N+1)){m:Int×Rat}(hm:m∈y):(m.2.num.natAbs*(L/m.2.den):Nat)<pw (N+(N+1)):=by
  have h1:=h.mem m hm
  have h2:=Nat.div_le_self L m.2.den
  rw[pw_add,Int.natCast_mul]
  have p1:=pw_pos N
  have p2:=pw_pos (N+1)
  have:=h1.lo;have:=h1.hi
  have e1:(m.2.num.natAbs:Int)*((L/m.2.den:Nat):Int)≤(m.2.num.natAbs:Int)*pw (N+1):=Int.mul_le_mul_of_nonneg_left (by omega) (by omega)
  have e2:(m.2.num.natAbs:Int)*pw (N+1)<pw N*pw (N+1):=Int.mul_lt_mul_of_pos_right (by omega) p2
  omega
theorem tW_lt {y:NF}{N:Nat}(h:Wt y N)(hy:Nf y){L:Nat}(hL:(L:Int)<pw (N+1))(hd:∀m∈y,m.2.den∣L)(hp:0<L):(tW L y:Int)<pw (N+(N+1)):=by
  cases y with
  |nil=>show(0:Int)<_;exact pw_pos _
  |cons m x=>
    have h1:=tW_dvd.1 (Nat.dvd_refl (tW L (m::x))) m List.mem_cons_self
    have hz:m.2.num.natAbs≠0:=fun e=>hy.head.1 (num_zero.1 (by omega))
    have hq:0<L/m.2.den:=Nat.div_pos (Nat.le_of_dvd hp (hd m List.mem_cons_self)) m.2.den_pos
    have h2:=Nat.le_of_dvd (Nat.mul_pos (by omega) hq) h1
    have h3:=tW_gt h hL (m:=m) List.mem_cons_self
    omega
theorem rPrime_nums {y:NF}{N:Nat}(h:Wt y N)(hy:Nf y)(hN:N≤1099511627776):∀k,∃j,r06_Prime.L11 (k+j) false (fc y) (canon (tL y)) [] 0=r06_Prime.L11 k false (fc y) (canon (tL y)) (canon (tG y)) (y.length:Int):=by
  have hw:=h.len
  have hL:=tL_lt h
  have hLp:=tL_pos y
  have key:=downM (L:=fun k i=>r06_Prime.L11 k false (fc y) (canon (tL y)) (canon (tW (tL y) (y.take i))) (i:Int)) (M:=fun k=>r06_Prime.L11 k false (fc y) (canon (tL y)) (canon (tG y)) (y.length:Int)) (Inv:=fun _=>True) (n:=y.length)
    (fun _=>⟨0,fun k=>by rw[List.take_length,tW_eq];rfl⟩)
    (fun i hiy _=> .inr ⟨trivial,fun k=>by
      have hif:i<(fc y).length:=by rw[fc_len];exact hiy
      have e1:List.getD (fc y) (Int.toNat (i:Int)) zt73=(y[i].1,rcan y[i].2):=(getD_at _ _ hif).trans (fc_get y hif)
      have hm:=h.mem _ (List.getElem_mem hiy)
      have hdv:=tL_dvd (List.getElem_mem hiy)
      have nL:Nm (canon (tL y:Int)) (tL y:Int) (N+1):= .canon (by omega) hL
      have rL:Rt ((false,canon (tL y)),[1]) ((tL y:Int):Rat) (N+1):=by
        have:=Rt.of_parts (show 1≤N+1 by omega) nL.wn ((Nm.one (x:=1) (by decide)).mono (show 1≤N+1 by omega))
        rw[int_div]at this;exact this
      have g1:r03_Mul.F ((List.getD (fc y) (Int.toNat (i:Int)) zt73).2,((false,canon (tL y)),[1]),())=some (rcan (y[i].2*((tL y:Int):Rat)),()):=by
        rw[e1];exact(hm.mono (Nat.le_succ N)).rt.rMul_F rL (by omega)
      have nW:Nm (canon (tW (tL y) (y.take i):Int)) (tW (tL y) (y.take i):Int) (N+(N+1)):=
        .canon (by omega) (tW_lt (h.take i) (hy.take i) hL (fun m hm=>tL_dvd (List.mem_of_mem_take hm)) hLp)
      have hab:ab (y[i].2*((tL y:Int):Rat)).num=((y[i].2.num.natAbs*(tL y/y[i].2.den):Nat):Int):=by
        rw[ab_nat,whole_num hdv hLp]
      have nn:Nm (canon (ab (y[i].2*((tL y:Int):Rat)).num)) ((y[i].2.num.natAbs*(tL y/y[i].2.den):Nat):Int) (N+(N+1)):=by
        rw[hab];exact .canon (by omega) (tW_gt h hL (List.getElem_mem hiy))
      have g2:r01_Gcd.F (canon (tW (tL y) (y.take i)),canon (ab (y[i].2*((tL y:Int):Rat)).num),())=some (canon (tW (tL y) (y.take (i+1))),()):=by
        refine(nW.rGcd_F nn (by omega)).trans ?_
        rw[gcdI_nat]
        unfold tW;rw[fold_take _ _ _ hiy]
      refine(r06_Prime.L11_succ _ _ _ _ _ _).trans (ltb hif (inb hif (st g1 (st g2 ?_))))
      show r06_Prime.L11 k false (fc y) (canon (tL y)) (canon (tW (tL y) (y.take (i+1)))) (IntKind.i64.wrap ((i:Int)+1))=_
      rw[up1 (by omega)]⟩) 0 (Nat.zero_le _) trivial
  obtain⟨j,hj⟩:=key
  intro k
  refine⟨j,?_⟩
  have:=hj k
  simp only[List.take_zero]at this
  rw[show canon ((tW (tL y) []:Nat):Int)=[]from canon_zero]at this
  exact this
theorem Rf.rPrime_F {f x N n}(h:Rf f x N)(hN:N≤1099511627776)(hc:Ft (pc (nrm x)) n)(hn:N+n+(nrm x).length*n≤1099511627776):r06_Prime.F (f,())=some (fc (pr (nrm x)),rcan (pc (nrm x)),()):=by
  have hw:=h.wt.nrm
  have hy:=(nrm_nf x).1
  have hno:=h.rNorm_F hN
  generalize nrm x=y at hw hy hno hc hn
  have hwl:=hw.len
  obtain⟨j,hj⟩:=rPrime_nums hw hy hN 1
  obtain⟨j',hj'⟩:=rPrime_dens hw hN
  refine r06_Prime.of (1+j+j') f (st hno ?_)
  match y,hw,hy,hc,hj,hj',hn with
  |[],_,_,_,_,_,_=>exact yes rfl (st (rWhole_F (z:=1) (by decide)) rfl)
  |m::y,hw,hy,hc,hj,hj',hn=>
    refine no rfl ((hj' (1+j)).trans (hj.trans ((r06_Prime.L11_succ 0 _ _ _ _ _).trans (geb (n:=(fc (m::y)).length) (by rw[fc_len];omega) ?_))))
    have hm:=hw.mem m List.mem_cons_self
    have hs:r03_Sign.F (rcan m.2,())=some (sgn m.2.num,()):=hm.rt.rSign_F (by omega)
    have hG:=nmG hw hy (m::y).length
    have hL:=nmL hw (m::y).length
    rw[List.take_length]at hG hL
    have hLp:=tL_pos (m::y)
    have hr:=Rt.of_parts (show 1≤N+1 by omega) (bsign (decide (sgn m.2.num<0)) _ hG) hL
    have e2:Rat.divInt (if decide (sgn m.2.num<0)=true then -(tG (m::y):Int)else tG (m::y)) (tL (m::y))=pc (m::y):=by
      rw[pc_sign]
      congr 1
      by_cases hq:m.2<0
      · rw[if_pos hq,if_pos (decide_eq_true (neg_iff.2 hq))]
      · rw[if_neg hq,if_neg (by simpa using fun e=>hq (neg_iff.1 e))]
    rw[e2]at hr
    have hcn:=pc_ne hy
    have hI:=hc.rt.rInv_F (by omega) hcn
    have hS:=hw.rf.rScale_F (inv_ft hc hcn).rt hn
    rw[nrm_self (show Nf (scl (pc (m::y))⁻¹ (m::y))from pr_nf hy)]at hS
    exact at0 (st hs (st (hr.rNorm_F (by omega)) (st hI (st hS rfl))))
def rtx (q:Rat):ByteArray:=if q.den=1 then wtxt q.num else wtxt q.num++((⟨#[47]⟩:ByteArray)++txt 10 q.den)
theorem lets_rtx (q:Rat):lets (rtx q)=if q.den=1 then lets (wtxt q.num)else lets (wtxt q.num)++47::lets (txt 10 q.den):=by
 unfold rtx
 split
 ·rfl
 ·rw [lets_append,lets_append];rfl
theorem rtx_chr (q:Rat):∀c∈lets (rtx q),45≤c∧c≤57:=by
 rw[lets_rtx]
 have h1:=wtxt_chr q.num
 have h2:=txt_dig q.den
 intro c hc
 split at hc
 ·rcases h1 c hc with h|h
  ·omega
  ·unfold isDig at h;omega
 ·rcases List.mem_append.1 hc with hc|hc
  ·rcases h1 c hc with h|h
   ·omega
   ·unfold isDig at h;omega
  ·rcases List.mem_cons.1 hc with h|hc
   ·omega
   ·have:=h2 c hc;unfold isDig at this;omega
theorem rtx_inj {p q:Rat}(h:lets (rtx p)=lets (rtx q)):p=q:=by
 rw[lets_rtx,lets_rtx]at h
 have no47:∀z:Int,(47:Int)∉lets (wtxt z):=fun z hc=>by
  rcases wtxt_chr z 47 hc with h|h
  ·omega
  ·unfold isDig at h;omega
 split at h<;>split at h
 ·exact Rat.ext (wtxt_inj h) (by omega)
 ·exact absurd h (no_cut (no47 _))
 ·exact absurd h.symm (no_cut (no47 _))
 ·obtain ⟨h1,h2⟩:=cut_at (no47 _) (no47 _) h
  exact Rat.ext (wtxt_inj h1) (txt_inj h2)
theorem txt_size' {z:Int}{n:Nat}(h0:0≤z)(h:z<pw n):(txt 10 z.toNat).size≤32*n+1:=by
 rw[pw_bin]at h
 exact txt_size (by omega)
theorem Ft.num_ab {q n}(h:Ft q n):ab q.num<pw n:=by have:=h.lo;have:=h.hi;unfold ab;split<;>omega
theorem rtx_size {q:Rat}{n:Nat}(h:Ft q n):(rtx q).size≤64*n+4:=by
 have h1:=wtxt_size h.num_ab
 have h2:=txt_size' (z:=(q.den:Int)) (by omega) h.den
 rw[Int.toNat_natCast]at h2
 unfold rtx
 split
 ·omega
 ·rw [size_append,size_append]
  show _+(1+_)≤_
  omega
theorem Rt.Text_F {r:Dt47}{q:Rat}{n:Nat}(h:Rt r q n)(hn:n≤1099511627776):ratio_Text.F (r,())=some (rtx q,()):=by
 have hd:=den_pos q
 have h1:=wtxt_size h.ft.num_ab
 have h2:=txt_size' (z:=(q.den:Int)) (by omega) h.ft.den
 rw[Int.toNat_natCast]at h2
 have e1:=(rden h.ft).Cmp_F (show Nm [1] 1 n from(Nm.one (x:=1) (by decide)).mono h.pos) (by omega) (by omega)
 refine ratio_Text.of 0 r (st (h.Norm_F (by omega)) (st (Text_W (rnum h.ft) hn) (st e1 ?_)))
 by_cases hq:q.den=1
 ·unfold rtx;rw[if_pos hq]
  refine no ?_ rfl
  show(cmpI (q.den:Int) 1 != 0)=false
  rw[hq];decide
 ·unfold rtx;rw[if_neg hq]
  have ed:=Tryz.Text_F (b:=10) (rden h.ft).limbs (by have:=(rden h.ft).len;omega)
  rw[if_pos (by decide),(rden h.ft).val,Int.toNat_natCast]at ed
  have e2:ratio_decimal.F (canon (q.den:Int),())=some (txt 10 q.den,()):=ratio_decimal.of 0 _ (st ed rfl)
  refine yes ?_ (st e2 (yes (decide_eq_true ?_) (yes (decide_eq_true ?_) rfl)))
  ·show (cmpI (q.den:Int) 1 != 0)=true
   rw[bne_iff_ne];intro e;exact hq (by have:=(cmpI_zero _ _).1 e;omega)
  ·show 1+(txt 10 q.den).size≤_;omega
  ·show (wtxt q.num).size+((⟨#[47]⟩:ByteArray)++txt 10 q.den).size≤_
   rw[size_append];show _+(1+_)≤_;omega
def ptx (m:Int×Rat):ByteArray:=rtx m.2++(⟨#[42,120]⟩:ByteArray)++wtxt m.1
def gst (s:ByteArray)(m:Int×Rat):ByteArray:=(if s.size=0 then s else s++(⟨#[43]⟩:ByteArray))++ptx m
def gtx (x:NF):ByteArray:=x.foldl gst (⟨#[]⟩:ByteArray)
def ftx (x:NF):ByteArray:=if x=[]then(⟨#[48]⟩:ByteArray)else gtx x
theorem lets_ptx (m:Int×Rat):lets (ptx m)=lets (rtx m.2)++42::120::lets (wtxt m.1):=by
 unfold ptx;rw[lets_append,lets_append,List.append_assoc];rfl
theorem ptx_pos (m:Int×Rat):(ptx m).size≠0:=by
 intro h
 rw[←lets_len,lets_ptx,List.length_append]at h
 simp only[List.length_cons]at h;omega
theorem gst_pos (s:ByteArray)(m:Int×Rat):(gst s m).size≠0:=by
 unfold gst;rw[size_append];have:=ptx_pos m;omega
theorem gtx_fold:∀(x:NF) (s:ByteArray),s.size≠0→lets (x.foldl gst s)=lets s++x.flatMap fun m=>43::lets (ptx m)
 |[],s,_=>by simp
 |m::x,s,h=>by
  rw[List.foldl_cons,gtx_fold x _ (gst_pos s m)]
  unfold gst
  rw[if_neg h,lets_append,lets_append,List.flatMap_cons,List.append_assoc,List.append_assoc];rfl
theorem lets_gtx (m:Int×Rat)(x:NF):lets (gtx (m::x))=lets (ptx m)++x.flatMap fun m=>43::lets (ptx m):=by
 unfold gtx
 rw[List.foldl_cons,gtx_fold x _ (gst_pos _ m)]
 unfold gst
 rw[if_pos (by rfl),lets_append];rfl
theorem ptx_chr (m:Int×Rat):∀c∈lets (ptx m),c=42∨c=120∨(45≤c∧c≤57):=by
 rw[lets_ptx]
 intro c hc
 rcases List.mem_append.1 hc with hc|hc
 ·exact .inr (.inr (rtx_chr _ c hc))
 ·rcases List.mem_cons.1 hc with h|hc
  ·exact .inl h
  ·rcases List.mem_cons.1 hc with h|hc
   ·exact .inr (.inl h)
   ·rcases wtxt_chr _ c hc with h|h
    ·omega
    ·unfold isDig at h;omega
theorem ptx_inj {m l:Int×Rat}(h:lets (ptx m)=lets (ptx l)):m=l:=by
 rw[lets_ptx,lets_ptx]at h
 have no:∀q:Rat,(42:Int)∉lets (rtx q):=fun q hc=>by have:=rtx_chr q 42 hc;omega
 obtain⟨h1,h2⟩:=cut_at (no _) (no _) h
 exact Prod.ext (wtxt_inj (List.cons.inj h2).2) (rtx_inj h1)
theorem parts_inj:∀{m l:Int×Rat} {x y:NF},lets (ptx m)++(x.flatMap fun m=>43::lets (ptx m))=lets (ptx l)++(y.flatMap fun m=>43::lets (ptx m))→m=l∧x=y:=by
 have no:∀m:Int×Rat,(43:Int)∉lets (ptx m):=fun m hc=>by have:=ptx_chr m 43 hc;omega
 intro m l x
 induction x generalizing m l with
 |nil=>
  intro y h
  cases y with
  |nil=>simp only[List.flatMap_nil,List.append_nil]at h;exact⟨ptx_inj h,rfl⟩
  |cons k y=>
   rw[List.flatMap_nil,List.append_nil,List.flatMap_cons]at h
   exact absurd h (no_cut (no m))
 |cons k x ih=>
  intro y h
  cases y with
  |nil=>
   rw[List.flatMap_nil,List.append_nil,List.flatMap_cons]at h
   exact absurd h.symm (no_cut (no l))
  |cons k' y=>
   rw[List.flatMap_cons,List.flatMap_cons]at h
   obtain⟨h1,h2⟩:=cut_at (no m) (no l) h
   obtain⟨h3,h4⟩:=ih h2
   exact⟨ptx_inj h1,by rw[h3,h4]⟩
theorem ftx_inj {x y:NF}(h:lets (ftx x)=lets (ftx y)):x=y:=by
 have key:∀(m:Int×Rat) (x:NF),lets (gtx (m::x))≠[48]:=by
  intro m x e
  rw[lets_gtx,lets_ptx]at e
  have:(42:Int)∈[(48:Int)]:=by rw[←e];simp
  simp at this
 cases x with
 |nil=>cases y with
  |nil=>rfl
  |cons l y=>exact absurd h.symm (key l y)
 |cons m x=>cases y with
  |nil=>exact absurd h (key m x)
  |cons l y=>
   have h:lets (gtx (m::x))=lets (gtx (l::y)):=h
   rw[lets_gtx,lets_gtx]at h
   obtain⟨h1,h2⟩:=parts_inj h
   rw[h1,h2]
theorem ftx_chr (x:NF):(32:Int)∉lets (ftx x):=by
 cases x with
 |nil=>show(32:Int)∉[(48:Int)];decide
 |cons m x=>
  show(32:Int)∉lets (gtx (m::x))
  rw[lets_gtx]
  intro hc
  rcases List.mem_append.1 hc with hc|hc
  ·have:=ptx_chr m 32 hc;omega
  ·obtain ⟨l,_,hc⟩:=List.mem_flatMap.1 hc
   rcases List.mem_cons.1 hc with h|hc
   ·omega
   ·have:=ptx_chr l 32 hc;omega
def InV (x:NF):Prop:=∀m∈x,-9223372036854775808≤m.1∧m.1≤9223372036854775807
theorem var_lt {v:Int}(h: -9223372036854775808≤v∧v≤9223372036854775807):ab v<pw 2:=by
 have e:pw 2=18446744073709551616:=by decide
 rw[e];unfold ab;split<;>omega
theorem ptx_size {m:Int×Rat}{n:Nat}(h:Ft m.2 n)(hv: -9223372036854775808≤m.1∧m.1≤9223372036854775807):(ptx m).size≤64*n+72:=by
 unfold ptx
 rw[size_append,size_append]
 have h1:=rtx_size h
 have h2:=wtxt_size (var_lt hv)
 show _+2+_≤_
 omega
theorem gtx_size:∀{x:NF} {N:Nat},Wt x N→InV x→∀s:ByteArray,(x.foldl gst s).size≤s.size+73*N:=by
 intro x N h
 induction h with
 |nil=>intro _ s;simp
 |cons h t hn ih=>
  rename_i m x n N M
  intro hv s
  have h1:=ih (fun m hm=>hv m (List.mem_cons_of_mem _ hm)) (gst s m)
  have h2:=ptx_size h (hv m List.mem_cons_self)
  have h3:(gst s m).size≤s.size+1+(ptx m).size:=by
   unfold gst
   rw[size_append]
   split
   ·omega
   ·rw [size_append];show s.size+1+_≤_;omega
  rw[List.foldl_cons];omega
theorem ftx_size {x:NF}{N:Nat}(h:Wt x N)(hv:InV x):(ftx x).size≤1+73*N:=by
 unfold ftx
 split
 ·show 1≤_;omega
 ·have:=gtx_size h hv (⟨#[]⟩:ByteArray)
  unfold gtx
  have e:(⟨#[]⟩:ByteArray).size=0:=rfl
  omega
theorem nrm_vars {x:NF}{m:Int×Rat}(h:m∈nrm x):∃l∈x,l.1=m.1:=by
 by_cases hx:∃l∈x,l.1=m.1
 ·exact hx
 ·exfalso
  have h0:cf x m.1=0:=cf_out fun l hl e=>hx ⟨l,hl,e⟩
  obtain⟨hn,hc⟩:=nrm_nf x
  rw[←hc m.1]at h0
  obtain⟨a,b,e⟩:=List.append_of_mem h
  have hz:=hn.nz m h
  have hu:=hn.up
  rw[e,List.pairwise_append]at hu
  rw[e,cf_append]at h0
  rw[cf_out (x:=a) fun l hl=>by have:=hu.2.2 l hl m List.mem_cons_self;omega]at h0
  have hb:=(List.pairwise_cons.1 hu.2.1).1
  have h0:(0:Rat)+((if m.1=m.1 then m.2 else 0)+cf b m.1)=0:=h0
  rw[cf_out (x:=b) fun l hl=>by have:=hb l hl;omega,if_pos rfl,Rat.zero_add,Rat.add_zero]at h0
  exact hz h0
theorem InV.nrm {x:NF}(h:InV x):InV (nrm x):=fun m hm=>by
 obtain⟨l,hl,e⟩:=nrm_vars hm
 rw[←e];exact h l hl
theorem InV.scl {x:NF}{c:Rat}(h:InV x):InV (scl c x):=fun m hm=>by
 obtain⟨l,hl,rfl⟩:=scl_mem.1 hm
 exact h l hl
theorem gtx_take (x:NF){i:Nat}(h:i<x.length):gtx (x.take (i+1))=gst (gtx (x.take i)) x[i]:=fold_take _ _ _ h
theorem gtx_pos {x:NF}(h:x≠[]):(gtx x).size≠0:=by
 cases x with
 |nil=>exact absurd rfl h
 |cons m x=>
  intro e
  rw[←lets_len,lets_gtx,List.length_append,lets_len]at e
  have:=ptx_pos m
  omega
theorem Rf.Text_F {f x N}(h:Rf f x N)(hN:N≤1099511627776)(hv:InV x):linear_Text.F (f,())=some (ftx (nrm x),()):=by
 have hw:=h.wt.nrm
 have hv:=hv.nrm
 have hno:=h.Norm_F hN
 generalize nrm x=y at hw hv hno
 have hwl:=hw.len
 obtain⟨j,hj⟩:=allR (L:=fun k i=>linear_Text.L3 k (gtx (y.take i)) (fc y) (y.length:Int) (i:Int)) (r:=(ftx y,())) (n:=y.length)
  (fun k=>(linear_Text.L3_succ _ _ _ _ _).trans (geb (Nat.lt_irrefl _) (by
   rw[List.take_length]
   unfold ftx
   by_cases hy:y=[]
   ·rw [if_pos hy,hy];exact yes (str_yes rfl) rfl
   ·rw [if_neg hy]
    exact no (str_no fun e=>gtx_pos hy (by rw[e];rfl)) rfl)))
  (fun i hi k=>by
   have hif:i<(fc y).length:=by rw[fc_len];exact hi
   have e1:List.getD (fc y) (Int.toNat (i:Int)) zt73=(y[i].1,rcan y[i].2):=(getD_at _ _ hif).trans (fc_get y hif)
   have hm:=hw.mem _ (List.getElem_mem hi)
   have hvi:=hv _ (List.getElem_mem hi)
   have g1:ratio_Text.F ((List.getD (fc y) (Int.toNat (i:Int)) zt73).2,())=some (rtx y[i].2,()):=by rw[e1];exact hm.rt.Text_F hN
   have g2:whole_Of.F ((List.getD (fc y) (Int.toNat (i:Int)) zt73).1,())=some (wc y[i].1,()):=by rw[e1];exact WOf_F hvi
   have g3:whole_Text.F (wc y[i].1,())=some (wtxt y[i].1,()):=Text_W (n:=2) (.of (by have:=var_lt hvi;unfold ab at this;split at this<;>omega)) (by decide)
   have s0:=gtx_size (hw.take i) (fun m hm=>hv m (List.mem_of_mem_take hm)) (⟨#[]⟩:ByteArray)
   have s1:(gtx (y.take i)).size≤73*N:=by unfold gtx;have e:(⟨#[]⟩:ByteArray).size=0:=rfl;omega
   have s2:=rtx_size hm
   have s3:=wtxt_size (var_lt hvi)
   have z1:(⟨#[42,120]⟩:ByteArray).size=2:=rfl
   have z2:(⟨#[43]⟩:ByteArray).size=1:=rfl
   have hgt:=gtx_take y hi
   refine(linear_Text.L3_succ _ _ _ _ _).trans (ltb hi (inb hif ?_))
   by_cases h0:i=0
   ·subst h0
    refine no rfl (st g1 (yes (decide_eq_true (by simp only[z1];omega)) (st g2 (st g3 (yes (decide_eq_true (by simp only[size_append,z1];omega)) (yes (decide_eq_true (by simp only[size_append,z1];omega)) ?_))))))
    show linear_Text.L3 k (gtx (y.take 0)++(rtx y[0].2++(⟨#[42,120]⟩:ByteArray)++wtxt y[0].1)) (fc y) (y.length:Int) (IntKind.i64.wrap (((0:Nat):Int)+1))=_
    rw[up1 (by omega),hgt]
    unfold gst ptx
    rw[if_pos (show (gtx (y.take 0)).size=0 from rfl)]
   ·have hp:(gtx (y.take i)).size≠0:=gtx_pos (by rw[Ne,List.take_eq_nil_iff];intro e;rcases e with e|e;exact h0 e;rw[e]at hi;simp at hi)
    refine yes (decide_eq_true (by omega)) (yes (decide_eq_true (by simp only[z2];omega)) (st g1 (yes (decide_eq_true (by simp only[z1];omega)) (st g2 (st g3 (yes (decide_eq_true (by simp only[size_append,z1];omega)) (yes (decide_eq_true (by simp only[size_append,z1,z2];omega)) ?_)))))))
    show linear_Text.L3 k ((gtx (y.take i)++(⟨#[43]⟩:ByteArray))++(rtx y[i].2++(⟨#[42,120]⟩:ByteArray)++wtxt y[i].1)) (fc y) (y.length:Int) (IntKind.i64.wrap ((i:Int)+1))=_
    rw[up1 (by omega),hgt]
    unfold gst ptx
    rw[if_neg hp])
 refine linear_Text.of (0+j) f (st hno ?_)
 show linear_Text.L3 (0+j) (gtx (y.take 0)) (fc y) ((fc y).length:Int) 0=_
 rw[fc_len];exact hj 0
theorem scl_scl (c d:Rat)(x:NF):scl c (scl d x)=scl (c*d) x:=by
 unfold scl;rw[List.map_map]
 exact List.map_congr_left fun m _=>by simp only[Function.comp,Rat.mul_assoc]
theorem scl_ne {c:Rat}{x:NF}(h:x≠[]):scl c x≠[]:=by
 intro e;have:=scl_len c x;rw[e]at this;exact h (List.length_eq_zero_iff.1 this.symm)
theorem ct_scl {c:Rat}(hc:0<c){y:NF}(h:Nf y)(hne:y≠[]):ct (scl c y)=c*ct y:=
 (isC_ct (h.scl (by rintro rfl;exact absurd hc (by decide))) (scl_ne hne)).unique (scl_ne hne) ((isC_ct h hne).scl hc)
theorem ct_neg {y:NF}(h:Nf y)(hne:y≠[]):ct (scl (-1) y)=ct y:=
 (isC_ct (h.scl (by decide)) (scl_ne hne)).unique (scl_ne hne) (isC_ct h hne).neg
theorem pc_scl {c:Rat}(hc:c≠0){y:NF}(h:Nf y)(hne:y≠[]):pc (scl c y)=c*pc y:=by
 match y,h,hne with
 |m::x,h,hne=>
  have hm:=h.head.1
  have e0:pc (scl c (m::x))=if c*m.2<0 then -(ct (scl c (m::x)))else ct (scl c (m::x)):=rfl
  have e1:pc (m::x)=if m.2<0 then -(ct (m::x))else ct (m::x):=rfl
  rw[e0,e1]
  by_cases h0:0<c
  ·rw [ct_scl h0 h hne]
   by_cases hm0:m.2<0
   ·have:c*m.2<0:=by have:=Rat.mul_pos h0 (show 0< -m.2 by grind);grind
    rw[if_pos hm0,if_pos this];grind
   ·have:¬c*m.2<0:=by have:=Rat.mul_pos h0 (show 0<m.2 by grind);grind
    rw[if_neg hm0,if_neg this]
  ·have hn:0< -c:=by grind
   have e2:scl c (m::x)=scl (-c) (scl (-1) (m::x)):=by rw[scl_scl];congr 1;grind
   rw[e2,ct_scl hn (h.scl (by decide)) (scl_ne hne),ct_neg h hne]
   by_cases hm0:m.2<0
   ·have:¬c*m.2<0:=by have:=Rat.mul_pos hn (show 0< -m.2 by grind);grind
    rw[if_pos hm0,if_neg this];grind
   ·have:c*m.2<0:=by have:=Rat.mul_pos hn (show 0<m.2 by grind);grind
    rw[if_neg hm0,if_pos this];grind
theorem inv_mul {q:Rat}(h:q≠0):q⁻¹*q=1:=by rw[Rat.mul_comm];exact Rat.mul_inv_cancel q h
theorem pr_ne {y:NF}(hne:y≠[]):pr y≠[]:=scl_ne hne
theorem pr_nil_iff {y:NF}:pr y=[]↔y=[]:=by
 constructor
 ·intro h;rcases Classical.em (y=[])with e|e;exact e;exact absurd h (pr_ne e)
 ·rintro rfl;rfl
theorem pc_pr {y:NF}(h:Nf y):pc (pr y)=1:=by
 by_cases hne:y=[]
 ·subst hne;rfl
 ·unfold pr
  rw[pc_scl (inv_ne (pc_ne h)) h hne,inv_mul (pc_ne h)]
def fv (f:Dt40):NF:=f.map fun m=>(m.1,rv m.2)
theorem fv_fc (x:NF):fv (fc x)=x:=by
 unfold fv fc
 rw[List.map_map]
 conv=>rhs;rw[←List.map_id x]
 exact List.map_congr_left fun m _=>by simp only[Function.comp,id,rv_rcan]
def Fm (f:Dt40)(x:NF):Prop:=InV x∧∃N n,Rf f x N∧Ft (pc (nrm x)) n∧N+n+(nrm x).length*n≤1099511627776
def Rq (r:Dt47):Prop:=∃n,Rt r (rv r) n∧n≤1099511627776
structure AtR (a:Dt69):Prop where
 form:Fm a.2.1 (fv a.2.1)
 bound:Rq a.2.2.1
 name:a.1.size≤1099511627776
theorem Fm.pr' {f x N n}(hv:InV x)(h:Rf f x N)(hc:Ft (pc (nrm x)) n)(hN:N+(nrm x).length*n+1+(nrm x).length≤1099511627776):Fm (fc (pr (nrm x))) (pr (nrm x)):=by
 have hn:=(nrm_nf x).1
 have e:nrm (pr (nrm x))=pr (nrm x):=nrm_self (pr_nf hn)
 refine⟨hv.nrm.scl,N+(nrm x).length*n,1,(h.wt.nrm.scl (inv_ft hc (pc_ne hn))).rf,?_,?_⟩
 ·rw [e,pc_pr hn];exact⟨by omega,by decide,by decide,by decide⟩
 ·rw [e,pr_len];omega
theorem Ft.lim {q n}(h:Ft q n):(rcan q).1.2.length≤n∧(rcan q).2.length≤n:=⟨(rnum h).nm.len,(rden h).len⟩
theorem Ft.lb {q n}(h:Ft q n)(hn:n≤1099511627776):Lb (rcan q):=by have:=h.lim;exact⟨by omega,by omega⟩
theorem Rt.lb {r q n}(h:Rt r q n)(hn:n≤1099511627776):Lb r:=⟨by have:=h.num.len;omega,by have:=h.den.len;omega⟩
theorem Rf.lb {f x N}(h:Rf f x N)(hN:N≤1099511627776):LbF f:=by
 have key:∀m∈f,Lb m.2:=by
  induction h with
  |nil=>intro m hm;simp at hm
  |cons h t hle ih=>
   intro m hm
   rcases List.mem_cons.1 hm with rfl|hm
   ·exact h.lb (by omega)
   ·exact ih (by omega) m hm
 exact⟨by rw[h.len];have:=h.wt.len;omega,key⟩
theorem Wt.lb {x N}(h:Wt x N)(hN:N≤1099511627776):LbF (fc x):=h.rf.lb hN
noncomputable def ow (a:Dt69):Dt69:=(a.1,(fc (nrm (fv a.2.1)),(rcan (rv a.2.2.1),a.2.2.2)))
theorem aown_F {a:Dt69}(h:AtR a):atoms_own.F (a,())=some (ow a,()):=by
 obtain⟨_,N,n,hf,hc,hN⟩:=h.form
 obtain⟨m,hr,hm⟩:=h.bound
 exact atoms_own.of 0 a (st (hf.Norm_F (by omega)) (st (hr.Norm_F (by omega)) rfl))
theorem ow_iff (a:Dt69):ow a=a↔rcan (rv a.2.2.1)=a.2.2.1∧fc (nrm (fv a.2.1))=a.2.1:=by
 rw[atom_iff]
 exact⟨fun h=>⟨h.2.2.1,h.2.2.2⟩,fun h=>⟨rfl,rfl,h.1,h.2⟩⟩
theorem normal_F {a:Dt69}(h:AtR a):Tells (atoms_normal.F (a,())) (ow a=a):=by
 rw[ow_iff]
 have ho:=aown_F h
 obtain⟨_,N,n,hf,hc,hN⟩:=h.form
 obtain⟨m,hr,hm⟩:=h.bound
 have t1:=sameRat_F (r:=rcan (rv a.2.2.1)) (s:=a.2.2.1) (hr.ft.lb hm)
 have t2:=sameForm_F (f:=fc (nrm (fv a.2.1))) (g:=a.2.1) (hf.wt.nrm.lb (by omega))
 by_cases h1:rcan (rv a.2.2.1)=a.2.2.1
 case neg=>exact .of_no (fun e=>h1 e.1) (atoms_normal.of 0 a (st ho (st (t1.no h1) rfl)))
 by_cases h2:fc (nrm (fv a.2.1))=a.2.1
 case neg=>exact .of_no (fun e=>h2 e.2) (atoms_normal.of 0 a (st ho (st (t1.yes h1) (st (t2.no h2) rfl))))
 exact .of_yes ⟨h1,h2⟩ (atoms_normal.of 0 a (st ho (st (t1.yes h1) (st (t2.yes h2) rfl))))
noncomputable def tru:Dt69:=(ByteArray.empty,(([]:Dt40),(rcan 0,false)))
def OkC (a:Dt69):Prop:=a.1≠ByteArray.empty∧a.2.1=([]:Dt40)∧a.2.2.1=rcan 0∧a.2.2.2=false
def OkI (a:Dt69):Prop:=a.1=ByteArray.empty∧a.2.1≠([]:Dt40)∧a.2.1=fc (pr (nrm (fv a.2.1)))∧a.2.2.1=rcan (rv a.2.2.1)
def Ok (a:Dt69):Prop:=OkC a∨OkI a
theorem fc_pr {f:Dt40}(h:f=fc (pr (nrm (fv f)))):nrm (fv f)=fv f∧fc (fv f)=f∧pr (nrm (fv f))=nrm (fv f):=by
 have hn:=(nrm_nf (fv f)).1
 have e:fv f=pr (nrm (fv f)):=by
  have:=congrArg fv h
  rw[fv_fc]at this;exact this
 have e2:nrm (fv f)=fv f:=by
  have:=nrm_self (pr_nf hn)
  rw[←e]at this;exact this
 exact⟨e2,by rw[←e]at h;exact h.symm,by rw[←e,e2]⟩
theorem Ok.ow {a:Dt69}(h:Ok a):ow a=a:=by
 rw[ow_iff]
 rcases h with⟨h1,h2,h3,h4⟩|⟨h1,h2,h3,h4⟩
 ·rw [h2,h3,rv_rcan];exact⟨rfl,by rw[show fv []=[]from rfl,nrm_nil];rfl⟩
 ·obtain ⟨e1,e2,_⟩:=fc_pr h3
  exact⟨h4.symm,by rw[e1];exact e2⟩
theorem tru_ow:ow tru=tru:=by
 rw[ow_iff]
 show rcan (rv (rcan 0))=rcan 0∧fc (nrm (fv []))=[]
 rw[rv_rcan,show fv []=[]from rfl,nrm_nil];exact⟨rfl,rfl⟩
theorem len_nil {α:Type}{l:List α}:((l.length:Int)==0)=true↔l=[]:=by
 rw[beq_iff_eq];constructor
 ·intro h;exact List.length_eq_zero_iff.1 (by omega)
 ·rintro rfl;rfl
theorem beq_f {x y:Int}(h:x≠y):(x==y)=false:=beq_eq_false_iff_ne.2 h
theorem sgn_beq {q:Rat}:(sgn q.num==0)=true↔q=0:=by
 rw[beq_iff_eq,sgn_zero,num_zero]
theorem may_F {a:Dt69}(h:AtR a):Tells (atoms_may.F (a,())) (Ok a):=by
 have hn:=normal_F h
 obtain⟨_,N,n,hf,hc,hN⟩:=h.form
 obtain⟨m,hr,hm⟩:=h.bound
 by_cases h0:ow a=a
 case neg=>exact .of_no (fun e=>h0 e.ow) (atoms_may.of 0 a (st (hn.no h0) (yes rfl rfl)))
 obtain⟨hb,hfm⟩:=(ow_iff a).1 h0
 by_cases h1:a.1=ByteArray.empty
 ·have hp:linear_Prime.F (a.2.1,())=some (fc (pr (nrm (fv a.2.1))),rcan (pc (nrm (fv a.2.1))),()):=hf.Prime_F (by omega) hc (by omega)
  have s1:(!(a.1.toList==(⟨#[]⟩:ByteArray).toList))=false:=by rw[show (a.1.toList==(⟨#[]⟩:ByteArray).toList)=true from str_yes h1];rfl
  by_cases h2:fc (pr (nrm (fv a.2.1)))=[]
  ·refine .of_no (fun e=> ?_) (atoms_may.of 0 a (st (hn.yes h0) (no rfl (no s1 (st hp (no (decide_eq_false ?_) rfl))))))
   ·rcases e with e|e
    ·exact e.1 h1
    ·exact e.2.1 (by rw[e.2.2.1,h2])
   ·show ¬(((fc (pr (nrm (fv a.2.1)))).length:Int)>0)
    rw[h2];decide
  ·have hd:decide (((fc (pr (nrm (fv a.2.1)))).length:Int)>0)=true:=decide_eq_true (by
    have:(fc (pr (nrm (fv a.2.1)))).length≠0:=fun e=>h2 (List.length_eq_zero_iff.1 e)
    omega)
   have hw:=hf.wt.nrm.scl (inv_ft hc (pc_ne (nrm_nf _).1))
   have t:=sameForm_F (f:=fc (pr (nrm (fv a.2.1)))) (g:=a.2.1) (hw.lb (by omega))
   by_cases h3:fc (pr (nrm (fv a.2.1)))=a.2.1
   ·exact .of_yes (.inr ⟨h1,by rw[←h3];exact h2,h3.symm,hb.symm⟩) (atoms_may.of 0 a (st (hn.yes h0) (no rfl (no s1 (st hp (yes hd (st (t.yes h3) rfl)))))))
   ·refine .of_no (fun e=> ?_) (atoms_may.of 0 a (st (hn.yes h0) (no rfl (no s1 (st hp (yes hd (st (t.no h3) rfl)))))))
    rcases e with e|e
    ·exact e.1 h1
    ·exact h3 e.2.2.1.symm
 ·have s1:(!(a.1.toList==(⟨#[]⟩:ByteArray).toList))=true:=by rw[show (a.1.toList==(⟨#[]⟩:ByteArray).toList)=false from str_no h1];rfl
  by_cases h2:a.2.1=[]
  case neg=>
   refine .of_no (fun e=> ?_) (atoms_may.of 0 a (st (hn.yes h0) (no rfl (yes s1 (no ?_ rfl)))))
   ·rcases e with e|e
    ·exact h2 e.2.1
    ·exact h1 e.1
   ·exact Bool.eq_false_iff.2 fun e=>h2 (len_nil.1 e)
  have hs:ratio_Sign.F (a.2.2.1,())=some (sgn (rv a.2.2.1).num,()):=hr.Sign_F (by omega)
  by_cases h3:rv a.2.2.1=0
  case neg=>
   refine .of_no (fun e=> ?_) (atoms_may.of 0 a (st (hn.yes h0) (no rfl (yes s1 (yes (len_nil.2 h2) (st hs (no ?_ rfl)))))))
   ·rcases e with e|e
    ·exact h3 (by rw[e.2.2.1,rv_rcan])
    ·exact h1 e.1
   ·exact Bool.eq_false_iff.2 fun e=>h3 (sgn_beq.1 e)
  have H:=atoms_may.of 0 a (st (hn.yes h0) (no rfl (yes s1 (yes (len_nil.2 h2) (st hs (yes (sgn_beq.2 h3) rfl))))))
  refine⟨_,H,?_⟩
  show(!a.2.2.2)=true↔_
  constructor
  ·intro e
   exact .inl ⟨h1,h2,by rw[←hb,h3],by simpa using e⟩
  ·rintro (e|e)
   ·rw [e.2.2.2];rfl
   ·exact absurd e.1 h1
def ktx (a:Dt69):ByteArray:=(if a.2.2.2=true then(⟨#[60]⟩:ByteArray)else(⟨#[61]⟩:ByteArray))++ftx (nrm (fv a.2.1))++(⟨#[32]⟩:ByteArray)++rtx (rv a.2.2.1)++(⟨#[32]⟩:ByteArray)++a.1
theorem key_F {a:Dt69}(h:AtR a):atoms_key.F (a,())=some (ktx a,()):=by
 obtain⟨hv,N,n,hf,hc,hN⟩:=h.form
 obtain⟨m,hr,hm⟩:=h.bound
 have h1:=hf.Text_F (by omega) hv
 have h2:=hr.Text_F hm
 have s1:=ftx_size hf.wt.nrm hv.nrm
 have s2:=rtx_size hr.ft
 have s3:=h.name
 have z1:(⟨#[32]⟩:ByteArray).size=1:=rfl
 have z2:(⟨#[60]⟩:ByteArray).size=1:=rfl
 have z3:(⟨#[61]⟩:ByteArray).size=1:=rfl
 refine atoms_key.of 0 a ?_
 cases hb:a.2.2.2 with
 |true=>
  refine yes hb (st h1 (yes (decide_eq_true ?_) (yes (decide_eq_true ?_) (st h2 (yes (decide_eq_true ?_) (yes (decide_eq_true ?_) (yes (decide_eq_true ?_) ?_)))))))
  iterate 5 (simp only[size_append,z1,z2];omega)
  unfold ktx;rw[if_pos hb]
 |false=>
  refine no hb (st h1 (yes (decide_eq_true ?_) (yes (decide_eq_true ?_) (st h2 (yes (decide_eq_true ?_) (yes (decide_eq_true ?_) (yes (decide_eq_true ?_) ?_)))))))
  iterate 5 (simp only[size_append,z1,z3];omega)
  unfold ktx;rw[if_neg (by rw[hb];decide)]
theorem lets_ktx (a:Dt69):lets (ktx a)=(if a.2.2.2=true then 60 else 61)::(lets (ftx (nrm (fv a.2.1)))++32::(lets (rtx (rv a.2.2.1))++32::lets a.1)):=by
 unfold ktx
 simp only[lets_append]
 cases a.2.2.2<;>simp[lets]
theorem key_inj {a b:Dt69}(ha:ow a=a)(hb:ow b=b)(h:ktx a=ktx b):a=b:=by
 have h:=congrArg lets h
 rw[lets_ktx,lets_ktx]at h
 obtain⟨h1,h2⟩:=List.cons.inj h
 obtain⟨h3,h4⟩:=cut_at (ftx_chr _) (ftx_chr _) h2
 have no:∀q:Rat,(32:Int)∉lets (rtx q):=fun q hc=>by have:=rtx_chr q 32 hc;omega
 obtain⟨h5,h6⟩:=cut_at (no _) (no _) h4
 rw[←ha,←hb]
 unfold ow
 rw[ftx_inj h3,rtx_inj h5,ba_ext h6]
 have:a.2.2.2=b.2.2.2:=by
  cases e1:a.2.2.2<;>cases e2:b.2.2.2<;>rw[e1,e2]at h1<;>first|rfl|simp at h1
 rw[this]
end Go.Fx.Tryz
